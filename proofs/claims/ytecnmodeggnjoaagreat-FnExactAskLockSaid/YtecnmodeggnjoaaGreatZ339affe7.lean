/- Several of our texts, one behind the other, without what this claim does not need: AcR. -/
import Derived.Test.YtecnmodeggnjoaaGreatZ5fce73b2
set_option linter.unusedVariables false
set_option linter.unusedSimpArgs false
namespace Go.Proofs.YtecnmodeggnjoaaGreat.Ac
open Go.RowKit
abbrev Es := List (Nat × T)
abbrev Hs := List (Nat × Option Ob)
theorem get_append {α : Type} (u v : List (Nat × α)) (n : Nat) : get (u ++ v) n = match get u n with | some x => some x | none => get v n := by
  induction u with
  | nil => rfl
  | cons x u ih =>
    obtain ⟨m, o⟩ := x
    simp only [List.cons_append, get]
    cases Nat.beq m n <;> simp [ih]
theorem putH_get (u hs : Hs) : putH u (get hs) = get (u ++ hs) := by
  funext n
  rw [get_append]
  simp only [putH]
  cases get u n <;> rfl
def addE (d : Option Tmp) (v : T) (es : Es) : Es := match d with
  | some d => (d, v) :: es
  | none => es
theorem putE_get (d : Option Tmp) (v : T) (es : Es) : putE d v (get es) = get (addE d v es) := by
  cases d <;> rfl
theorem get_mem {α : Type} {l : List (Nat × α)} {n : Nat} {x : α} (hx : get l n = some x) : (n, x) ∈ l := by
  induction l with
  | nil => cases hx
  | cons y l ih =>
    obtain ⟨m, v⟩ := y
    simp only [get] at hx
    cases hb : Nat.beq m n
    · rw [hb] at hx; exact List.mem_cons_of_mem _ (ih hx)
    · rw [hb] at hx
      cases hx
      rw [Nat.eq_of_beq_eq_true hb]; exact List.mem_cons_self
def rn (r : List (Nat × Nat)) (n : Nat) : Nat := (get r n).getD n
mutual
def rnA (r : List (Nat × Nat)) : A → A
  | .f x => .f x
  | .nl => .nl
  | .un k => .un k
  | .row n lo hi => .row (rn r n) lo hi
  | .pt n i off => .pt (rn r n) i off
  | .mp n => .mp (rn r n)
  | .ow wd es => .ow wd (rnR r es)
  | .cl f caps => .cl f (rnP r caps)
def rnC (r : List (Nat × Nat)) : List A → List A
  | [] => []
  | x :: l => rnA r x :: rnC r l
def rnR (r : List (Nat × Nat)) : List (List A) → List (List A)
  | [] => []
  | e :: l => rnC r e :: rnR r l
def rnP (r : List (Nat × Nat)) : List (Bool × List A) → List (Bool × List A)
  | [] => []
  | (ag, cs) :: l => (ag, rnC r cs) :: rnP r l
end
def hasN (hs : Hs) (n : Nat) : Bool := match get hs n with | some _ => true | none => false
mutual
def inA (hs : Hs) : A → Bool
  | .f _ => true
  | .nl => true
  | .un _ => true
  | .row n _ _ => hasN hs n
  | .pt n _ _ => hasN hs n
  | .mp n => hasN hs n
  | .ow _ es => inR hs es
  | .cl _ caps => inP hs caps
def inC (hs : Hs) : List A → Bool
  | [] => true
  | x :: l => inA hs x && inC hs l
def inR (hs : Hs) : List (List A) → Bool
  | [] => true
  | e :: l => inC hs e && inR hs l
def inP (hs : Hs) : List (Bool × List A) → Bool
  | [] => true
  | (_, cs) :: l => inC hs cs && inP hs l
end
mutual
/-- A cell that names no row. -/
def clA : A → Prop
  | .f _ => True
  | .nl => True
  | .un _ => True
  | .row _ _ _ => False
  | .pt _ _ _ => False
  | .mp _ => False
  | .ow _ es => clR es
  | .cl _ _ => False
def clC : List A → Prop
  | [] => True
  | x :: l => clA x ∧ clC l
def clR : List (List A) → Prop
  | [] => True
  | e :: l => clC e ∧ clR l
end
mutual
theorem rn_cl (r : List (Nat × Nat)) : ∀ {x : A}, clA x → rnA r x = x
  | .f _, _ => rfl
  | .nl, _ => rfl
  | .un _, _ => rfl
  | .ow wd es, h => congrArg (A.ow wd) (rnR_cl r h)
  | .row _ _ _, h => h.elim
  | .pt _ _ _, h => h.elim
  | .mp _, h => h.elim
  | .cl _ _, h => h.elim
theorem rnC_cl (r : List (Nat × Nat)) : ∀ {l : List A}, clC l → rnC r l = l
  | [], _ => rfl
  | x :: l, h => by rw [rnC, rn_cl r h.1, rnC_cl r h.2]
theorem rnR_cl (r : List (Nat × Nat)) : ∀ {l : List (List A)}, clR l → rnR r l = l
  | [], _ => rfl
  | e :: l, h => by rw [rnR, rnC_cl r h.1, rnR_cl r h.2]
end
theorem cl_mp : ∀ l : List (Int × Value), clR (mpR l)
  | [] => trivial
  | x :: l => ⟨⟨trivial, trivial, trivial⟩, cl_mp l⟩
mutual
theorem in_cl (hs : Hs) : ∀ {x : A}, clA x → inA hs x = true
  | .f _, _ => rfl
  | .nl, _ => rfl
  | .un _, _ => rfl
  | .ow wd es, h => inR_cl hs h
  | .row _ _ _, h => h.elim
  | .pt _ _ _, h => h.elim
  | .mp _, h => h.elim
  | .cl _ _, h => h.elim
theorem inC_cl (hs : Hs) : ∀ {l : List A}, clC l → inC hs l = true
  | [], _ => rfl
  | x :: l, h => by rw [inC, in_cl hs h.1, inC_cl hs h.2]; rfl
theorem inR_cl (hs : Hs) : ∀ {l : List (List A)}, clR l → inR hs l = true
  | [], _ => rfl
  | e :: l, h => by rw [inR, inC_cl hs h.1, inR_cl hs h.2]; rfl
end
theorem rnC_map (r : List (Nat × Nat)) : ∀ l : List A, rnC r l = l.map (rnA r)
  | [] => rfl
  | x :: l => by rw [rnC, rnC_map r l]; rfl
theorem rnR_map (r : List (Nat × Nat)) : ∀ l : List (List A), rnR r l = l.map (·.map (rnA r))
  | [] => rfl
  | e :: l => by rw [rnR, rnR_map r l, rnC_map]; rfl
theorem rnP_map (r : List (Nat × Nat)) : ∀ l : List (Bool × List A), rnP r l = l.map fun x => (x.1, x.2.map (rnA r))
  | [] => rfl
  | (ag, cs) :: l => by rw [rnP, rnP_map r l, rnC_map]; rfl
theorem inC_all (hs : Hs) : ∀ {l : List A}, inC hs l = true → ∀ x ∈ l, inA hs x = true
  | [], _, x, hx => by cases hx
  | y :: l, h, x, hx => by
    simp only [inC, Bool.and_eq_true] at h
    rcases List.mem_cons.1 hx with rfl | hx
    · exact h.1
    · exact inC_all hs h.2 x hx
theorem inR_all (hs : Hs) : ∀ {l : List (List A)}, inR hs l = true → ∀ e ∈ l, inC hs e = true
  | [], _, x, hx => by cases hx
  | y :: l, h, x, hx => by
    simp only [inR, Bool.and_eq_true] at h
    rcases List.mem_cons.1 hx with rfl | hx
    · exact h.1
    · exact inR_all hs h.2 x hx
theorem inP_all (hs : Hs) : ∀ {l : List (Bool × List A)}, inP hs l = true → ∀ x ∈ l, inC hs x.2 = true
  | [], _, x, hx => by cases hx
  | (ag, cs) :: l, h, x, hx => by
    simp only [inP, Bool.and_eq_true] at h
    rcases List.mem_cons.1 hx with rfl | hx
    · exact h.1
    · exact inP_all hs h.2 x hx
inductive Frz (K : Nat → Ob → Prop) : A → L → Prop
  | f (x : L) : Frz K (.f x) x
  | nl (wd : Nat) : Frz K .nl (.sl wd [])
  | ow (wd : Nat) (es : List (List A)) (ls : List (List L)) (hlen : es.length = ls.length) (hl : ∀ (i : Nat) e l, es[i]? = some e → ls[i]? = some l → e.length = l.length) (h : ∀ (i : Nat) e l (j : Nat) x y, es[i]? = some e → ls[i]? = some l → e[j]? = some x → l[j]? = some y → Frz K x y) : Frz K (.ow wd es) (.sl wd ls)
  | row (m lo hi : Nat) (ob : Ob) (ls : List (List L)) (hm : K m ob) (hlen : ((ob.es.take hi).drop lo).length = ls.length) (hl : ∀ (i : Nat) e l, ((ob.es.take hi).drop lo)[i]? = some e → ls[i]? = some l → e.length = l.length)
      (h : ∀ (i : Nat) e l (j : Nat) x y, ((ob.es.take hi).drop lo)[i]? = some e → ls[i]? = some l → e[j]? = some x → l[j]? = some y → Frz K x y) : Frz K (.row m lo hi) (.sl ob.wd ls)
  | pt (n i off : Nat) (ob : Ob) (e : List A) (ls : List L) (hn : K n ob) (hne : ls ≠ []) (he : ob.es[i]? = some e) (hlen : ls.length ≤ (e.drop off).length) (h : ∀ (j : Nat) x y, (e.drop off)[j]? = some x → ls[j]? = some y → Frz K x y) : Frz K (.pt n i off) (.pv ls)
def FrzR (K : Nat → Ob → Prop) (es : List (List A)) (ls : List (List L)) : Prop := es.length = ls.length ∧ (∀ (i : Nat) e l, es[i]? = some e → ls[i]? = some l → e.length = l.length) ∧ ∀ (i : Nat) e l (j : Nat) x y, es[i]? = some e → ls[i]? = some l → e[j]? = some x → l[j]? = some y → Frz K x y
def kept (r : List (Nat × Nat)) (hs' : Hs) (m : Nat) : Bool := hs'.any fun x => Nat.beq (rn r x.1) m
def gone (r : List (Nat × Nat)) (g : Hp) (hs' : Hs) (m : Nat) (ob : Ob) : Prop := g m = some (some ob) ∧ kept r hs' m = false ∧ Nat.beq ob.fl 4 = false
def FrzN (r : List (Nat × Nat)) (g : Hp) (hs' : Hs) (m lo hi wd : Nat) (ls : List (List L)) : Prop := match g m with
  | some (some ob) => ob.wd = wd ∧ Nat.beq ob.fl 4 = false ∧ FrzR (gone r g hs') ((ob.es.take hi).drop lo) ls ∧ kept r hs' m = false
  | _ => False
def frzC (K : Nat → Ob → Prop) : List A → List L → Prop
  | _, [] => True
  | x :: xs, y :: ys => Frz K x y ∧ frzC K xs ys
  | [], _ :: _ => False
def FrzP (r : List (Nat × Nat)) (g : Hp) (hs' : Hs) (n i off : Nat) (ls : List L) : Prop := match g n with
  | some (some ob) => ls ≠ [] ∧ Nat.beq ob.fl 4 = false ∧ (∃ e, ob.es[i]? = some e ∧ frzC (gone r g hs') (e.drop off) ls) ∧ kept r hs' n = false
  | _ => False
def bzA (r : List (Nat × Nat)) (g : Hp) (hs' : Hs) (x : A) (l : L) : Prop := match x, l with
  | .f y, l => y = l
  | .nl, .sl _ ls => ls = []
  | .row m lo hi, .sl wd ls => FrzN r g hs' m lo hi wd ls
  | .pt n i off, .pv ls => FrzP r g hs' n i off ls
  | _, _ => False
def bzC (r : List (Nat × Nat)) (g : Hp) (hs' : Hs) : List A → List L → Prop
  | [], [] => True
  | x :: xs, y :: ys => bzA r g hs' x y ∧ bzC r g hs' xs ys
  | _, _ => False
def bzP (r : List (Nat × Nat)) (g : Hp) (hs' : Hs) : List (Bool × List A) → List (Bool × List L) → Prop
  | [], [] => True
  | x :: xs, y :: ys => x.1 = y.1 ∧ bzC r g hs' x.2 y.2 ∧ bzP r g hs' xs ys
  | _, _ => False
def tlA (fz : Bool) (r : List (Nat × Nat)) (g : Hp) (hs' : Hs) (x y : A) : Prop := match x, y with
  | _, .un none => True
  | .f z, .f l => z = l
  | .cl f caps, .f (.cl f' ls) => cond fz (f = f' ∧ bzP r g hs' caps ls) False
  | x, .f l => cond fz (bzA r g hs' x l) False
  | .nl, .row n lo hi => lo = 0 ∧ hi = 0 ∧ g (rn r n) = none
  | .row m lo hi, .un (some k) => k = hi - lo ∧ match g m with
    | some (some ob) => Nat.beq ob.fl 4 = false
    | _ => False
  | x, y => x = rnA r y
def tlC (fz : Bool) (r : List (Nat × Nat)) (g : Hp) (hs' : Hs) : List A → List A → Prop
  | [], [] => True
  | x :: xs, y :: ys => tlA fz r g hs' x y ∧ tlC fz r g hs' xs ys
  | _, _ => False
def tlR (fz : Bool) (r : List (Nat × Nat)) (g : Hp) (hs' : Hs) : List (List A) → List (List A) → Prop
  | [], [] => True
  | x :: xs, y :: ys => tlC fz r g hs' x y ∧ tlR fz r g hs' xs ys
  | _, _ => False
def tlVs (fz : Bool) (r : List (Nat × Nat)) (g : Hp) (hs' : Hs) : List (Bool × List A) → List (Bool × List A) → Prop
  | [], [] => True
  | x :: xs, y :: ys => x.1 = y.1 ∧ tlC fz r g hs' x.2 y.2 ∧ tlVs fz r g hs' xs ys
  | _, _ => False
def tlT (fz : Bool) (r : List (Nat × Nat)) (g : Hp) (hs' : Hs) (x y : T) : Prop := match x, y with
  | _, .bot => True
  | .val ag cs, .val ag' cs' => ag = ag' ∧ tlC fz r g hs' cs cs'
  | .tu vs, .tu vs' => tlVs fz r g hs' vs vs'
  | _, _ => False
def inT (hs : Hs) : T → Bool
  | .val _ cs => inC hs cs
  | .tu vs => inP hs vs
  | .bot => true
def inO (hs : Hs) : Option Ob → Bool
  | some ob => cond (Nat.beq ob.fl 3) (inR hs ob.es) true
  | none => true
def subE (fz : Bool) (r : List (Nat × Nat)) (g : Hp) (hs' : Hs) (e : Env) : Es → Prop
  | [] => True
  | (t, y) :: l => (match e t with
    | some x => tlT fz r g hs' x y
    | none => False) ∧ subE fz r g hs' e l
def tlO (fz : Bool) (r : List (Nat × Nat)) (g : Hp) (hs' : Hs) (n : Nat) (o : Option Ob) : Prop := match o with
  | none => True
  | some ob' => match g (rn r n) with
    | some (some ob) => ob.wd = ob'.wd ∧ (ob'.fl = 0 ∧ Nat.beq ob.fl 4 = false ∨ ob'.fl = ob.fl) ∧ cond (Nat.beq ob'.fl 3) (tlR fz r g hs' ob.es ob'.es) (ob.es = ob'.es ∧ clR ob'.es)
    | some none => False
    | none => ob'.es = [] ∧ ob'.fl = 0 ∧ 0 < ob'.wd
def subH (fz : Bool) (r : List (Nat × Nat)) (g : Hp) (hs' : Hs) : Hs → Prop
  | [] => True
  | (n, o) :: l => tlO fz r g hs' n o ∧ subH fz r g hs' l
def liveH (hs : Hs) : Hs := hs.filter fun x => x.2.isSome
def subB (fp : List Nat) (r : List (Nat × Nat)) (es' : Es) (hs' : Hs) : Bool := es'.all (fun x => inT hs' x.2) && hs'.all (fun x => inO hs' x.2) && nodupB ((liveH hs').map fun x => rn r x.1) && fp.all (fun n => hasN hs' n && Nat.beq (rn r n) n)
def Sub (fp : List Nat) (r : List (Nat × Nat)) (es' : Es) (hs' : Hs) (e : Env) (g : Hp) : Prop := subB fp r es' hs' = true ∧ subE true r g hs' e es' ∧ subH true r g hs' hs'
section
variable {r : List (Nat × Nat)} {hs' : Hs} {h : Array Obj} {g : Hp} {φ : Phi} {out : Nat → Prop}
noncomputable def ph (r : List (Nat × Nat)) (hs' : Hs) (g : Hp) (φ : Phi) (out : Nat → Prop) : Phi := ⟨fun X => match get hs' X.1, g (rn r X.1) with
  | some (some _), some _ => φ (rn r X.1, X.2)
  | _, _ => none, out⟩
theorem ph_live {n : Nat} {ob ob' : Ob} (h1 : get hs' n = some (some ob')) (h2 : g (rn r n) = some (some ob)) (q : List (Nat × Nat)) : (ph r hs' g φ out) (n, q) = φ (rn r n, q) := by simp [ph, h1, h2]
theorem ph_some {X : Place} {hd : Hd} (hX : (ph r hs' g φ out) X = some hd) : φ (rn r X.1, X.2) = some hd ∧ ∃ ob', get hs' X.1 = some (some ob') := by
  simp only [ph] at hX
  split at hX
  · rename_i ob' _ h1 _; exact ⟨hX, ob', h1⟩
  · cases hX
theorem nodupB_inj {α : Type} {f : Nat → Nat} : ∀ {l : List (Nat × α)}, nodupB (l.map fun x => f x.1) = true → ∀ {m n : Nat} {x y : α}, (m, x) ∈ l → (n, y) ∈ l → f m = f n → m = n
  | [], _, _, _, _, _, hm, _, _ => by cases hm
  | z :: l, hd, m, n, x, y, hm, hn, he => by
    simp only [List.map_cons, nodupB] at hd
    cases hb : memN (f z.1) (l.map fun x => f x.1) with
    | true => rw [hb] at hd; cases hd
    | false =>
      rw [hb] at hd
      have no : ∀ {k : Nat} {v : α}, (k, v) ∈ l → f z.1 ≠ f k := fun hk e => by
        have : f z.1 ∈ l.map fun x => f x.1 := List.mem_map.2 ⟨_, hk, e.symm⟩
        rw [memN_iff.2 this] at hb; cases hb
      rcases List.mem_cons.1 hm with rfl | hm2
      · rcases List.mem_cons.1 hn with h | hn2
        · cases h; rfl
        · exact absurd he (no hn2)
      · rcases List.mem_cons.1 hn with rfl | hn2
        · exact absurd he.symm (no hm2)
        · exact nodupB_inj hd hm2 hn2 he
theorem nodupB_live {f : Nat → Nat} : ∀ {l : Hs}, nodupB (l.map fun x => f x.1) = true → nodupB ((liveH l).map fun x => f x.1) = true
  | [], _ => rfl
  | x :: l, h => by
    simp only [List.map_cons, nodupB] at h
    cases hb : memN (f x.1) (l.map fun x => f x.1) with
    | true => rw [hb] at h; cases h
    | false =>
      rw [hb] at h
      have ih := nodupB_live (l := l) h
      unfold liveH at ih ⊢
      rw [List.filter_cons]
      split
      · simp only [List.map_cons, nodupB]
        have : memN (f x.1) ((l.filter fun x => x.2.isSome).map fun x => f x.1) = false := by
          cases hc : memN (f x.1) ((l.filter fun x => x.2.isSome).map fun x => f x.1) with
          | false => rfl
          | true =>
            obtain ⟨y, hy, e⟩ := List.mem_map.1 (memN_iff.1 hc)
            have : memN (f x.1) (l.map fun x => f x.1) = true := memN_iff.2 (List.mem_map.2 ⟨y, (List.mem_filter.1 hy).1, e⟩)
            rw [hb] at this; cases this
        rw [this]; exact ih
      · exact ih
theorem subH_get {fz : Bool} : ∀ {l : Hs}, subH fz r g hs' l → ∀ {n : Nat} {o : Option Ob}, (n, o) ∈ l → tlO fz r g hs' n o
  | [], _, _, _, hm => by cases hm
  | _ :: l, s, n, o, hm => by
    rcases List.mem_cons.1 hm with rfl | hm
    · exact s.1
    · exact subH_get s.2 hm
theorem own_ph (ho : ∀ b, out b → Own φ b) {b : Nat} (h : Own (ph r hs' g φ out) b) : Own φ b := by
  rcases h with h | ⟨X, hd, hX, rfl⟩
  · exact ho b h
  · exact .inr ⟨_, hd, (ph_some hX).1, rfl⟩
theorem frzRow_core (ok : HeapOK h g φ) {O : Nat → Prop} {m lo hi fl wd : Nat} {es : List (List A)} (hn : g m = some (some ⟨fl, wd, es⟩)) (hf4 : fl ≠ 4) {ls : List (List L)} (hf : ((es.take hi).drop lo).length = ls.length ∧ (∀ (i : Nat) e l, ((es.take hi).drop lo)[i]? = some e → ls[i]? = some l → e.length = l.length) ∧ ∀ (i : Nat) e l (j : Nat) x y, ((es.take hi).drop lo)[i]? = some e → ls[i]? = some l → e[j]? = some x → l[j]? = some y → ∀ {X : Place} {u : Value}, RepA h g φ X x u → (∀ q hd, φ (X.1, q ++ X.2) = some hd → ¬ O hd.b) → RepL h O y u) {u : Value} (r : RefRow g φ m lo hi u) (hno : ∀ q hd, φ (m, q) = some hd → ¬ O hd.b) : RepL h O (.sl wd ls) u := by
  obtain ⟨h1, h2, a, cap, hu⟩ := (by
    have r3 := r.2
    rw [hn] at r3
    obtain ⟨h1, h2, r3⟩ := r3
    refine ⟨h1, h2, ?_⟩
    cases hp : φ (m, []) with
    | none =>
      rw [hp] at r3
      obtain ⟨a', rfl⟩ := r3
      exact ⟨a', 0, rfl⟩
    | some hd =>
      rw [hp] at r3
      obtain ⟨a', rfl, _⟩ := r3
      exact ⟨a', 0, rfl⟩ : lo ≤ hi ∧ hi ≤ es.length ∧ ∃ (a : Option Addr) (cap : Nat), u = u)
  have hlen : ((es.take hi).drop lo).length = hi - lo := by simp; omega
  have hl := hf.1
  rw [hlen] at hl
  have r3 := r.2
  rw [hn] at r3
  obtain ⟨_, _, r3⟩ := r3
  dsimp only at r3
  by_cases hne : ls = []
  · subst hne
    cases hp : φ (m, []) with
    | none => rw [hp] at r3; obtain ⟨a, rfl⟩ := r3; exact .nil _ _ _
    | some hd => rw [hp] at r3; obtain ⟨a, rfl, _⟩ := r3; simp only [List.length_nil] at hl; rw [hl]; exact .nil _ _ _
  · have hpos : lo < hi := by
      have : 0 < ls.length := List.length_pos_iff.2 hne
      omega
    rcases ((ok.ob m _ hn).row hf4) with ⟨h0, _⟩ | ⟨hd, c, ty, g1, g2, g3, g4, g5⟩
    · simp only at h0; subst h0; simp at h2; omega
    · rw [g1] at r3
      obtain ⟨a, rfl, ha⟩ := r3
      dsimp only at g3 g5
      rw [ha (.inr (by have := g3.le; omega)), hl]
      refine .sl wd ls hd.b (hd.off + lo * wd) (hd.cap - lo) c ty (0, 0) g3.wd0 hne g2 (hno [] hd g1) (fun l hm => ?_) ?_ (by have := g3.le; omega) fun i l j y hi' hj => ?_
      · obtain ⟨i, hi', rfl⟩ := List.mem_iff_getElem.1 hm
        have hie : i < ((es.take hi).drop lo).length := by omega
        rw [← hf.2.1 i _ ls[i] (List.getElem?_eq_getElem hie) (List.getElem?_eq_getElem hi')]
        exact g3.len _ (List.mem_of_mem_take (List.mem_of_mem_drop (List.getElem_mem _)))
      · rw [g3.size, ← hl, Nat.add_assoc, ← Nat.add_mul]
        exact Nat.add_le_add_left (Nat.mul_le_mul_right _ (by have := g3.le; omega)) _
      · have hil := (List.getElem?_eq_some_iff.1 hi').1
        have hie : i < ((es.take hi).drop lo).length := by omega
        have he := List.getElem?_eq_getElem hie
        have hel := hf.2.1 i _ _ he hi'
        have hjl := (List.getElem?_eq_some_iff.1 hj).1
        have hx : (((es.take hi).drop lo)[i])[j]? = some ((((es.take hi).drop lo)[i])[j]'(by omega)) := List.getElem?_eq_getElem _
        have he2 : es[lo + i]? = some (((es.take hi).drop lo)[i]) := by
          rw [List.getElem?_drop, List.getElem?_take] at he
          split at he
          · exact he
          · cases he
        have := hf.2.2 i _ _ j _ _ he hi' hx hj (g5 (lo + i) _ j _ he2 hx) fun q hd' hq => hno _ hd' hq
        rw [Nat.add_mul] at this
        rw [show hd.off + lo * wd + i * wd + j = hd.off + (lo * wd + i * wd) + j by omega]
        exact this
theorem frzPt_core (ok : HeapOK h g φ) {O : Nat → Prop} {n fl wd : Nat} {es : List (List A)} (hn : g n = some (some ⟨fl, wd, es⟩)) (hf4 : fl ≠ 4) {i off : Nat} {e : List A} {ls : List L} (hne : ls ≠ []) (he : es[i]? = some e) (hlen : ls.length ≤ (e.drop off).length)
    (hfr : ∀ (j : Nat) x y, (e.drop off)[j]? = some x → ls[j]? = some y → ∀ {X : Place} {u : Value}, RepA h g φ X x u → (∀ q hd, φ (X.1, q ++ X.2) = some hd → ¬ O hd.b) → RepL h O y u) {u : Value} (rx : RepE h g φ (.pt n i off) u) (hno : ∀ q hd, φ (n, q) = some hd → ¬ O hd.b) : RepL h O (.pv ls) u := by
  obtain ⟨hd, hp, rfl, c, ty, hb, hrow, hfl, hcell⟩ := ref_row ok hn hf4 rx
  obtain ⟨hel, hin⟩ := hrow.in he
  rw [List.length_drop] at hlen
  have hpos : 0 < ls.length := List.length_pos_iff.2 hne
  refine .pv ls hd.b (hd.off + i * wd + off) c ty (0, 0) hne hb (hno [] hd hp) (by omega) fun j y hj => ?_
  have hjl := (List.getElem?_eq_some_iff.1 hj).1
  have hx : (e.drop off)[j]? = some (e[off + j]'(by omega)) := by rw [List.getElem?_drop]; exact List.getElem?_eq_getElem _
  have hx2 : e[off + j]? = some (e[off + j]'(by omega)) := List.getElem?_eq_getElem _
  rw [Nat.add_assoc]
  exact hfr j _ _ hx hj (hcell i e (off + j) _ he hx2) fun q hd' hq => hno _ hd' hq
theorem frz_ok (ok : HeapOK h g φ) {O : Nat → Prop} (hO : ∀ b, O b → Own φ b) {K : Nat → Ob → Prop} (hK : ∀ m ob, K m ob → g m = some (some ob) ∧ ob.fl ≠ 4 ∧ ∀ q hd, φ (m, q) = some hd → ¬ O hd.b) : ∀ {x : A} {y : L}, Frz K x y → ∀ {X : Place} {u : Value}, RepA h g φ X x u → (∀ q hd, φ (X.1, q ++ X.2) = some hd → ¬ O hd.b) → RepL h O y u := by
  intro x y hf
  induction hf with
  | f x =>
    intro X u r _
    cases r with
    | e _ _ _ r => cases r with
      | f _ _ r => exact r.less hO
  | nl wd =>
    intro X u r _
    cases r with
    | e _ _ _ r => cases r with
      | nl a => exact .nil _ _ _
  | ow wd es ls hlen hl hh ih =>
    intro X u r hn
    cases r with
    | e _ _ _ r => cases r
    | nilo _ _ a hw hX =>
      have : ls = [] := List.eq_nil_of_length_eq_zero hlen.symm
      subst this; exact .nil _ _ _
    | ow _ _ _ hd c ty hX hb okr hr =>
      by_cases hne : ls = []
      · subst hne
        have : es = [] := List.eq_nil_of_length_eq_zero (by simpa using hlen)
        subst this; exact .nil _ _ _
      · rw [hlen]
        refine .sl wd ls hd.b hd.off hd.cap c ty (0, 0) okr.wd0 hne hb (hn [] hd hX) (fun l hm => ?_) ?_ (by rw [← hlen]; exact okr.le) fun i l j y hi hj => ?_
        · obtain ⟨i, hi, rfl⟩ := List.mem_iff_getElem.1 hm
          have hie : i < es.length := by omega
          rw [← hl i es[i] ls[i] (List.getElem?_eq_getElem hie) (List.getElem?_eq_getElem hi)]
          exact okr.len _ (List.getElem_mem _)
        · rw [okr.size, ← hlen]; exact Nat.add_le_add_left (Nat.mul_le_mul_right _ okr.le) _
        · have hil := (List.getElem?_eq_some_iff.1 hi).1
          have hie : i < es.length := by omega
          have he := List.getElem?_eq_getElem hie
          have hel := hl i _ _ he hi
          have hjl := (List.getElem?_eq_some_iff.1 hj).1
          have hx : (es[i])[j]? = some ((es[i])[j]'(by omega)) := List.getElem?_eq_getElem _
          exact ih i _ _ j _ _ he hi hx hj (hr i _ j _ he hx) fun q hd' hq => hn (q ++ [(i, j)]) hd' (by simpa using hq)
  | row m lo hi ob ls hm hlen hl hh ih =>
    intro X u r _
    obtain ⟨g1, g2, g3⟩ := hK m ob hm
    obtain ⟨fl, wd, es⟩ := ob
    cases r with
    | e _ _ _ r => cases r with
      | row _ _ _ _ r => exact frzRow_core ok g1 g2 ⟨hlen, hl, fun i e l j x y h1 h2 h3 h4 => ih i e l j x y h1 h2 h3 h4⟩ r g3
  | pt n i off ob e ls hn hne he hlen hh ih =>
    intro X u r _
    obtain ⟨g1, g2, g3⟩ := hK n ob hn
    obtain ⟨fl, wd, es⟩ := ob
    cases r with
    | e _ _ _ r => exact frzPt_core ok g1 g2 hne he hlen (fun j x y h1 h2 => ih j x y h1 h2) r g3
theorem frzR_ok (ok : HeapOK h g φ) {O : Nat → Prop} (hO : ∀ b, O b → Own φ b) {K : Nat → Ob → Prop} (hK : ∀ m ob, K m ob → g m = some (some ob) ∧ ob.fl ≠ 4 ∧ ∀ q hd, φ (m, q) = some hd → ¬ O hd.b) {m lo hi fl wd : Nat} {es : List (List A)} (hn : g m = some (some ⟨fl, wd, es⟩)) (hf4 : fl ≠ 4) {ls : List (List L)} (hf : FrzR K ((es.take hi).drop lo) ls) {u : Value} (r : RefRow g φ m lo hi u) (hno : ∀ q hd, φ (m, q) = some hd → ¬ O hd.b) : RepL h O (.sl wd ls) u :=
  frzRow_core ok hn hf4 ⟨hf.1, hf.2.1, fun i e l j x y h1 h2 h3 h4 => frz_ok ok hO hK (hf.2.2 i e l j x y h1 h2 h3 h4)⟩ r hno
end
end Go.Proofs.YtecnmodeggnjoaaGreat.Ac
