/- Several of our texts, one behind the other, without what this claim does not need: AcA, AcB, AcC, AcD, AcE, AcF, AcG, AcH, AcI, AcJ, AcK, AcL, AcM, AcN. -/
import Derived.Orders
import Derived.Below
import Derived.Lib.SlicesS
import Derived.MapKept
set_option linter.unusedVariables false
set_option linter.unusedSimpArgs false
namespace Go.Proofs.Ytfafehhallbjiaa.Ac
open Go.RowKit
inductive L where
  | v (x : Value)
  | sl (wd : Nat) (es : List (List L))
  | pv (x : List L)
  | cl (f : FuncId) (caps : List (Bool × List L))
inductive A where
  | f (x : L)
  | nl
  | un (k : Option Nat)
  | row (n lo hi : Nat)
  | pt (n i off : Nat)
  | mp (n : Nat)
  | ow (wd : Nat) (es : List (List A))
  | cl (f : FuncId) (caps : List (Bool × List A))
inductive T where
  | val (ag : Bool) (cs : List A)
  | tu (vs : List (Bool × List A))
  | bot
structure Ob where
  fl : Nat
  wd : Nat
  es : List (List A)
abbrev cell (as : List A) : Ob := ⟨1, as.length, [as]⟩
def get {α : Type} : List (Nat × α) → Nat → Option α
  | [], _ => none
  | (m, o) :: H, n => cond (Nat.beq m n) (some o) (get H n)
abbrev Hp := Nat → Option (Option Ob)
abbrev Env := Nat → Option T
abbrev Place := Nat × List (Nat × Nat)
structure Hd where
  b : Nat
  off : Nat
  cap : Nat
structure Phi where
  at_ : Place → Option Hd
  out : Nat → Prop
instance : CoeFun Phi (fun _ => Place → Option Hd) := ⟨Phi.at_⟩
def Own0 (φ : Phi) (b : Nat) : Prop := ∃ X hd, φ X = some hd ∧ hd.b = b
def Own (φ : Phi) (b : Nat) : Prop := φ.out b ∨ Own0 φ b
theorem get_cons_ne {α : Type} {m n : Nat} (o : α) (H : List (Nat × α)) (h : m ≠ n) : get ((m, o) :: H) n = get H n := by
  have : Nat.beq m n = false := by
    cases hb : Nat.beq m n
    · rfl
    · exact absurd (Nat.eq_of_beq_eq_true hb) h
  simp [get, this]
def wfv : Bool → Nat → Value → Prop
  | true, n, u => ∃ c, u = .agg c ∧ c.size = n
  | false, n, u => n = 1 ∧ u.oneCell' = true
def partv : Bool → Value → Nat → Value
  | true, .agg c, j => c.getD j undef
  | _, u, _ => u
inductive RepL (h : Array Obj) (O : Nat → Prop) : L → Value → Prop
  | v (x : Value) (hx : x.oneCell' = true) : RepL h O (.v x) x
  | nil (wd : Nat) (a : Option Addr) (cap : Nat) : RepL h O (.sl wd []) (.slice a 0 cap)
  | sl (wd : Nat) (es : List (List L)) (b off cap : Nat) (c : Array Value) (ty : TypeId) (fr : Nat × Nat) (hw : 0 < wd) (he : es ≠ []) (hb : h[b]? = some (.cells c ty fr)) (hO : ¬ O b)
      (hl : ∀ e ∈ es, e.length = wd) (hs : off + es.length * wd ≤ c.size) (hc : es.length ≤ cap)
      (hr : ∀ i e j x, es[i]? = some e → e[j]? = some x → RepL h O x (c.getD (off + i * wd + j) undef)) :
      RepL h O (.sl wd es) (.slice (some ⟨b, off, none⟩) es.length cap)
  | pv (x : List L) (b off : Nat) (c : Array Value) (ty : TypeId) (fr : Nat × Nat) (he : x ≠ []) (hb : h[b]? = some (.cells c ty fr)) (hO : ¬ O b) (hs : off + x.length ≤ c.size)
      (hr : ∀ j y, x[j]? = some y → RepL h O y (c.getD (off + j) undef)) : RepL h O (.pv x) (.pointer (some ⟨b, off, none⟩))
  | cl (f : FuncId) (caps : List (Bool × List L)) (cap : Array Value) (hs : cap.size = caps.length) (hw : ∀ i x, caps[i]? = some x → wfv x.1 x.2.length (cap.getD i undef))
      (hr : ∀ i x j y, caps[i]? = some x → x.2[j]? = some y → RepL h O y (partv x.1 (cap.getD i undef) j)) : RepL h O (.cl f caps) (.func (.func f) #[] cap)
def RefRow (H : Hp) (φ : Phi) (n lo hi : Nat) (u : Value) : Prop := u.oneCell' = true ∧ match H n with
  | some none => True
  | some (some ob) => lo ≤ hi ∧ hi ≤ ob.es.length ∧ match φ (n, []) with
    | none => ∃ a, u = .slice a 0 0
    | some hd => ∃ a, u = .slice a (hi - lo) (hd.cap - lo) ∧ (lo = 0 ∨ lo < hi → a = some ⟨hd.b, hd.off + lo * ob.wd, none⟩)
  | none => False
def RefPt (H : Hp) (φ : Phi) (n i off : Nat) (u : Value) : Prop := u.oneCell' = true ∧ match H n with
  | some none => True
  | some (some ob) => ∃ hd, φ (n, []) = some hd ∧ u = .pointer (some ⟨hd.b, hd.off + i * ob.wd + off, none⟩)
  | none => False
def RefMp (H : Hp) (φ : Phi) (n : Nat) (u : Value) : Prop := u.oneCell' = true ∧ match H n with
  | some none => True
  | some (some ob) => ∃ hd, φ (n, []) = some hd ∧ u = .map (some hd.b)
  | none => False
inductive RepE (h : Array Obj) (H : Hp) (φ : Phi) : A → Value → Prop
  | f (x : L) (u : Value) (r : RepL h (Own φ) x u) : RepE h H φ (.f x) u
  | nl (a : Option Addr) : RepE h H φ .nl (.slice a 0 0)
  | un (k : Option Nat) (u : Value) (h1 : u.oneCell' = true) (h2 : ∀ n, k = some n → ∃ a cap, u = .slice a n cap) : RepE h H φ (.un k) u
  | row (n lo hi : Nat) (u : Value) (r : RefRow H φ n lo hi u) : RepE h H φ (.row n lo hi) u
  | pt (n i off : Nat) (u : Value) (r : RefPt H φ n i off u) : RepE h H φ (.pt n i off) u
  | mp (n : Nat) (u : Value) (r : RefMp H φ n u) : RepE h H φ (.mp n) u
  | cl (f : FuncId) (caps : List (Bool × List A)) (cap : Array Value) (hs : cap.size = caps.length) (hw : ∀ i x, caps[i]? = some x → wfv x.1 x.2.length (cap.getD i undef))
      (hr : ∀ i x j y, caps[i]? = some x → x.2[j]? = some y → RepE h H φ y (partv x.1 (cap.getD i undef) j)) : RepE h H φ (.cl f caps) (.func (.func f) #[] cap)
structure RowOK (wd : Nat) (es : List (List A)) (hd : Hd) (c : Array Value) : Prop where
  wd0 : 0 < wd
  len : ∀ e ∈ es, e.length = wd
  le : es.length ≤ hd.cap
  cap : hd.cap ≤ maxLen
  size : c.size = hd.off + hd.cap * wd
  one : ∀ k, k < c.size → (c.getD k undef).oneCell' = true
inductive RepA (h : Array Obj) (H : Hp) (φ : Phi) : Place → A → Value → Prop
  | e (X : Place) (x : A) (u : Value) (r : RepE h H φ x u) : RepA h H φ X x u
  | nilo (X : Place) (wd : Nat) (a : Option Addr) (hw : 0 < wd) (hX : φ X = none) : RepA h H φ X (.ow wd []) (.slice a 0 0)
  | ow (X : Place) (wd : Nat) (es : List (List A)) (hd : Hd) (c : Array Value) (ty : TypeId) (hX : φ X = some hd) (hb : h[hd.b]? = some (.cells c ty (0, 0))) (ok : RowOK wd es hd c)
      (hr : ∀ i e j x, es[i]? = some e → e[j]? = some x → RepA h H φ (X.1, (i, j) :: X.2) x (c.getD (hd.off + i * wd + j) undef)) :
      RepA h H φ X (.ow wd es) (.slice (some ⟨hd.b, hd.off, none⟩) es.length hd.cap)
def ObRow (h : Array Obj) (H : Hp) (φ : Phi) (n : Nat) (ob : Ob) : Prop := ((ob.es = [] ∧ φ (n, []) = none) ∨
  ∃ hd c ty, φ (n, []) = some hd ∧ h[hd.b]? = some (.cells c ty (0, 0)) ∧ RowOK ob.wd ob.es hd c ∧ (ob.fl ≠ 0 → ob.es.length = hd.cap) ∧
    ∀ i e j x, ob.es[i]? = some e → e[j]? = some x → RepA h H φ (n, [(i, j)]) x (c.getD (hd.off + i * ob.wd + j) undef))
def mpR (l : List (Int × Value)) : List (List A) := l.map fun x => [.f (.v (.int .i64 x.1)), .f (.v x.2)]
def ObMap (h : Array Obj) (φ : Phi) (n : Nat) (ob : Ob) : Prop := ∃ hd es ck l, φ (n, []) = some hd ∧ h[hd.b]? = some (.map es ck) ∧ ob.es = mpR l ∧ es.toList.map (fun e => (e.key, e.val)) = l.map (fun x => (.int .i64 x.1, x.2)) ∧ ∀ x ∈ l, x.2.oneCell' = true
def ObOK (h : Array Obj) (H : Hp) (φ : Phi) (n : Nat) (ob : Ob) : Prop := 0 < ob.wd ∧ (ob.fl ≠ 4 → ObRow h H φ n ob) ∧ (ob.fl = 4 → ObMap h φ n ob)
theorem ObOK.row {h : Array Obj} {H : Hp} {φ : Phi} {n : Nat} {ob : Ob} (r : ObOK h H φ n ob) (h4 : ob.fl ≠ 4) : ObRow h H φ n ob := r.2.1 h4
theorem obRow {h : Array Obj} {H : Hp} {φ : Phi} {n : Nat} {ob : Ob} (h0 : 0 < ob.wd) (h4 : ob.fl ≠ 4) (r : ObRow h H φ n ob) : ObOK h H φ n ob := ⟨h0, fun _ => r, fun h => absurd h h4⟩
structure HeapOK (h : Array Obj) (H : Hp) (φ : Phi) : Prop where
  ob : ∀ n ob, H n = some (some ob) → ObOK h H φ n ob
  lt : ∀ X hd, φ X = some hd → hd.b < h.size
  apart : ∀ X hd, φ X = some hd → ¬ φ.out hd.b
  old : ∀ b, φ.out b → b < h.size
  inj : ∀ X Y hd hd', φ X = some hd → φ Y = some hd' → hd.b = hd'.b → X = Y
structure Turn (h : Array Obj) (H : Hp) (φ : Phi) (h' : Array Obj) (H' : Hp) (φ' : Phi) : Prop where
  out : φ'.out = φ.out
  blk0 : ∀ b, b < h.size → ¬ Own0 φ b → ¬ Own0 φ' b ∧ h'[b]? = h[b]?
  dead : ∀ n, H n = some none → H' n = some none
  live : ∀ n ob, H n = some (some ob) → H' n = some none ∨ ∃ ob', H' n = some (some ob') ∧ φ' (n, []) = φ (n, []) ∧ ob'.wd = ob.wd ∧ ob.es.length ≤ ob'.es.length
theorem Turn.blk {h h' : Array Obj} {H H' : Hp} {φ φ' : Phi} (t : Turn h H φ h' H' φ') (b : Nat) (hb : b < h.size) (hO : ¬ Own φ b) : ¬ Own φ' b ∧ h'[b]? = h[b]? := by
  have h0 : ¬ φ.out b := fun h => hO (.inl h)
  obtain ⟨h1, h2⟩ := t.blk0 b hb fun h => hO (.inr h)
  exact ⟨fun h => h.elim (fun h => h0 (t.out ▸ h)) h1, h2⟩
theorem lt_of_get {h : Array Obj} {b : Nat} {o : Obj} (hb : h[b]? = some o) : b < h.size := (Array.getElem?_eq_some_iff.1 hb).1
theorem lt_of_same {h h' : Array Obj} {b : Nat} (hb : b < h.size) (he : h'[b]? = h[b]?) : b < h'.size := by
  rw [Array.getElem?_eq_getElem hb] at he
  exact lt_of_get he
theorem HeapOK.own_lt {h : Array Obj} {H : Hp} {φ : Phi} (k : HeapOK h H φ) {b : Nat} (hO : Own φ b) : b < h.size := by
  rcases hO with hO | ⟨X, hd, hX, rfl⟩
  · exact k.old b hO
  · exact k.lt X hd hX
theorem RepL.turn {h h' : Array Obj} {O O' : Nat → Prop} (t : ∀ b, b < h.size → ¬ O b → ¬ O' b ∧ h'[b]? = h[b]?) {x : L} {u : Value} (r : RepL h O x u) : RepL h' O' x u := by
  induction r with
  | v x hx => exact .v x hx
  | nil wd a cap => exact .nil wd a cap
  | sl wd es b off cap c ty fr hw he hb hO hl hs hc hr ih =>
    obtain ⟨h1, h2⟩ := t b (lt_of_get hb) hO
    exact .sl wd es b off cap c ty fr hw he (h2.trans hb) h1 hl hs hc ih
  | pv x b off c ty fr he hb hO hs hr ih =>
    obtain ⟨h1, h2⟩ := t b (lt_of_get hb) hO
    exact .pv x b off c ty fr he (h2.trans hb) h1 hs ih
  | cl f caps cap hs hw hr ih => exact .cl f caps cap hs hw ih
theorem RepL.one {h : Array Obj} {O : Nat → Prop} {x : L} {u : Value} (r : RepL h O x u) : u.oneCell' = true := by
  cases r <;> first | assumption | rfl
theorem RepL.less {h : Array Obj} {O O' : Nat → Prop} (hO : ∀ b, O' b → O b) {x : L} {u : Value} (q : RepL h O x u) : RepL h O' x u := q.turn fun b _ hb => ⟨fun h => hb (hO b h), rfl⟩
theorem RepE.one {h : Array Obj} {H : Hp} {φ : Phi} {x : A} {u : Value} (r : RepE h H φ x u) : u.oneCell' = true := by
  cases r with
  | f x u r => exact r.one
  | nl a => rfl
  | un k u h1 h2 => exact h1
  | row n lo hi u r => exact r.1
  | pt n i off u r => exact r.1
  | mp n u r => exact r.1
  | cl => rfl
theorem RepA.one {h : Array Obj} {H : Hp} {φ : Phi} {X : Place} {x : A} {u : Value} (r : RepA h H φ X x u) : u.oneCell' = true := by
  cases r with
  | e X x u r => exact r.one
  | nilo => rfl
  | ow => rfl
section
variable {h h' h'' : Array Obj} {H H' H'' : Hp} {φ φ' φ'' : Phi}
theorem RefRow.turn (t : Turn h H φ h' H' φ') {n lo hi : Nat} {u : Value} (r : RefRow H φ n lo hi u) : RefRow H' φ' n lo hi u := by
  refine ⟨r.1, ?_⟩
  have r2 := r.2
  split at r2
  · rename_i hn; rw [t.dead n hn]; trivial
  · rename_i ob hn
    rcases t.live n _ hn with hd | ⟨ob', hn', hφ, hw, hle⟩
    · rw [hd]; trivial
    · rw [hn']
      obtain ⟨h1, h2, h3⟩ := r2
      refine ⟨h1, Nat.le_trans h2 hle, ?_⟩
      rw [hφ, hw]; exact h3
  · exact r2.elim
theorem RefPt.turn (t : Turn h H φ h' H' φ') {n i off : Nat} {u : Value} (r : RefPt H φ n i off u) : RefPt H' φ' n i off u := by
  refine ⟨r.1, ?_⟩
  have r2 := r.2
  split at r2
  · rename_i hn; rw [t.dead n hn]; trivial
  · rename_i ob hn
    rcases t.live n _ hn with hd | ⟨ob', hn', hφ, hw, hle⟩
    · rw [hd]; trivial
    · rw [hn']
      simp only [hφ, hw]; exact r2
  · exact r2.elim
theorem RefMp.turn (t : Turn h H φ h' H' φ') {n : Nat} {u : Value} (r : RefMp H φ n u) : RefMp H' φ' n u := by
  refine ⟨r.1, ?_⟩
  have r2 := r.2
  split at r2
  · rename_i hn; rw [t.dead n hn]; trivial
  · rename_i ob hn
    rcases t.live n _ hn with hd | ⟨ob', hn', hφ, hw, hle⟩
    · rw [hd]; trivial
    · rw [hn']
      simp only [hφ]; exact r2
  · exact r2.elim
theorem RepE.turn (t : Turn h H φ h' H' φ') {x : A} {u : Value} (r : RepE h H φ x u) : RepE h' H' φ' x u := by
  induction r with
  | f x u r => exact .f x u (r.turn t.blk)
  | nl a => exact .nl a
  | un k u h1 h2 => exact .un k u h1 h2
  | row n lo hi u r => exact .row n lo hi u (r.turn t)
  | pt n i off u r => exact .pt n i off u (r.turn t)
  | mp n u r => exact .mp n u (r.turn t)
  | cl f caps cap hs hw hr ih => exact .cl f caps cap hs hw ih
theorem Turn.refl (h : Array Obj) (H : Hp) (φ : Phi) : Turn h H φ h H φ :=
  ⟨rfl, fun b _ hO => ⟨hO, rfl⟩, fun _ h => h, fun n ob hn => .inr ⟨ob, hn, rfl, rfl, Nat.le_refl _⟩⟩
theorem Turn.trans (s : Turn h H φ h' H' φ') (t : Turn h' H' φ' h'' H'' φ'') : Turn h H φ h'' H'' φ'' := by
  refine ⟨t.out.trans s.out, fun b hb hO => ?_, fun n hn => t.dead n (s.dead n hn), fun n ob hn => ?_⟩
  · obtain ⟨h1, h2⟩ := s.blk0 b hb hO
    obtain ⟨h3, h4⟩ := t.blk0 b (lt_of_same hb h2) h1
    exact ⟨h3, h4.trans h2⟩
  · rcases s.live n ob hn with hd | ⟨ob', hn', hφ, hw, hle⟩
    · exact .inl (t.dead n hd)
    · rcases t.live n _ hn' with hd | ⟨ob'', hn'', hφ', hw', hle'⟩
      · exact .inl hd
      · exact .inr ⟨ob'', hn'', hφ'.trans hφ, hw'.trans hw, Nat.le_trans hle hle'⟩
theorem RepA.keep (hE : ∀ x u, RepE h H φ x u → RepE h' H' φ' x u) {X : Place} {x : A} {u : Value} (r : RepA h H φ X x u) :
    ∀ X' : Place, (∀ q, φ' (X'.1, q ++ X'.2) = φ (X.1, q ++ X.2)) → (∀ q hd, φ (X.1, q ++ X.2) = some hd → h'[hd.b]? = h[hd.b]?) → RepA h' H' φ' X' x u := by
  induction r with
  | e X x u r => exact fun X' _ _ => .e X' x u (hE x u r)
  | nilo X wd a hw hX => exact fun X' hp hb => .nilo X' wd a hw ((hp []).trans hX)
  | ow X wd es hd c ty hX hb ok hr ih =>
    intro X' hp hk
    refine .ow X' wd es hd c ty ((hp []).trans hX) ((hk [] hd hX).trans hb) ok fun i e j x hi hj => ih i e j x hi hj _ (fun q => ?_) fun q hd hq => ?_
    · have := hp (q ++ [(i, j)])
      simpa using this
    · have := hk (q ++ [(i, j)]) hd
      exact this (by simpa using hq)
theorem ObOK.keep (hE : ∀ x u, RepE h H φ x u → RepE h' H' φ' x u) {n n' : Nat} {ob : Ob} (r : ObOK h H φ n ob) (hp : ∀ q, φ' (n', q) = φ (n, q)) (hb : ∀ q hd, φ (n, q) = some hd → h'[hd.b]? = h[hd.b]?) : ObOK h' H' φ' n' ob := by
  refine ⟨r.1, fun h4 => (r.row h4).imp (fun h => ⟨h.1, (hp []).trans h.2⟩) ?_, fun h4 => ?_⟩
  · rintro ⟨hd, c, ty, h1, h2, h3, h4, h5⟩
    exact ⟨hd, c, ty, (hp []).trans h1, (hb [] hd h1).trans h2, h3, h4, fun i e j x hi hj => (h5 i e j x hi hj).keep hE _ (fun q => hp _) fun q hd hq => hb _ hd hq⟩
  · obtain ⟨hd, es, ck, l, h1, h2, h3⟩ := r.2.2 h4
    exact ⟨hd, es, ck, l, (hp []).trans h1, (hb [] hd h1).trans h2, h3⟩
end
section
variable {h : Array Obj} {H : Hp} {φ : Phi}
def RepC (h : Array Obj) (H : Hp) (φ : Phi) : List A → List Value → Prop
  | [], [] => True
  | x :: xs, u :: us => RepE h H φ x u ∧ RepC h H φ xs us
  | _, _ => False
def RepV (h : Array Obj) (H : Hp) (φ : Phi) (ag : Bool) (cs : List A) (u : Value) : Prop :=
  match ag with
  | true => ∃ c, u = .agg c ∧ RepC h H φ cs c.toList
  | false => ∃ x, cs = [x] ∧ RepE h H φ x u
def RepVs (h : Array Obj) (H : Hp) (φ : Phi) : List (Bool × List A) → List Value → Prop
  | [], [] => True
  | x :: xs, u :: us => RepV h H φ x.1 x.2 u ∧ RepVs h H φ xs us
  | _, _ => False
def RepT (h : Array Obj) (H : Hp) (φ : Phi) : T → Value → Prop
  | .val ag cs, u => RepV h H φ ag cs u
  | .tu vs, u => ∃ us, u = .tuple us ∧ RepVs h H φ vs us.toList
  | .bot, _ => True
end
section
variable {h h' : Array Obj} {H H' : Hp} {φ φ' : Phi}
theorem RepC.mono (t : ∀ x u, RepE h H φ x u → RepE h' H' φ' x u) : ∀ {xs : List A} {us : List Value}, RepC h H φ xs us → RepC h' H' φ' xs us
  | [], [], _ => trivial
  | x :: xs, u :: us, r => ⟨t x u r.1, RepC.mono t r.2⟩
  | [], _ :: _, r => r.elim
  | _ :: _, [], r => r.elim
theorem RepV.mono (t : ∀ x u, RepE h H φ x u → RepE h' H' φ' x u) {ag : Bool} {cs : List A} {u : Value} (r : RepV h H φ ag cs u) : RepV h' H' φ' ag cs u := by
  cases ag with
  | true => obtain ⟨c, rfl, hc⟩ := r; exact ⟨c, rfl, hc.mono t⟩
  | false => obtain ⟨x, rfl, hx⟩ := r; exact ⟨x, rfl, t _ _ hx⟩
theorem RepVs.mono (t : ∀ x u, RepE h H φ x u → RepE h' H' φ' x u) : ∀ {xs : List (Bool × List A)} {us : List Value}, RepVs h H φ xs us → RepVs h' H' φ' xs us
  | [], [], _ => trivial
  | x :: xs, u :: us, r => ⟨RepV.mono t r.1, RepVs.mono t r.2⟩
  | [], _ :: _, r => r.elim
  | _ :: _, [], r => r.elim
theorem RepT.mono (t : ∀ x u, RepE h H φ x u → RepE h' H' φ' x u) {x : T} {u : Value} (r : RepT h H φ x u) : RepT h' H' φ' x u := by
  cases x with
  | val ag cs => exact RepV.mono t r
  | tu vs => obtain ⟨us, rfl, hu⟩ := r; exact ⟨us, rfl, hu.mono t⟩
  | bot => trivial
theorem RepC.length : ∀ {xs : List A} {us : List Value}, RepC h H φ xs us → us.length = xs.length
  | [], [], _ => rfl
  | _ :: _, _ :: _, r => congrArg (· + 1) (RepC.length r.2)
  | [], _ :: _, r => r.elim
  | _ :: _, [], r => r.elim
theorem RepC.at : ∀ {xs : List A} {us : List Value}, RepC h H φ xs us → ∀ {j : Nat} {x : A}, xs[j]? = some x → ∃ u, us[j]? = some u ∧ RepE h H φ x u
  | x :: xs, u :: us, r, 0, y, hy => by cases hy; exact ⟨u, rfl, r.1⟩
  | x :: xs, u :: us, r, j + 1, y, hy => RepC.at r.2 (j := j) hy
  | [], [], _, _, _, hy => by cases hy
  | [], _ :: _, r, _, _, _ => r.elim
  | _ :: _, [], r, _, _, _ => r.elim
theorem RepC.drop : ∀ {xs : List A} {us : List Value} (n : Nat), RepC h H φ xs us → RepC h H φ (xs.drop n) (us.drop n)
  | _, _, 0, r => r
  | [], [], _ + 1, _ => trivial
  | _ :: _, _ :: _, n + 1, r => RepC.drop n r.2
  | [], _ :: _, _ + 1, r => r.elim
  | _ :: _, [], _ + 1, r => r.elim
theorem RepC.take : ∀ {xs : List A} {us : List Value} (n : Nat), RepC h H φ xs us → RepC h H φ (xs.take n) (us.take n)
  | _, _, 0, _ => trivial
  | [], [], _ + 1, _ => trivial
  | _ :: _, _ :: _, n + 1, r => ⟨r.1, RepC.take n r.2⟩
  | [], _ :: _, _ + 1, r => r.elim
  | _ :: _, [], _ + 1, r => r.elim
theorem RepC.append : ∀ {xs : List A} {us : List Value} {ys : List A} {vs : List Value}, RepC h H φ xs us → RepC h H φ ys vs → RepC h H φ (xs ++ ys) (us ++ vs)
  | [], [], _, _, _, r => r
  | _ :: _, _ :: _, _, _, q, r => ⟨q.1, RepC.append q.2 r⟩
  | [], _ :: _, _, _, q, _ => q.elim
  | _ :: _, [], _, _, q, _ => q.elim
theorem RepC.one : ∀ {cs : List A} {us : List Value}, RepC h H φ cs us → ∀ u ∈ us, u.oneCell' = true
  | [], [], _, _, hu => by cases hu
  | x :: xs, u :: us, r, v, hv => by
    rcases List.mem_cons.1 hv with rfl | hv
    · exact r.1.one
    · exact RepC.one r.2 v hv
  | [], _ :: _, r, _, _ => r.elim
  | _ :: _, [], r, _, _ => r.elim
theorem RepC_of : ∀ {xs : List A} (f : Nat → Value), (∀ j x, xs[j]? = some x → RepE h H φ x (f j)) → RepC h H φ xs ((List.range xs.length).map f)
  | [], _, _ => trivial
  | x :: xs, f, hf => by
    rw [List.length_cons, List.range_succ_eq_map, List.map_cons, List.map_map]
    exact ⟨hf 0 x rfl, RepC_of (f ∘ Nat.succ) fun j y hy => hf (j + 1) y hy⟩
theorem rep_one {x : A} {u : Value} (r : RepT h H φ (.val false [x]) u) : RepE h H φ x u := by
  obtain ⟨y, hy, r⟩ := r
  cases hy; exact r
theorem cells_one {u : Value} (hu : u.oneCell' = true) : u.cells = #[u] := by cases u <;> first | rfl | cases hu
theorem rep_cells {ag : Bool} {cs : List A} {u : Value} (r : RepV h H φ ag cs u) : RepC h H φ cs u.cells.toList := by
  cases ag with
  | true => obtain ⟨c, rfl, hc⟩ := r; exact hc
  | false => obtain ⟨x, rfl, hx⟩ := r; rw [cells_one hx.one]; exact ⟨hx, trivial⟩
end
end Go.Proofs.Ytfafehhallbjiaa.Ac
set_option linter.unusedVariables false
set_option linter.unusedSimpArgs false
namespace Go.Proofs.Ytfafehhallbjiaa.Ac
open Go.RowKit
structure Eff where
  val : T
  rdn : List Nat
  upd : List (Nat × Option Ob)
def memN (n : Nat) : List Nat → Bool
  | [] => false
  | m :: l => cond (Nat.beq n m) true (memN n l)
def names (ε : Eff) : List Nat := ε.rdn ++ ε.upd.map (·.1)
def putE (d : Option Tmp) (v : T) (e : Env) : Env := fun t => match d with
  | some d => cond (Nat.beq d t) (some v) (e t)
  | none => e t
def putH (u : List (Nat × Option Ob)) (g : Hp) : Hp := fun n => match get u n with
  | some x => some x
  | none => g n
def frees (κ ε : Eff) : Bool := κ.upd.all (fun u => !memN u.1 (names ε)) && ε.upd.all (fun u => !memN u.1 (names κ))
theorem beq_false {m n : Nat} (h : m ≠ n) : Nat.beq m n = false := by
  cases hb : Nat.beq m n
  · rfl
  · exact absurd (Nat.eq_of_beq_eq_true hb) h
theorem memN_iff {n : Nat} {l : List Nat} : memN n l = true ↔ n ∈ l := by
  induction l with
  | nil => simp [memN]
  | cons m l ih =>
    simp only [memN, List.mem_cons]
    cases hb : Nat.beq n m
    · have : n ≠ m := fun h => by subst h; simp at hb
      simp [ih, this]
    · simp [Nat.eq_of_beq_eq_true hb]
theorem get_none {α : Type} {n : Nat} {l : List (Nat × α)} (h : n ∉ l.map (·.1)) : get l n = none := by
  induction l with
  | nil => rfl
  | cons x l ih =>
    obtain ⟨m, o⟩ := x
    simp only [List.map_cons, List.mem_cons, not_or] at h
    rw [get_cons_ne o l (Ne.symm h.1)]
    exact ih h.2
theorem putE_ne {d : Option Tmp} {v : T} {e : Env} {t : Nat} (h : d ≠ some t) : putE d v e t = e t := by
  cases d with
  | none => rfl
  | some d => simp only [putE]; rw [beq_false (fun hd => h (by rw [hd]))]; rfl
theorem putE_comm {c d : Option Tmp} {u v : T} {e : Env} (h : ∀ t, c = some t → d ≠ some t) : putE c u (putE d v e) = putE d v (putE c u e) := by
  funext t
  by_cases hc : c = some t
  · rw [putE_ne (h t hc)]
    subst hc
    simp [putE]
  · rw [putE_ne hc]
    by_cases hd : d = some t
    · subst hd; simp [putE]
    · rw [putE_ne hd, putE_ne hd, putE_ne hc]
theorem putH_ne {u : List (Nat × Option Ob)} {g : Hp} {n : Nat} (h : n ∉ u.map (·.1)) : putH u g n = g n := by
  simp [putH, get_none h]
theorem putH_comm {u v : List (Nat × Option Ob)} {g : Hp} (h : ∀ n, n ∈ u.map (·.1) → n ∉ v.map (·.1)) : putH u (putH v g) = putH v (putH u g) := by
  funext n
  by_cases hu : n ∈ u.map (·.1)
  · rw [putH_ne (h n hu)]
    simp only [putH, get_none (h n hu)]
  · rw [putH_ne hu]
    simp only [putH, get_none hu]
theorem frees_spec {κ ε : Eff} (h : frees κ ε = true) : (∀ n, n ∈ κ.upd.map (·.1) → n ∉ names ε) ∧ (∀ n, n ∈ ε.upd.map (·.1) → n ∉ names κ) := by
  simp only [frees, Bool.and_eq_true, List.all_eq_true, Bool.not_eq_true'] at h
  constructor
  · intro n hn
    obtain ⟨u, hu, rfl⟩ := List.mem_map.1 hn
    intro hc
    have := h.1 u hu
    rw [memN_iff.2 hc] at this
    cases this
  · intro n hn
    obtain ⟨u, hu, rfl⟩ := List.mem_map.1 hn
    intro hc
    have := h.2 u hu
    rw [memN_iff.2 hc] at this
    cases this
section
variable (ops : Array Oper) (R : Nat → Env → Hp → Eff → Prop)
def dsts (i : Nat) : Option Tmp := (ops[i]?).bind (·.dst)
def Run : List (Nat × Eff) → Env → Hp → Prop
  | [], _, _ => True
  | (i, ε) :: M, e, g => R i e g ε ∧ Run M (putE (dsts ops i) ε.val e) (putH ε.upd g)
def finE : List (Nat × Eff) → Env → Env
  | [], e => e
  | (i, ε) :: M, e => finE M (putE (dsts ops i) ε.val e)
def finH : List (Nat × Eff) → Hp → Hp
  | [], g => g
  | (_, ε) :: M, g => finH M (putH ε.upd g)
def Local : Prop := ∀ i o e g ε e' g', ops[i]? = some o → R i e g ε → (∀ t ∈ o.looksAt ops, e' t = e t) → (∀ n ∈ names ε, g' n = g n) → R i e' g' ε
variable {ops R}
theorem pull (hl : Local ops R) {i : Nat} {oi : Oper} {ε : Eff} (hi : ops[i]? = some oi) {M₂ : List (Nat × Eff)} : ∀ (M₁ : List (Nat × Eff)) (e : Env) (g : Hp),
    (∀ x ∈ M₁, frees x.2 ε = true ∧ ∃ ok, ops[x.1]? = some ok ∧ ok.apart ops oi = true) → Run ops R (M₁ ++ (i, ε) :: M₂) e g →
    R i e g ε ∧ Run ops R (M₁ ++ M₂) (putE (dsts ops i) ε.val e) (putH ε.upd g) ∧
      finE ops (M₁ ++ (i, ε) :: M₂) e = finE ops (M₁ ++ M₂) (putE (dsts ops i) ε.val e) ∧ finH (M₁ ++ (i, ε) :: M₂) g = finH (M₁ ++ M₂) (putH ε.upd g)
  | [], e, g, _, h => ⟨h.1, h.2, rfl, rfl⟩
  | (k, κ) :: M₁, e, g, hx, h => by
    obtain ⟨hk, hr⟩ := h
    obtain ⟨h1, h2, h3, h4⟩ := pull hl hi M₁ _ _ (fun x hx' => hx x (List.mem_cons_of_mem _ hx')) hr
    obtain ⟨hf, ok, hok, hap⟩ := hx (k, κ) List.mem_cons_self
    obtain ⟨f1, f2⟩ := frees_spec hf
    obtain ⟨a1, a2, a3⟩ := Oper.apart_spec hap
    have dk : dsts ops k = ok.dst := by simp [dsts, hok]
    have di : dsts ops i = oi.dst := by simp [dsts, hi]
    have ce : ∀ u v, putE (dsts ops i) u (putE (dsts ops k) v e) = putE (dsts ops k) v (putE (dsts ops i) u e) := fun u v => (putE_comm (fun t ht => by rw [di]; exact a2 t (dk ▸ ht))).symm
    have ch : putH ε.upd (putH κ.upd g) = putH κ.upd (putH ε.upd g) := putH_comm fun n hn hc => f2 n hn (List.mem_append_right _ hc)
    refine ⟨hl i oi _ _ ε e g hi h1 (fun t ht => (putE_ne fun hd => a1 t (dk ▸ hd) ht).symm) (fun n hn => (putH_ne fun hc => f1 n hc hn).symm), ⟨?_, ?_⟩, ?_, ?_⟩
    · exact hl k ok _ _ κ _ _ hok hk (fun t ht => putE_ne fun hd => a3 t (di ▸ hd) ht) (fun n hn => putH_ne fun hc => f2 n hc hn)
    · rw [ce, ch] at h2; exact h2
    · simp only [List.cons_append, finE]; rw [h3, ce]
    · simp only [List.cons_append, finH]; rw [h4, ch]
def aheads (o : Oper) (B : Array Nat) : Nat := o.after.toList.foldl (fun s e => cond (Region.binds .any e) (s ||| 2 ^ e.on ||| B.getD e.on 0) s) 0
def okB (B : Array Nat) : Nat → List Oper → Bool
  | _, [] => true
  | i, o :: os => Nat.beq (B.getD i 0) (aheads o B) && o.after.toList.all (fun e => !Region.binds .any e || Nat.blt e.on i) && okB B (i + 1) os
variable (ops) in
def pairOK (B : Array Nat) (x y : Nat × Eff) : Bool := Nat.testBit (B.getD y.1 0) x.1 || frees x.2 y.2 && match ops[x.1]?, ops[y.1]? with
  | some a, some b => a.apart ops b
  | _, _ => false
variable (ops) in
def pairsOK (B : Array Nat) : List (Nat × Eff) → Bool
  | [] => true
  | x :: M => M.all (pairOK ops B x) && pairsOK B M
theorem okB_spec {B : Array Nat} : ∀ {os : List Oper} {i : Nat}, okB B i os = true → ∀ j o, os[j]? = some o → B.getD (i + j) 0 = aheads o B ∧ ∀ e ∈ o.after, Region.binds .any e = true → e.on < i + j
  | [], _, _, j, o, ho => by cases ho
  | o :: os, i, h, j, o', ho => by
    simp only [okB, Bool.and_eq_true] at h
    cases j with
    | zero =>
      cases ho
      refine ⟨Nat.eq_of_beq_eq_true h.1.1, fun e he hb => ?_⟩
      have := List.all_eq_true.1 h.1.2 e (by simpa using he)
      rw [hb] at this
      simp [Nat.blt] at this
      omega
    | succ j =>
      have := okB_spec h.2 j o' ho
      rw [show i + (j + 1) = i + 1 + j by omega]
      exact this
theorem foldl_testBit {B : Array Nat} {k : Nat} : ∀ (l : List Edge) (s : Nat), (l.foldl (fun s e => cond (Region.binds .any e) (s ||| 2 ^ e.on ||| B.getD e.on 0) s) s).testBit k = true →
    s.testBit k = true ∨ ∃ e ∈ l, Region.binds .any e = true ∧ (e.on = k ∨ (B.getD e.on 0).testBit k = true)
  | [], s, h => .inl h
  | e :: l, s, h => by
    rcases foldl_testBit l _ h with h | ⟨e', he', h⟩
    · dsimp only at h
      cases hb : Region.binds .any e
      · rw [hb] at h; exact .inl h
      · rw [hb] at h
        simp only [cond_true, Nat.testBit_or, Bool.or_eq_true, Nat.testBit_two_pow, decide_eq_true_eq] at h
        rcases h with (h | h) | h
        · exact .inl h
        · exact .inr ⟨e, List.mem_cons_self, hb, .inl h⟩
        · exact .inr ⟨e, List.mem_cons_self, hb, .inr h⟩
    · exact .inr ⟨e', List.mem_cons_of_mem _ he', h⟩
end
section
variable {P : Program} {ops : Array Oper} {Q : Exit → Act → World → Prop} {R : Nat → Env → Hp → Eff → Prop} {S : Env → Hp → Act → World → Prop} {B : Array Nat}
def Sound (P : Program) (ops : Array Oper) (Q : Exit → Act → World → Prop) (R : Nat → Env → Hp → Eff → Prop) (S : Env → Hp → Act → World → Prop) : Prop :=
  ∀ i e g ε a w (K : Act → World → Prop), R i e g ε → S e g a w → (∀ a' w', S (putE (dsts ops i) ε.val e) (putH ε.upd g) a' w' → K a' w') → wpOp P ops Q i K a w
theorem pairs_at {y : Nat × Eff} {M₂ : List (Nat × Eff)} : ∀ (M₁ : List (Nat × Eff)), pairsOK ops B (M₁ ++ y :: M₂) = true → ∀ x ∈ M₁, pairOK ops B x y = true
  | [], _, x, hx => by cases hx
  | z :: M₁, hp, x, hx => by
    simp only [List.cons_append, pairsOK, Bool.and_eq_true] at hp
    rcases List.mem_cons.1 hx with rfl | hx
    · exact List.all_eq_true.1 hp.1 _ (by simp)
    · exact pairs_at M₁ hp.2 x hx
theorem pairs_drop {y : Nat × Eff} {M₂ : List (Nat × Eff)} : ∀ (M₁ : List (Nat × Eff)), pairsOK ops B (M₁ ++ y :: M₂) = true → pairsOK ops B (M₁ ++ M₂) = true
  | [], hp => by
    simp only [List.nil_append, pairsOK, Bool.and_eq_true] at hp
    exact hp.2
  | z :: M₁, hp => by
    simp only [List.cons_append, pairsOK, Bool.and_eq_true] at hp ⊢
    refine ⟨List.all_eq_true.2 fun x hx => List.all_eq_true.1 hp.1 x ?_, pairs_drop M₁ hp.2⟩
    rcases List.mem_append.1 hx with h | h <;> simp [h]
theorem split_mem {α : Type} {x : α} {l : List α} (h : x ∈ l) : ∃ a b, l = a ++ x :: b := List.append_of_mem h
theorem any_of_run (hl : Local ops R) (hs : Sound P ops Q R S) (hB : okB B 0 ops.toList = true) : ∀ (n : Nat) (M : List (Nat × Eff)) (listed : Array Bool) (e : Env) (g : Hp) (a : Act) (w : World),
    M.length = n → (M.map (·.1)).Pairwise (· < ·) → listed.size = ops.size → (∀ j, j < ops.size → (listed.getD j true = false ↔ j ∈ M.map (·.1))) → (∀ x ∈ M, x.1 < ops.size) →
    (∀ j, j < ops.size → listed.getD j false = true → ∀ k, (B.getD j 0).testBit k = true → listed.getD k false = true) → pairsOK ops B M = true →
    Run ops R M e g → S e g a w → (∀ a' w', S (finE ops M e) (finH M g) a' w' → Q .normal a' w') → wpAny P .any ops Q n listed a w := by
  intro n
  induction n with
  | zero =>
    intro M listed e g a w hn hsort hsz hlist hlt hcl hp hrun hS hQ
    have hM : M = [] := List.length_eq_zero_iff.1 hn
    subst hM
    refine ⟨?_, hQ a w hS⟩
    cases hr : Region.ready .any ops listed with
    | nil => rfl
    | cons j l =>
      have hj : j ∈ Region.ready .any ops listed := by rw [hr]; exact List.mem_cons_self
      obtain ⟨h0, o, ho, _⟩ := mem_ready.1 hj
      have := (hlist j (Array.getElem?_eq_some_iff.1 ho).1).1 h0
      cases this
  | succ n ih =>
    intro M listed e g a w hn hsort hsz hlist hlt hcl hp hrun hS hQ
    have toOps : ∀ {j : Nat} {o : Oper}, ops[j]? = some o → ops.toList[j]? = some o := fun h => by simpa using h
    constructor
    · intro hr
      exfalso
      cases M with
      | nil => simp at hn
      | cons x M =>
        have hx := hlt x List.mem_cons_self
        have hox : ops[x.1]? = some ops[x.1] := by simp [hx]
        have hxm : x.1 ∈ Region.ready .any ops listed := by
          refine mem_ready.2 ⟨(hlist x.1 hx).2 (by simp), ops[x.1], hox, fun ed he hb => ?_⟩
          have hlt' := (okB_spec hB x.1 _ (toOps hox)).2 ed he hb
          have hlt2 : ed.on < x.1 := by omega
          have hns : ed.on < listed.size := by omega
          have : ¬ (listed.getD ed.on true = false) := fun hf => by
            have := (hlist ed.on (by omega)).1 hf
            simp only [List.map_cons, List.mem_cons] at this
            rcases this with h | h
            · omega
            · have := (List.pairwise_cons.1 (by simpa using hsort)).1 ed.on h
              omega
          simp [hns] at this ⊢
          exact this
        rw [hr] at hxm
        cases hxm
    · intro i hi
      obtain ⟨h0, oi, hoi, hall⟩ := mem_ready.1 hi
      have hilt := (Array.getElem?_eq_some_iff.1 hoi).1
      have him := (hlist i hilt).1 h0
      obtain ⟨⟨i', ε⟩, hxM, rfl⟩ := List.mem_map.1 him
      obtain ⟨M₁, M₂, rfl⟩ := split_mem hxM
      dsimp only at *
      have hpairs : ∀ x ∈ M₁, frees x.2 ε = true ∧ ∃ ok, ops[x.1]? = some ok ∧ ok.apart ops oi = true := by
        intro x hx
        have hpx : pairOK ops B x (i', ε) = true := pairs_at M₁ hp x hx
        have hxl : x.1 < ops.size := hlt x (by simp [hx])
        simp only [pairOK, Bool.or_eq_true, Bool.and_eq_true] at hpx
        rcases hpx with hbit | ⟨hf, hap⟩
        · exfalso
          have hb := (okB_spec hB i' oi (toOps hoi)).1
          rw [Nat.zero_add] at hb
          rw [hb] at hbit
          have hxlist : listed.getD x.1 false = true := by
            rcases foldl_testBit _ _ hbit with h | ⟨ed, hed, hbd, h⟩
            · simp at h
            · have hl1 := hall ed (by simpa using hed) hbd
              rcases h with h | h
              · exact h ▸ hl1
              · have : ed.on < ops.size := by
                  have := (okB_spec hB i' oi (toOps hoi)).2 ed (by simpa using hed) hbd
                  omega
                exact hcl ed.on this hl1 _ h
          have := (hlist x.1 hxl).2 (by simp; exact .inl ⟨x.2, hx⟩)
          rw [← hsz] at hxl
          simp [hxl] at this hxlist
          rw [this] at hxlist; cases hxlist
        · rw [hoi] at hap
          have : ops[x.1]? = some ops[x.1] := by simp [hxl]
          rw [this] at hap
          exact ⟨hf, _, this, hap⟩
      obtain ⟨hR, hrun', hfe, hfh⟩ := pull hl hoi M₁ e g hpairs hrun
      refine hs i' e g ε a w _ hR hS fun a' w' hS' => ?_
      have hnd : ∀ x ∈ M₁ ++ M₂, x.1 ≠ i' := by
        intro x hx hxi
        have hs2 : (M₁.map (·.1) ++ i' :: M₂.map (·.1)).Pairwise (· < ·) := by simpa using hsort
        rw [List.pairwise_append] at hs2
        rcases List.mem_append.1 hx with h | h
        · have := hs2.2.2 x.1 (List.mem_map.2 ⟨x, h, rfl⟩) i' List.mem_cons_self
          omega
        · have := (List.pairwise_cons.1 hs2.2.1).1 x.1 (List.mem_map.2 ⟨x, h, rfl⟩)
          omega
      refine ih (M₁ ++ M₂) (listed.setIfInBounds i' true) _ _ a' w' (by simp at hn ⊢; omega) ?_ (by simpa using hsz) ?_ (fun x hx => hlt x (by
        rcases List.mem_append.1 hx with h | h <;> simp [h])) ?_ ?_ hrun' hS' (fun a2 w2 h2 => hQ a2 w2 (by rw [hfe, hfh]; exact h2))
      · have hs2 : (M₁.map (·.1) ++ i' :: M₂.map (·.1)).Pairwise (· < ·) := by simpa using hsort
        rw [List.map_append]
        exact hs2.sublist (List.Sublist.append (List.Sublist.refl _) (List.sublist_cons_self _ _))
      · intro j hj
        by_cases hji : i' = j
        · subst hji
          have : i' < listed.size := by omega
          simp only [Array.getD_eq_getD_getElem?, Array.getElem?_setIfInBounds_self_of_lt this]
          constructor
          · intro h; cases h
          · intro h
            obtain ⟨x, hx, hxi⟩ := List.mem_map.1 h
            exact absurd hxi (hnd x hx)
        · rw [getD_set_ne true hji, hlist j hj]
          simp only [List.map_append, List.map_cons, List.mem_append, List.mem_cons]
          constructor
          · rintro (h | rfl | h)
            · exact .inl h
            · exact absurd rfl hji
            · exact .inr h
          · rintro (h | h)
            · exact .inl h
            · exact .inr (.inr h)
      · intro j hj hlj k hk
        by_cases hji : i' = j
        · subst hji
          apply getD_set_true
          have hb := (okB_spec hB i' oi (toOps hoi)).1
          rw [Nat.zero_add] at hb
          rw [hb] at hk
          rcases foldl_testBit _ _ hk with h | ⟨ed, hed, hbd, h⟩
          · simp at h
          · have hl1 := hall ed (by simpa using hed) hbd
            rcases h with rfl | h
            · exact hl1
            · have : ed.on < ops.size := by
                have := (okB_spec hB i' oi (toOps hoi)).2 ed (by simpa using hed) hbd
                omega
              exact hcl ed.on this hl1 _ h
        · rw [getD_set_ne false hji] at hlj
          exact getD_set_true (hcl j hj hlj k hk)
      · exact pairs_drop M₁ hp
end
end Go.Proofs.Ytfafehhallbjiaa.Ac
set_option linter.unusedVariables false
set_option linter.unusedSimpArgs false
namespace Go.Proofs.Ytfafehhallbjiaa.Ac
open Go.RowKit
def put1 (H : Hp) (n : Nat) (o : Option Ob) : Hp := fun m => if m = n then some o else H m
def Phi.set (φ : Phi) (n : Nat) (f : List (Nat × Nat) → Option Hd) : Phi := ⟨fun X => if X.1 = n then f X.2 else φ X, φ.out⟩
section
variable {h h' : Array Obj} {H H' : Hp} {φ φ' : Phi}
theorem put1_self (n : Nat) (o : Option Ob) : put1 H n o n = some o := by simp [put1]
theorem put1_ne {n m : Nat} (o : Option Ob) (hne : m ≠ n) : put1 H n o m = H m := by simp [put1, hne]
theorem set_self (n : Nat) (f : List (Nat × Nat) → Option Hd) (q : List (Nat × Nat)) : (φ.set n f) (n, q) = f q := by simp [Phi.set]
theorem set_ne {n : Nat} (f : List (Nat × Nat) → Option Hd) {X : Place} (hne : X.1 ≠ n) : (φ.set n f) X = φ X := by simp [Phi.set, hne]
theorem all_ob (hob : ∀ n ob, H' n = some (some ob) → ObOK h' H' φ' n ob) (hlt : ∀ X hd, φ' X = some hd → hd.b < h'.size) (hap : ∀ X hd, φ' X = some hd → ¬ φ'.out hd.b) (ho : ∀ b, φ'.out b → b < h'.size)
    (hi : ∀ X Y hd hd', φ' X = some hd → φ' Y = some hd' → hd.b = hd'.b → X = Y) : HeapOK h' H' φ' := ⟨hob, hlt, hap, ho, hi⟩
theorem newG_ok (k : HeapOK h H φ) {n : Nat} (hn : H n = none) {ob : Ob} {o : Obj} {cap : Nat}
    (hob : Turn h H φ (h.push o) (put1 H n (some ob)) (φ.set n fun q => if q = [] then some ⟨h.size, 0, cap⟩ else none) → ObOK (h.push o) (put1 H n (some ob)) (φ.set n fun q => if q = [] then some ⟨h.size, 0, cap⟩ else none) n ob) :
    HeapOK (h.push o) (put1 H n (some ob)) (φ.set n fun q => if q = [] then some ⟨h.size, 0, cap⟩ else none) ∧
    Turn h H φ (h.push o) (put1 H n (some ob)) (φ.set n fun q => if q = [] then some ⟨h.size, 0, cap⟩ else none) := by
  have hne : ∀ m x, H m = some x → m ≠ n := fun m x hm e => by rw [e, hn] at hm; cases hm
  have own : ∀ X hd, (φ.set n fun q => if q = [] then some ⟨h.size, 0, cap⟩ else none) X = some hd → (X = (n, []) ∧ hd = ⟨h.size, 0, cap⟩) ∨ φ X = some hd := by
    rintro ⟨m, q⟩ hd hX
    by_cases e : m = n
    · subst e
      rw [set_self] at hX
      by_cases e2 : q = []
      · subst e2; cases hX; exact .inl ⟨rfl, rfl⟩
      · rw [if_neg e2] at hX; cases hX
    · rw [set_ne _ e] at hX; exact .inr hX
  have t : Turn h H φ (h.push o) (put1 H n (some ob)) (φ.set n fun q => if q = [] then some ⟨h.size, 0, cap⟩ else none) := by
    refine ⟨rfl, fun b hb hO => ⟨?_, ?_⟩, fun m hm => ?_, fun m x hm => .inr ⟨x, ?_, ?_, rfl, Nat.le_refl _⟩⟩
    · rintro ⟨X, hd, hX, rfl⟩
      rcases own X hd hX with ⟨_, rfl⟩ | hX
      · exact Nat.lt_irrefl _ hb
      · exact hO ⟨X, hd, hX, rfl⟩
    · rw [Array.getElem?_push_lt hb, Array.getElem?_eq_getElem hb]
    · rw [put1_ne _ (hne m _ hm)]; exact hm
    · rw [put1_ne _ (hne m _ hm)]; exact hm
    · exact set_ne _ (hne m _ hm)
  refine ⟨all_ob (fun m x hm => ?_) (fun X hd hX => ?_) (fun X hd hX ho => ?_) (fun b hb => ?_) (fun X Y hd hd' hX hY hb => ?_), t⟩
  · by_cases e : m = n
    · subst e
      rw [put1_self] at hm
      cases hm
      exact hob t
    · rw [put1_ne _ e] at hm
      refine (k.ob m x hm).keep (fun _ _ r => r.turn t) (fun q => set_ne _ e) fun q hd hq => ?_
      have := k.lt _ hd hq
      rw [Array.getElem?_push_lt this, Array.getElem?_eq_getElem this]
  · rcases own X hd hX with ⟨_, rfl⟩ | hX
    · simp
    · have := k.lt _ hd hX; simp; omega
  · rcases own X hd hX with ⟨_, rfl⟩ | hX
    · exact Nat.lt_irrefl _ (k.old _ ho)
    · exact k.apart X hd hX ho
  · have := k.old b hb; simp; omega
  · rcases own X hd hX with ⟨rfl, rfl⟩ | hX <;> rcases own Y hd' hY with ⟨rfl, rfl⟩ | hY
    · rfl
    · have := k.lt _ _ hY; simp at hb; omega
    · have := k.lt _ _ hX; simp at hb; omega
    · exact k.inj X Y hd hd' hX hY hb
theorem new_ok (k : HeapOK h H φ) {n : Nat} (hn : H n = none) {ob : Ob} (h4 : ob.fl ≠ 4) {c : Array Value} {ty : TypeId} {cap : Nat} (ok : RowOK ob.wd ob.es ⟨h.size, 0, cap⟩ c) (hfl : ob.fl ≠ 0 → ob.es.length = cap)
    (hc : ∀ i e j x, ob.es[i]? = some e → e[j]? = some x → RepE h H φ x (c.getD (i * ob.wd + j) undef)) :
    HeapOK (h.push (.cells c ty (0, 0))) (put1 H n (some ob)) (φ.set n fun q => if q = [] then some ⟨h.size, 0, cap⟩ else none) ∧
    Turn h H φ (h.push (.cells c ty (0, 0))) (put1 H n (some ob)) (φ.set n fun q => if q = [] then some ⟨h.size, 0, cap⟩ else none) := by
  refine newG_ok k hn fun t => obRow ok.wd0 h4 (.inr ⟨_, c, ty, by rw [set_self]; rfl, by simp, ok, hfl, fun i e j x hi hj => .e _ x _ ?_⟩)
  rw [Nat.zero_add]
  exact (hc i e j x hi hj).turn t
theorem updG_ok (k : HeapOK h H φ) {n : Nat} {ob ob' : Ob} {hd : Hd} {o : Obj} (hn : H n = some (some ob)) (hp : φ (n, []) = some hd) (hsame : ∀ m, m ≠ hd.b → h'[m]? = h[m]?) (hb' : h'[hd.b]? = some o)
    (hwd : ob'.wd = ob.wd) (hle : ob.es.length ≤ ob'.es.length) (hob : Turn h H φ h' (put1 H n (some ob')) φ → (∀ (X : Place) hd2, φ X = some hd2 → X ≠ (n, []) → h'[hd2.b]? = h[hd2.b]?) → ObOK h' (put1 H n (some ob')) φ n ob') : HeapOK h' (put1 H n (some ob')) φ ∧ Turn h H φ h' (put1 H n (some ob')) φ := by
  have hsz : h.size ≤ h'.size := by
    rcases Nat.lt_or_ge h'.size h.size with hlt | hge
    · exfalso
      by_cases e : h'.size = hd.b
      · have := lt_of_get hb'; omega
      · have := hsame _ e
        rw [Array.getElem?_eq_none (Nat.le_refl _), Array.getElem?_eq_getElem hlt] at this
        cases this
    · exact hge
  have t : Turn h H φ h' (put1 H n (some ob')) φ := by
    refine ⟨rfl, fun b hb hO => ⟨hO, hsame b fun e => hO ⟨_, hd, hp, e.symm⟩⟩, fun m hm => ?_, fun m x hm => .inr ?_⟩
    · have e : m ≠ n := fun e => by rw [e, hn] at hm; cases hm
      rw [put1_ne _ e]; exact hm
    · by_cases e : m = n
      · subst e
        rw [hn] at hm
        cases hm
        exact ⟨ob', put1_self _ _, rfl, hwd, hle⟩
      · exact ⟨x, (put1_ne _ e).trans hm, rfl, rfl, Nat.le_refl _⟩
  refine ⟨all_ob (fun m x hm => ?_) (fun X hd2 hX => Nat.lt_of_lt_of_le (k.lt X hd2 hX) hsz) k.apart (fun b hb => Nat.lt_of_lt_of_le (k.old b hb) hsz) k.inj, t⟩
  have other : ∀ (X : Place) hd2, φ X = some hd2 → X ≠ (n, []) → h'[hd2.b]? = h[hd2.b]? := fun X hd2 hX hne => hsame _ fun e => hne (k.inj X _ hd2 hd hX hp e)
  by_cases e : m = n
  · subst e
    rw [put1_self] at hm
    cases hm
    exact hob t other
  · rw [put1_ne _ e] at hm
    exact (k.ob m x hm).keep (fun _ _ r => r.turn t) (fun q => rfl) fun q hd2 hq => other _ hd2 hq fun e2 => e (congrArg Prod.fst e2)
theorem upd_ok (k : HeapOK h H φ) {n : Nat} {ob ob' : Ob} (h4 : ob'.fl ≠ 4) {hd : Hd} {c' : Array Value} {ty : TypeId} (hn : H n = some (some ob)) (hp : φ (n, []) = some hd) (hsame : ∀ m, m ≠ hd.b → h'[m]? = h[m]?) (hb' : h'[hd.b]? = some (.cells c' ty (0, 0)))
    (hwd : ob'.wd = ob.wd) (hle : ob.es.length ≤ ob'.es.length) (ok : RowOK ob'.wd ob'.es hd c') (hfl : ob'.fl ≠ 0 → ob'.es.length = hd.cap)
    (hc : ∀ i e j x, ob'.es[i]? = some e → e[j]? = some x → RepA h H φ (n, [(i, j)]) x (c'.getD (hd.off + i * ob'.wd + j) undef)) : HeapOK h' (put1 H n (some ob')) φ ∧ Turn h H φ h' (put1 H n (some ob')) φ :=
  updG_ok k hn hp hsame hb' hwd hle fun t other => obRow ok.wd0 h4 (.inr ⟨hd, c', ty, hp, hb', ok, hfl, fun i e j x hi hj => (hc i e j x hi hj).keep (fun _ _ r => r.turn t) _ (fun q => rfl) fun q hd2 hq => other _ hd2 hq (by simp)⟩)
theorem kill_ok (k : HeapOK h H φ) {n : Nat} {ob : Ob} (hn : H n = some (some ob)) : HeapOK h (put1 H n none) φ ∧ Turn h H φ h (put1 H n none) φ := by
  have t : Turn h H φ h (put1 H n none) φ := by
    refine ⟨rfl, fun b hb hO => ⟨hO, rfl⟩, fun m hm => ?_, fun m x hm => ?_⟩
    · have e : m ≠ n := fun e => by rw [e, hn] at hm; cases hm
      rw [put1_ne _ e]; exact hm
    · by_cases e : m = n
      · subst e; exact .inl (put1_self _ _)
      · exact .inr ⟨x, (put1_ne _ e).trans hm, rfl, rfl, Nat.le_refl _⟩
  refine ⟨all_ob (fun m x hm => ?_) k.lt k.apart k.old k.inj, t⟩
  have e : m ≠ n := fun e => by rw [e, put1_self] at hm; cases hm
  rw [put1_ne _ e] at hm
  exact (k.ob m x hm).keep (fun _ _ r => r.turn t) (fun q => rfl) fun _ _ _ => rfl
theorem shift_ok (k : HeapOK h H φ) {n m : Nat} {ob ob' : Ob} (h4 : ob'.fl ≠ 4) {hd : Hd} {c' : Array Value} {ty : TypeId} (hn : H n = some (some ob)) (hm : H m = none) (hsz : h.size ≤ h'.size)
    (hsame : ∀ b, b < h.size → (∀ hd, φ (n, []) = some hd → b ≠ hd.b) → h'[b]? = h[b]?) (hnew : h.size ≤ hd.b ∨ ∃ hd0, φ (n, []) = some hd0 ∧ hd0.b = hd.b) (hb' : h'[hd.b]? = some (.cells c' ty (0, 0)))
    (ok : RowOK ob'.wd ob'.es hd c') (hfl : ob'.fl ≠ 0 → ob'.es.length = hd.cap)
    (hc : ∀ i e j x, ob'.es[i]? = some e → e[j]? = some x → RepA h H φ (n, [(i, j)]) x (c'.getD (hd.off + i * ob'.wd + j) undef)) :
    ∃ φ', HeapOK h' (put1 (put1 H n none) m (some ob')) φ' ∧ Turn h H φ h' (put1 (put1 H n none) m (some ob')) φ' ∧ φ' (m, []) = some hd := by
  have hnm : n ≠ m := fun e => by rw [e, hm] at hn; cases hn
  let φ' : Phi := (φ.set n fun _ => none).set m fun q => if q = [] then some hd else φ (n, q)
  have pm : ∀ q, φ' (m, q) = if q = [] then some hd else φ (n, q) := fun q => set_self _ _ _
  have po : ∀ X : Place, X.1 ≠ m → X.1 ≠ n → φ' X = φ X := fun X h1 h2 => (set_ne _ h1).trans (set_ne _ h2)
  have own : ∀ X hd2, φ' X = some hd2 → (X = (m, []) ∧ hd2 = hd) ∨ (∃ q, q ≠ [] ∧ X = (m, q) ∧ φ (n, q) = some hd2) ∨ (X.1 ≠ n ∧ X.1 ≠ m ∧ φ X = some hd2) := by
    rintro ⟨l, q⟩ hd2 hX
    by_cases e : l = m
    · subst e
      rw [pm] at hX
      by_cases e2 : q = []
      · subst e2; cases hX; exact .inl ⟨rfl, rfl⟩
      · rw [if_neg e2] at hX; exact .inr (.inl ⟨q, e2, rfl, hX⟩)
    · by_cases e2 : l = n
      · subst e2
        have : φ' (l, q) = none := (set_ne _ e).trans (set_self _ _ _)
        rw [this] at hX; cases hX
      · rw [po _ e e2] at hX; exact .inr (.inr ⟨e2, e, hX⟩)
  have t : Turn h H φ h' (put1 (put1 H n none) m (some ob')) φ' := by
    refine ⟨rfl, fun b hb hO => ⟨?_, hsame b hb fun hd0 h0 e => hO ⟨_, hd0, h0, e.symm⟩⟩, fun l hl => ?_, fun l x hl => ?_⟩
    · rintro ⟨X, hd2, hX, rfl⟩
      rcases own X hd2 hX with ⟨_, rfl⟩ | ⟨q, _, _, hq⟩ | ⟨_, _, hq⟩
      · rcases hnew with h1 | ⟨hd0, h1, h2⟩
        · omega
        · exact hO ⟨_, hd0, h1, h2⟩
      · exact hO ⟨_, hd2, hq, rfl⟩
      · exact hO ⟨_, hd2, hq, rfl⟩
    · have e1 : l ≠ m := fun e => by rw [e, hm] at hl; cases hl
      have e2 : l ≠ n := fun e => by rw [e, hn] at hl; cases hl
      rw [put1_ne _ e1, put1_ne _ e2]; exact hl
    · have e1 : l ≠ m := fun e => by rw [e, hm] at hl; cases hl
      rw [put1_ne _ e1]
      by_cases e2 : l = n
      · subst e2; exact .inl (put1_self _ _)
      · exact .inr ⟨x, (put1_ne _ e2).trans hl, po _ e1 e2, rfl, Nat.le_refl _⟩
  have other : ∀ (X : Place) hd2, φ X = some hd2 → X ≠ (n, []) → h'[hd2.b]? = h[hd2.b]? := fun X hd2 hX hne => hsame _ (k.lt X hd2 hX) fun hd0 h0 e => hne (k.inj X _ hd2 hd0 hX h0 e)
  refine ⟨φ', all_ob (fun l x hl => ?_) (fun X hd2 hX => ?_) (fun X hd2 hX ho => ?_) (fun b hb => Nat.lt_of_lt_of_le (k.old b hb) hsz) (fun X Y hd1 hd2 hX hY hb => ?_), t, by rw [pm]; rfl⟩
  · by_cases e : l = m
    · subst e
      rw [put1_self] at hl
      cases hl
      refine obRow ok.wd0 h4 (.inr ⟨hd, c', ty, by rw [pm]; rfl, hb', ok, hfl, fun i e j x hi hj => (hc i e j x hi hj).keep (fun _ _ r => r.turn t) _ (fun q => ?_) fun q hd2 hq => other _ hd2 hq (by simp)⟩)
      rw [pm, if_neg (by simp)]
    · rw [put1_ne _ e] at hl
      have e2 : l ≠ n := fun e2 => by rw [e2, put1_self] at hl; cases hl
      rw [put1_ne _ e2] at hl
      exact (k.ob l x hl).keep (fun _ _ r => r.turn t) (fun q => po _ e e2) fun q hd2 hq => other _ hd2 hq fun e3 => e2 (congrArg Prod.fst e3)
  · rcases own X hd2 hX with ⟨_, rfl⟩ | ⟨q, _, _, hq⟩ | ⟨_, _, hq⟩
    · exact lt_of_get hb'
    · exact Nat.lt_of_lt_of_le (k.lt _ _ hq) hsz
    · exact Nat.lt_of_lt_of_le (k.lt _ _ hq) hsz
  · rcases own X hd2 hX with ⟨_, rfl⟩ | ⟨q, _, _, hq⟩ | ⟨_, _, hq⟩
    · rcases hnew with h1 | ⟨hd0, h1, h2⟩
      · have := k.old _ ho; omega
      · exact k.apart _ hd0 h1 (h2 ▸ ho)
    · exact k.apart _ _ hq ho
    · exact k.apart _ _ hq ho
  · have key : ∀ X hd2, (∃ q, q ≠ [] ∧ X = (m, q) ∧ φ (n, q) = some hd2) ∨ (X.1 ≠ n ∧ X.1 ≠ m ∧ φ X = some hd2) → hd.b ≠ hd2.b := by
      rintro X hd2 hX e
      rcases hnew with h1 | ⟨hd0, h1, h2⟩
      · rcases hX with ⟨q, _, _, hq⟩ | ⟨_, _, hq⟩ <;> have := k.lt _ _ hq <;> omega
      · rcases hX with ⟨q, hq0, _, hq⟩ | ⟨hq0, _, hq⟩
        · have := k.inj _ _ _ _ h1 hq (h2.trans e); simp only [Prod.mk.injEq, true_and] at this; exact hq0 this.symm
        · have := k.inj _ _ _ _ h1 hq (h2.trans e); exact hq0 (congrArg Prod.fst this).symm
    have hX2 := own X hd1 hX
    have hY2 := own Y hd2 hY
    clear hX hY
    rcases hX2 with ⟨rfl, rfl⟩ | hX <;> rcases hY2 with ⟨rfl, rfl⟩ | hY
    · rfl
    · exact absurd hb (key Y hd2 hY)
    · exact absurd hb.symm (key X hd1 hX)
    · rcases hX with ⟨q, hq0, rfl, hq⟩ | ⟨hq0, hq1, hq⟩ <;> rcases hY with ⟨q', hq0', rfl, hq'⟩ | ⟨hq0', hq1', hq'⟩
      · have := k.inj _ _ _ _ hq hq' hb
        simp only [Prod.mk.injEq, true_and] at this
        rw [this]
      · have := k.inj _ _ _ _ hq hq' hb
        exact absurd (congrArg Prod.fst this).symm hq0'
      · have := k.inj _ _ _ _ hq hq' hb
        exact absurd (congrArg Prod.fst this) hq0
      · exact k.inj _ _ _ _ hq hq' hb
end
end Go.Proofs.Ytfafehhallbjiaa.Ac
set_option linter.unusedVariables false
set_option linter.unusedSimpArgs false
namespace Go.Proofs.Ytfafehhallbjiaa.Ac
open Go.RowKit
section
variable {h h' : Array Obj} {H H' : Hp} {φ φ' : Phi}
theorem getLast_app (q : List (Nat × Nat)) (s : Nat × Nat) : (q ++ [s]).getLast? = some s := by simp
theorem of_getLast {q : List (Nat × Nat)} {s : Nat × Nat} (hq : q.getLast? = some s) : q.dropLast ++ [s] = q := by
  obtain ⟨hne, hs⟩ := List.getLast?_eq_some_iff.1 hq
  rw [hs]; simp
theorem set_get {es : List (List A)} {i j : Nat} {e : List A} {y : A} (he : es[i]? = some e) {i' j' : Nat} {e' : List A} {x : A} (h1 : (es.set i (e.set j y))[i']? = some e') (h2 : e'[j']? = some x) :
    (i' = i ∧ j' = j ∧ x = y) ∨ (¬ (i' = i ∧ j' = j) ∧ ∃ e0, es[i']? = some e0 ∧ e0[j']? = some x) := by
  have hi := (List.getElem?_eq_some_iff.1 he).1
  by_cases hii : i = i'
  · subst hii
    rw [List.getElem?_set_self hi] at h1
    cases h1
    by_cases hjj : j = j'
    · subst hjj
      have : j < (e.set j y).length := (List.getElem?_eq_some_iff.1 h2).1
      rw [List.getElem?_set_self (by simpa using this)] at h2
      cases h2
      exact .inl ⟨rfl, rfl, rfl⟩
    · rw [List.getElem?_set_ne hjj] at h2
      exact .inr ⟨fun h => hjj h.2.symm, e, he, h2⟩
  · rw [List.getElem?_set_ne hii] at h1
    exact .inr ⟨fun h => hii h.1.symm, e', h1, h2⟩
theorem RowOK.set {wd : Nat} {es : List (List A)} {hd : Hd} {c : Array Value} (ok : RowOK wd es hd c) {i j : Nat} {e : List A} {y : A} (he : es[i]? = some e) : RowOK wd (es.set i (e.set j y)) hd c :=
  ⟨ok.wd0, fun e' he' => by
    rcases List.mem_or_eq_of_mem_set he' with h | rfl
    · exact ok.len e' h
    · simpa using ok.len e (List.mem_of_getElem? he), by simpa using ok.le, ok.cap, ok.size, ok.one⟩
theorem xpl_ok (k : HeapOK h H φ) {n m : Nat} {ob : Ob} {i j : Nat} {e : List A} {wd : Nat} {ys : List (List A)} (hn : H n = some (some ob)) (hf4 : ob.fl ≠ 4) (hm : H m = none) (he : ob.es[i]? = some e) (hj : e[j]? = some (.ow wd ys)) :
    ∃ φ', HeapOK h (put1 (put1 H n (some ⟨ob.fl, ob.wd, ob.es.set i (e.set j (.row m 0 ys.length))⟩)) m (some ⟨0, wd, ys⟩)) φ' ∧
      Turn h H φ h (put1 (put1 H n (some ⟨ob.fl, ob.wd, ob.es.set i (e.set j (.row m 0 ys.length))⟩)) m (some ⟨0, wd, ys⟩)) φ' := by
  have hnm : n ≠ m := fun e => by rw [e, hm] at hn; cases hn
  let φ' : Phi := (φ.set n fun q => if q.getLast? = some (i, j) then none else φ (n, q)).set m fun q => φ (n, q ++ [(i, j)])
  have pm : ∀ q, φ' (m, q) = φ (n, q ++ [(i, j)]) := fun q => set_self _ _ _
  have pn : ∀ q, φ' (n, q) = if q.getLast? = some (i, j) then none else φ (n, q) := fun q => (set_ne _ hnm).trans (set_self _ _ _)
  have po : ∀ X : Place, X.1 ≠ m → X.1 ≠ n → φ' X = φ X := fun X h1 h2 => (set_ne _ h1).trans (set_ne _ h2)
  have own : ∀ X hd, φ' X = some hd → (∃ q, X = (m, q) ∧ φ (n, q ++ [(i, j)]) = some hd) ∨ (X.1 ≠ m ∧ (∀ q, X = (n, q) → q.getLast? ≠ some (i, j)) ∧ φ X = some hd) := by
    rintro ⟨l, q⟩ hd hX
    by_cases e1 : l = m
    · subst e1; rw [pm] at hX; exact .inl ⟨q, rfl, hX⟩
    · by_cases e2 : l = n
      · subst e2
        rw [pn] at hX
        by_cases e3 : q.getLast? = some (i, j)
        · rw [if_pos e3] at hX; cases hX
        · rw [if_neg e3] at hX
          refine .inr ⟨e1, fun q' hq' => ?_, hX⟩
          cases hq'; exact e3
      · rw [po _ e1 e2] at hX
        exact .inr ⟨e1, fun q' hq' => absurd (congrArg Prod.fst hq') e2, hX⟩
  have own' : ∀ X hd, φ' X = some hd → ∃ Y, φ Y = some hd := fun X hd hX => by
    rcases own X hd hX with ⟨q, _, hq⟩ | ⟨_, _, hq⟩
    · exact ⟨_, hq⟩
    · exact ⟨_, hq⟩
  have hphn : φ' (n, []) = φ (n, []) := by rw [pn]; simp
  have t : Turn h H φ h (put1 (put1 H n (some ⟨ob.fl, ob.wd, ob.es.set i (e.set j (.row m 0 ys.length))⟩)) m (some ⟨0, wd, ys⟩)) φ' := by
    refine ⟨rfl, fun b hb hO => ⟨?_, rfl⟩, fun l hl => ?_, fun l x hl => .inr ?_⟩
    · rintro ⟨X, hd, hX, rfl⟩
      obtain ⟨Y, hY⟩ := own' X hd hX
      exact hO ⟨Y, hd, hY, rfl⟩
    · have e1 : l ≠ m := fun e => by rw [e, hm] at hl; cases hl
      have e2 : l ≠ n := fun e => by rw [e, hn] at hl; cases hl
      rw [put1_ne _ e1, put1_ne _ e2]; exact hl
    · have e1 : l ≠ m := fun e => by rw [e, hm] at hl; cases hl
      rw [put1_ne _ e1]
      by_cases e2 : l = n
      · subst e2
        rw [hn] at hl
        cases hl
        exact ⟨_, put1_self _ _, hphn, rfl, by simp⟩
      · exact ⟨x, (put1_ne _ e2).trans hl, po _ e1 e2, rfl, Nat.le_refl _⟩
  have hobn := k.ob n ob hn
  refine ⟨φ', all_ob (fun l x hl => ?_) (fun X hd hX => ?_) (fun X hd hX ho => ?_) k.old (fun X Y hd1 hd2 hX hY hb => ?_), t⟩
  · by_cases e1 : l = m
    · subst e1
      rw [put1_self] at hl
      cases hl
      rcases (hobn.row hf4) with ⟨h0, _⟩ | ⟨hd, c, ty, h1, h2, h3, h4, h5⟩
      · rw [h0] at he; cases he
      · have r := h5 i e j _ he hj
        generalize c.getD (hd.off + i * ob.wd + j) undef = u at r
        cases r with
        | e _ _ _ r => cases r
        | nilo _ _ a hw hX => exact obRow hw (fun h => by cases h) (.inl ⟨rfl, by rw [pm]; exact hX⟩)
        | ow _ _ _ hd2 c2 ty2 hX hb ok hr =>
          refine obRow ok.wd0 (fun h => by cases h) (.inr ⟨hd2, c2, ty2, by rw [pm]; exact hX, hb, ok, fun h => absurd rfl h, fun i2 e2 j2 x2 hi2 hj2 => (hr i2 e2 j2 x2 hi2 hj2).keep (fun _ _ r => r.turn t) _ (fun q => ?_) fun _ _ _ => rfl⟩)
          rw [pm]; simp
    · rw [put1_ne _ e1] at hl
      by_cases e2 : l = n
      · subst e2
        rw [put1_self] at hl
        cases hl
        refine obRow hobn.1 hf4 ?_
        rcases (hobn.row hf4) with ⟨h0, _⟩ | ⟨hd, c, ty, h1, h2, h3, h4, h5⟩
        · rw [h0] at he; cases he
        · refine .inr ⟨hd, c, ty, hphn.trans h1, h2, h3.set he, by simpa using h4, fun i2 e2 j2 x2 hi2 hj2 => ?_⟩
          rcases set_get he hi2 hj2 with ⟨rfl, rfl, rfl⟩ | ⟨hne, e0, g1, g2⟩
          · refine .e _ _ _ (.row _ _ _ _ ?_)
            have r := h5 i2 e j2 _ he hj
            dsimp only
            generalize c.getD (hd.off + i2 * ob.wd + j2) undef = u at r ⊢
            refine ⟨r.one, ?_⟩
            rw [put1_self]
            dsimp only
            refine ⟨Nat.zero_le _, Nat.le_refl _, ?_⟩
            rw [pm]
            cases r with
            | e _ _ _ r => cases r
            | nilo _ _ a hw hX => rw [List.nil_append, hX]; exact ⟨a, rfl⟩
            | ow _ _ _ hd2 c2 ty2 hX hb ok hr => rw [List.nil_append, hX]; exact ⟨_, rfl, fun _ => by simp⟩
          · refine (h5 i2 e0 j2 x2 g1 g2).keep (fun _ _ r => r.turn t) _ (fun q => ?_) fun _ _ _ => rfl
            rw [pn, getLast_app, if_neg]
            intro h; cases h; exact hne ⟨rfl, rfl⟩
      · rw [put1_ne _ e2] at hl
        exact (k.ob l x hl).keep (fun _ _ r => r.turn t) (fun q => po _ e1 e2) fun _ _ _ => rfl
  · obtain ⟨Y, hY⟩ := own' X hd hX; exact k.lt Y hd hY
  · obtain ⟨Y, hY⟩ := own' X hd hX; exact k.apart Y hd hY ho
  · rcases own X hd1 hX with ⟨q, rfl, hq⟩ | ⟨a1, a2, hq⟩ <;> rcases own Y hd2 hY with ⟨q', rfl, hq'⟩ | ⟨a1', a2', hq'⟩
    · have := k.inj _ _ _ _ hq hq' hb
      simp only [Prod.mk.injEq, true_and, List.append_cancel_right_eq] at this
      rw [this]
    · have := k.inj _ _ _ _ hq hq' hb
      exact absurd (getLast_app q (i, j)) (a2' _ this.symm)
    · have := k.inj _ _ _ _ hq hq' hb
      exact absurd (getLast_app q' (i, j)) (a2 _ this)
    · exact k.inj _ _ _ _ hq hq' hb
theorem imp_ok (k : HeapOK h H φ) {n m : Nat} {ob mob : Ob} {i j len : Nat} {e : List A} (hn : H n = some (some ob)) (hf4 : ob.fl ≠ 4) (hm : H m = some (some mob)) (hm4 : mob.fl ≠ 4) (hnm : n ≠ m) (he : ob.es[i]? = some e) (hj : e[j]? = some (.row m 0 len)) :
    ∃ φ', HeapOK h (put1 (put1 H m none) n (some ⟨ob.fl, ob.wd, ob.es.set i (e.set j (.ow mob.wd (mob.es.take len)))⟩)) φ' ∧
      Turn h H φ h (put1 (put1 H m none) n (some ⟨ob.fl, ob.wd, ob.es.set i (e.set j (.ow mob.wd (mob.es.take len)))⟩)) φ' ∧ (∀ p, φ p = none → (∀ q, p ≠ (n, q)) → φ' p = none) ∧ φ' (n, []) = φ (n, []) ∧ ∀ q, φ' (m, q) = none := by
  let φ' : Phi := (φ.set n fun q => if q.getLast? = some (i, j) then φ (m, q.dropLast) else φ (n, q)).set m fun _ => none
  have pm : ∀ q, φ' (m, q) = none := fun q => set_self _ _ _
  have pn : ∀ q, φ' (n, q) = if q.getLast? = some (i, j) then φ (m, q.dropLast) else φ (n, q) := fun q => (set_ne _ hnm).trans (set_self _ _ _)
  have pn' : ∀ q, φ' (n, q ++ [(i, j)]) = φ (m, q) := fun q => by rw [pn, getLast_app, if_pos rfl, List.dropLast_concat]
  have po : ∀ X : Place, X.1 ≠ m → X.1 ≠ n → φ' X = φ X := fun X h1 h2 => (set_ne _ h1).trans (set_ne _ h2)
  have own : ∀ X hd, φ' X = some hd → (∃ q, X = (n, q ++ [(i, j)]) ∧ φ (m, q) = some hd) ∨ (X.1 ≠ m ∧ φ X = some hd ∧ ∀ q, X ≠ (n, q ++ [(i, j)])) := by
    rintro ⟨l, q⟩ hd hX
    by_cases e1 : l = m
    · subst e1; rw [pm] at hX; cases hX
    · by_cases e2 : l = n
      · subst e2
        rw [pn] at hX
        by_cases e3 : q.getLast? = some (i, j)
        · rw [if_pos e3] at hX
          exact .inl ⟨q.dropLast, by rw [of_getLast e3], hX⟩
        · rw [if_neg e3] at hX
          refine .inr ⟨e1, hX, fun q' hq' => ?_⟩
          cases hq'; exact e3 (getLast_app _ _)
      · rw [po _ e1 e2] at hX
        exact .inr ⟨e1, hX, fun q' hq' => e2 (congrArg Prod.fst hq')⟩
  have own' : ∀ X hd, φ' X = some hd → ∃ Y, φ Y = some hd := fun X hd hX => by
    rcases own X hd hX with ⟨q, _, hq⟩ | ⟨_, hq, _⟩
    · exact ⟨_, hq⟩
    · exact ⟨_, hq⟩
  have hphn : φ' (n, []) = φ (n, []) := by rw [pn]; simp
  have t : Turn h H φ h (put1 (put1 H m none) n (some ⟨ob.fl, ob.wd, ob.es.set i (e.set j (.ow mob.wd (mob.es.take len)))⟩)) φ' := by
    refine ⟨rfl, fun b hb hO => ⟨?_, rfl⟩, fun l hl => ?_, fun l x hl => ?_⟩
    · rintro ⟨X, hd, hX, rfl⟩
      obtain ⟨Y, hY⟩ := own' X hd hX
      exact hO ⟨Y, hd, hY, rfl⟩
    · have e1 : l ≠ m := fun e => by rw [e, hm] at hl; cases hl
      have e2 : l ≠ n := fun e => by rw [e, hn] at hl; cases hl
      rw [put1_ne _ e2, put1_ne _ e1]; exact hl
    · by_cases e2 : l = n
      · subst e2
        rw [hn] at hl
        cases hl
        exact .inr ⟨_, put1_self _ _, hphn, rfl, by simp⟩
      · rw [put1_ne _ e2]
        by_cases e1 : l = m
        · subst e1; exact .inl (put1_self _ _)
        · exact .inr ⟨x, (put1_ne _ e1).trans hl, po _ e1 e2, rfl, Nat.le_refl _⟩
  have hobn := k.ob n ob hn
  have hobm := k.ob m mob hm
  refine ⟨φ', all_ob (fun l x hl => ?_) (fun X hd hX => ?_) (fun X hd hX ho => ?_) k.old (fun X Y hd1 hd2 hX hY hb => ?_), t, fun p hp hp2 => ?_, hphn, pm⟩
  · by_cases e2 : l = n
    · subst e2
      rw [put1_self] at hl
      cases hl
      refine obRow hobn.1 hf4 ?_
      rcases (hobn.row hf4) with ⟨h0, _⟩ | ⟨hd, c, ty, h1, h2, h3, h4, h5⟩
      · rw [h0] at he; cases he
      · refine .inr ⟨hd, c, ty, hphn.trans h1, h2, h3.set he, by simpa using h4, fun i2 e2 j2 x2 hi2 hj2 => ?_⟩
        rcases set_get he hi2 hj2 with ⟨rfl, rfl, rfl⟩ | ⟨hne, e0, g1, g2⟩
        · have r := h5 i2 e j2 _ he hj
          dsimp only
          generalize c.getD (hd.off + i2 * ob.wd + j2) undef = u at r ⊢
          cases r with
          | e _ _ _ r =>
            cases r with
            | row _ _ _ _ r =>
              have r2 := r.2
              rw [hm] at r2
              dsimp only at r2
              obtain ⟨_, hle, r3⟩ := r2
              rcases (hobm.row hm4) with ⟨g0, g1⟩ | ⟨hd2, c2, ty2, g1, g2, g3, g4, g5⟩
              · rw [g1] at r3
                obtain ⟨a, rfl⟩ := r3
                rw [g0]
                simp only [List.take_nil]
                exact .nilo _ _ a hobm.1 ((pn' []).trans g1)
              · rw [g1] at r3
                obtain ⟨a, rfl, ha⟩ := r3
                rw [ha (.inl rfl)]
                have hl2 : (mob.es.take len).length = len := by simp; omega
                simp only [Nat.zero_mul, Nat.add_zero, Nat.sub_zero]
                have := RepA.ow (h := h) (H := put1 (put1 H m none) l (some ⟨ob.fl, ob.wd, ob.es.set i2 (e.set j2 (.ow mob.wd (mob.es.take len)))⟩)) (φ := φ') (l, [(i2, j2)]) mob.wd (mob.es.take len) hd2 c2 ty2 ((pn' []).trans g1) g2
                  ⟨g3.wd0, fun e he => g3.len e (List.mem_of_mem_take he), by rw [hl2]; exact Nat.le_trans hle g3.le, g3.cap, g3.size, g3.one⟩ (fun i3 e3 j3 x3 hi3 hj3 => ?_)
                · rw [hl2] at this; exact this
                · rw [List.getElem?_take] at hi3
                  split at hi3
                  · refine (g5 i3 e3 j3 x3 hi3 hj3).keep (fun _ _ r => r.turn t) _ (fun q => ?_) fun _ _ _ => rfl
                    have := pn' (q ++ [(i3, j3)])
                    simpa using this
                  · cases hi3
        · refine (h5 i2 e0 j2 x2 g1 g2).keep (fun _ _ r => r.turn t) _ (fun q => ?_) fun _ _ _ => rfl
          rw [pn, getLast_app, if_neg]
          intro h; cases h; exact hne ⟨rfl, rfl⟩
    · rw [put1_ne _ e2] at hl
      have e1 : l ≠ m := fun e => by rw [e, put1_self] at hl; cases hl
      rw [put1_ne _ e1] at hl
      exact (k.ob l x hl).keep (fun _ _ r => r.turn t) (fun q => po _ e1 e2) fun _ _ _ => rfl
  · obtain ⟨Y, hY⟩ := own' X hd hX; exact k.lt Y hd hY
  · obtain ⟨Y, hY⟩ := own' X hd hX; exact k.apart Y hd hY ho
  · rcases own X hd1 hX with ⟨q, rfl, hq⟩ | ⟨a1, hq, a2⟩ <;> rcases own Y hd2 hY with ⟨q', rfl, hq'⟩ | ⟨a1', hq', a2'⟩
    · have := k.inj _ _ _ _ hq hq' hb
      simp only [Prod.mk.injEq, true_and] at this
      rw [this]
    · have := k.inj _ _ _ _ hq hq' hb
      exact absurd (congrArg Prod.fst this).symm a1'
    · have := k.inj _ _ _ _ hq hq' hb
      exact absurd (congrArg Prod.fst this) a1
    · exact k.inj _ _ _ _ hq hq' hb
  · by_cases e1 : p.1 = m
    · have := pm p.2; rwa [← e1] at this
    · have e2 : p.1 ≠ n := fun e => hp2 p.2 (by rw [← e])
      rw [po _ e1 e2]; exact hp
end
end Go.Proofs.Ytfafehhallbjiaa.Ac
set_option linter.unusedVariables false
set_option linter.unusedSimpArgs false
namespace Go.Proofs.Ytfafehhallbjiaa.Ac
open Go.RowKit
inductive Out : Type 1 where
  | no
  | ok (v : T) (u : List (Nat × Option Ob))
  | rd (n : Nat) (k : Option (Option Ob) → Out)
  | spl (c : Prop) (a b : Out)
  | con (c : Prop) (a : Out)
  | ex {α : Type} (p : α → Prop) (f : α → Out)
  | all {α : Type} (p : α → Prop) (f : α → Out)
def Out.K (sq : Bool) (g : Hp) : Out → List Nat → (Eff → Prop) → Prop
  | .no, _, _ => False
  | .ok v u, rs, k => k ⟨v, rs, u⟩
  | .rd n f, rs, k => (f (g n)).K sq g (n :: rs) k
  | .spl c a b, rs, k => (c → a.K sq g rs k) ∧ (¬ c → b.K sq g rs k)
  | .con c a, rs, k => c ∧ a.K sq g rs k
  | .ex p f, rs, k => ∃ x, p x ∧ (f x).K sq g rs k
  | .all p f, rs, k => match sq with
    | true => ∀ x, p x → (f x).K sq g rs k
    | false => False
section
variable {g g' : Hp} {ε : Eff} {k k' : Eff → Prop}
theorem Out.mono (hk : ∀ ε, k ε → k' ε) {sq : Bool} : ∀ (o : Out) (rs : List Nat), o.K sq g rs k → o.K sq g rs k'
  | .no, _, h => h
  | .ok v u, rs, h => hk _ h
  | .rd n f, rs, h => Out.mono hk (f (g n)) _ h
  | .spl c a b, rs, h => ⟨fun hc => Out.mono hk a rs (h.1 hc), fun hc => Out.mono hk b rs (h.2 hc)⟩
  | .con c a, rs, h => ⟨h.1, Out.mono hk a rs h.2⟩
  | .ex p f, rs, ⟨x, hx, h⟩ => ⟨x, hx, Out.mono hk (f x) rs h⟩
  | .all p f, rs, h => by
    cases sq with
    | true => exact fun x hx => Out.mono hk (f x) rs (h x hx)
    | false => exact h
theorem Out.seq : ∀ (o : Out) (rs : List Nat), o.K false g rs k → o.K true g rs k
  | .no, _, h => h
  | .ok v u, rs, h => h
  | .rd n f, rs, h => Out.seq (f (g n)) _ h
  | .spl c a b, rs, h => ⟨fun hc => Out.seq a rs (h.1 hc), fun hc => Out.seq b rs (h.2 hc)⟩
  | .con c a, rs, h => ⟨h.1, Out.seq a rs h.2⟩
  | .ex p f, rs, ⟨x, hx, h⟩ => ⟨x, hx, Out.seq (f x) rs h⟩
  | .all p f, rs, h => h.elim
theorem Out.elim : ∀ (o : Out) (rs : List Nat), o.K false g rs k → ∃ ε, o.K false g rs (fun ε' => ε' = ε) ∧ k ε
  | .no, _, h => h.elim
  | .ok v u, rs, h => ⟨_, rfl, h⟩
  | .rd n f, rs, h => Out.elim (f (g n)) _ h
  | .spl c a b, rs, h => by
    by_cases hc : c
    · obtain ⟨ε, h1, h2⟩ := Out.elim a rs (h.1 hc)
      exact ⟨ε, ⟨fun _ => h1, fun h => absurd hc h⟩, h2⟩
    · obtain ⟨ε, h1, h2⟩ := Out.elim b rs (h.2 hc)
      exact ⟨ε, ⟨fun h => absurd h hc, fun _ => h1⟩, h2⟩
  | .con c a, rs, h => by
    obtain ⟨ε, h1, h2⟩ := Out.elim a rs h.2
    exact ⟨ε, ⟨h.1, h1⟩, h2⟩
  | .ex p f, rs, ⟨x, hx, h⟩ => by
    obtain ⟨ε, h1, h2⟩ := Out.elim (f x) rs h
    exact ⟨ε, ⟨x, hx, h1⟩, h2⟩
  | .all p f, rs, h => h.elim
theorem Out.reads : ∀ (o : Out) (rs : List Nat), o.K false g rs (fun ε' => ε' = ε) → ∀ n ∈ rs, n ∈ ε.rdn
  | .no, _, h => h.elim
  | .ok v u, rs, h => by cases h; exact fun n hn => hn
  | .rd n f, rs, h => fun m hm => Out.reads (f (g n)) _ h m (List.mem_cons_of_mem _ hm)
  | .spl c a b, rs, h => by
    by_cases hc : c
    · exact Out.reads a rs (h.1 hc)
    · exact Out.reads b rs (h.2 hc)
  | .con c a, rs, h => Out.reads a rs h.2
  | .ex p f, rs, ⟨x, _, h⟩ => Out.reads (f x) rs h
  | .all p f, rs, h => h.elim
theorem Out.local (hg : ∀ n ∈ names ε, g' n = g n) : ∀ (o : Out) (rs : List Nat), o.K false g rs (fun ε' => ε' = ε) → o.K false g' rs (fun ε' => ε' = ε)
  | .no, _, h => h
  | .ok v u, rs, h => h
  | .rd n f, rs, h => by
    have hn : n ∈ ε.rdn := Out.reads (f (g n)) _ h n List.mem_cons_self
    show (f (g' n)).K false g' (n :: rs) _
    rw [hg n (List.mem_append_left _ hn)]
    exact Out.local hg (f (g n)) _ h
  | .spl c a b, rs, h => ⟨fun hc => Out.local hg a rs (h.1 hc), fun hc => Out.local hg b rs (h.2 hc)⟩
  | .con c a, rs, h => ⟨h.1, Out.local hg a rs h.2⟩
  | .ex p f, rs, ⟨x, hx, h⟩ => ⟨x, hx, Out.local hg (f x) rs h⟩
  | .all p f, rs, h => h.elim
end
structure Sim (w₀ : World) (H₀ : Hp) (φ₀ : Phi) (N : Nat) (e : Env) (g : Hp) (φ : Phi) (a : Act) (w : World) : Prop where
  env : ∀ t x, e t = some x → RepT w.heap g φ x (a.eval (.tmp t))
  sz : a.tmps.size = N
  dfr : a.defers = []
  ok : HeapOK w.heap g φ
  turn : Turn w₀.heap H₀ φ₀ w.heap g φ
  os : w.os = w₀.os
  tape : w.tape = w₀.tape
  output : w.output = w₀.output
  size : w₀.heap.size ≤ w.heap.size
section
variable {P : Program} {w₀ : World} {H₀ : Hp} {φ₀ : Phi} {N : Nat} {e : Env} {g g' : Hp} {φ φ' : Phi} {a : Act} {w w' : World} {K : Act → World → Prop} {Q : Exit → Act → World → Prop} {ε : Eff}
theorem eval_put {d t : Nat} {u : Value} (hd : d < a.tmps.size) : (a.put (some d) u).eval (.tmp t) = if d = t then u else a.eval (.tmp t) := by
  simp only [Act.put, Act.eval]
  by_cases h : d = t
  · subst h; simp [hd]
  · simp [h, Array.getElem?_setIfInBounds_ne h]
theorem Sim.next (s : Sim w₀ H₀ φ₀ N e g φ a w) (t : Turn w.heap g φ w'.heap g' φ') (ok' : HeapOK w'.heap g' φ') (hos : w'.os = w.os) (htape : w'.tape = w.tape) (hout : w'.output = w.output) (hsize : w.heap.size ≤ w'.heap.size)
    {d : Option Tmp} {v : T} {u : Value} (hd : ∀ x, d = some x → x < N) (hv : d ≠ none → RepT w'.heap g' φ' v u) : Sim w₀ H₀ φ₀ N (putE d v e) g' φ' (a.put d u) w' := by
  refine ⟨fun i x hx => ?_, ?_, ?_, ok', s.turn.trans t, hos.trans s.os, htape.trans s.tape, hout.trans s.output, Nat.le_trans s.size hsize⟩
  · cases d with
    | none => exact (s.env i x hx).mono fun _ _ r => r.turn t
    | some d =>
      rw [eval_put (by rw [s.sz]; exact hd d rfl)]
      by_cases hdi : d = i
      · subst hdi
        simp only [putE, Nat.beq_refl, cond_true, Option.some.injEq] at hx
        subst hx
        simpa using hv (by simp)
      · rw [putE_ne (by simpa using hdi)] at hx
        rw [if_neg hdi]
        exact (s.env i x hx).mono fun _ _ r => r.turn t
  · cases d with
    | none => exact s.sz
    | some d => simpa [Act.put] using s.sz
  · cases d <;> exact s.dfr
def Does (P : Program) (w : World) (g : Hp) (φ : Phi) (s : Sem Next) (ε : Eff) : Prop := ∃ n w' φ', s.run P w = .ok n w' ∧ (n = .skip ∨ ∃ u, n = .value u ∧ RepT w'.heap (putH ε.upd g) φ' ε.val u) ∧ (n = .skip → ε.val = .bot) ∧
  Turn w.heap g φ w'.heap (putH ε.upd g) φ' ∧ HeapOK w'.heap (putH ε.upd g) φ' ∧ w'.os = w.os ∧ w'.tape = w.tape ∧ w'.output = w.output ∧ w.heap.size ≤ w'.heap.size
def DoesO (P : Program) (w : World) (g : Hp) (φ : Phi) (s : Sem Next) (rs : List Nat) (o : Out) : Prop := ∀ k, o.K true g rs k → ∃ ε, k ε ∧ Does P w g φ s ε
theorem putH_one (n : Nat) (o : Option Ob) (g : Hp) : putH [(n, o)] g = put1 g n o := by
  funext m
  by_cases h : m = n
  · subst h; simp [putH, get, put1]
  · simp only [putH, put1, h, if_false]
    rw [get_cons_ne _ _ (Ne.symm h)]; rfl
theorem putH_cons (n : Nat) (o : Option Ob) (u : List (Nat × Option Ob)) (g : Hp) : putH ((n, o) :: u) g = put1 (putH u g) n o := by
  funext m
  by_cases h : m = n
  · subst h; simp [putH, get, put1]
  · simp only [putH, put1, h, if_false]
    rw [get_cons_ne _ _ (Ne.symm h)]
theorem Does.value {s : Sem Next} {v : T} {u : Value} {rd : List Nat} (ok : HeapOK w.heap g φ) (hrun : s.run P w = .ok (.value u) w) (hv : RepT w.heap g φ v u) : Does P w g φ s ⟨v, rd, []⟩ :=
  ⟨_, w, φ, hrun, .inr ⟨u, rfl, hv⟩, fun h => (by cases h), Turn.refl _ _ _, ok, rfl, rfl, rfl, Nat.le_refl _⟩
theorem Does.made {s : Sem Next} {v : T} {u : Value} {rd : List Nat} {us : List (Nat × Option Ob)} {w' : World} {φ' : Phi} (hrun : s.run P w = .ok (.value u) w') (ok : HeapOK w'.heap (putH us g) φ') (t : Turn w.heap g φ w'.heap (putH us g) φ')
    (hv : RepT w'.heap (putH us g) φ' v u) (h1 : w'.os = w.os) (h2 : w'.tape = w.tape) (h3 : w'.output = w.output) (h4 : w.heap.size ≤ w'.heap.size) : Does P w g φ s ⟨v, rd, us⟩ :=
  ⟨_, w', φ', hrun, .inr ⟨u, rfl, hv⟩, fun h => (by cases h), t, ok, h1, h2, h3, h4⟩
theorem Does.skip {s : Sem Next} {rd : List Nat} {us : List (Nat × Option Ob)} {w' : World} {φ' : Phi} (hrun : s.run P w = .ok .skip w') (ok : HeapOK w'.heap (putH us g) φ') (t : Turn w.heap g φ w'.heap (putH us g) φ')
    (h1 : w'.os = w.os) (h2 : w'.tape = w.tape) (h3 : w'.output = w.output) (h4 : w.heap.size ≤ w'.heap.size) : Does P w g φ s ⟨.bot, rd, us⟩ :=
  ⟨_, w', φ', hrun, .inl rfl, fun _ => rfl, t, ok, h1, h2, h3, h4⟩
theorem wp_ok {o : Oper} {v : Value} {w' : World} (hrun : (execOp a.eval o).run P w = .ok (.value v) w') (h : K (a.put o.dst v) w') : o.wp P a w K Q := by
  unfold Oper.wp
  rw [hrun]; exact h
theorem wp_skipped {o : Oper} {w' : World} (hrun : (execOp a.eval o).run P w = .ok .skip w') (h : K (a.put o.dst undef) w') : o.wp P a w K Q := by
  unfold Oper.wp
  rw [hrun]; exact h
def SimS (w₀ : World) (H₀ : Hp) (φ₀ : Phi) (N : Nat) (e : Env) (g : Hp) (a : Act) (w : World) : Prop := ∃ φ, Sim w₀ H₀ φ₀ N e g φ a w
theorem Does.wp {o : Oper} (s : Sim w₀ H₀ φ₀ N e g φ a w) (hd : ∀ x, o.dst = some x → x < N) (h : Does P w g φ (execOp a.eval o) ε)
    (hK : ∀ a' w', SimS w₀ H₀ φ₀ N (putE o.dst ε.val e) (putH ε.upd g) a' w' → K a' w') : o.wp P a w K Q := by
  obtain ⟨n, w', φ', hrun, hn, hb, ht, ok, h1, h2, h3, h4⟩ := h
  rcases hn with rfl | ⟨u, rfl, hu⟩
  · refine wp_skipped hrun (hK _ _ ⟨φ', s.next ht ok h1 h2 h3 h4 hd fun _ => ?_⟩)
    rw [hb rfl]; trivial
  · exact wp_ok hrun (hK _ _ ⟨φ', s.next ht ok h1 h2 h3 h4 hd fun _ => hu⟩)
end
inductive Lay where
  | w (d : TypeDesc) (z : A) (bt : Nat)
  | st (sz : Nat) (z : List A) (fs : List (Nat × Nat × Bool)) (bt : Nat)
def _root_.Go.TypeDesc.aggD : TypeDesc → Bool
  | .struct _ | .array _ _ => true
  | _ => false
def Lay.size : Lay → Nat
  | .w _ _ _ => 1
  | .st sz _ _ _ => sz
def Lay.zero : Lay → List A
  | .w _ z _ => [z]
  | .st _ z _ _ => z
def Lay.bt : Lay → Nat
  | .w _ _ b => b
  | .st _ _ _ b => b
abbrev Tab := Nat → Option Lay
def constA : Value → A
  | .slice none 0 0 => .nl
  | x => .f (.v x)
def constT : Value → T
  | .agg cs => .val true (cs.toList.map constA)
  | .tuple _ => .bot
  | x => .val false [constA x]
structure TabOK (P : Program) (tb : Tab) : Prop where
  w : ∀ i d z bt, tb i = some (.w d z bt) → P.underlying i = some d ∧ d.aggD = false ∧ ∃ inf zv, P.info? i = some inf ∧ inf.size = 1 ∧ inf.zero = some zv ∧ zv.oneCell' = true ∧ z = constA zv ∧ inf.bytes = bt
  st : ∀ i sz z fs bt, tb i = some (.st sz z fs bt) → ∃ inf fields zv, P.underlying i = some (.struct fields) ∧ P.info? i = some inf ∧ inf.size = sz ∧ inf.zero = some (.agg zv) ∧ z = zv.toList.map constA ∧
    zv.toList.all (·.oneCell') = true ∧ zv.size = sz ∧ inf.bytes = bt ∧ fs.length = fields.size ∧ ∀ (f : Nat) (x : Nat × Nat × Bool), fs[f]? = some x → ∃ fd inf', fields[f]? = some fd ∧ fd.offset = x.1 ∧ P.info? fd.type = some inf' ∧ inf'.size = x.2.1 ∧ x.2.1 ≠ 0 ∧ x.1 + x.2.1 ≤ sz ∧ ∃ d', P.underlying fd.type = some d' ∧ d'.aggD = x.2.2
def evT (e : Env) : Operand → T
  | .tmp t => (e t).getD .bot
  | .const v => constT v
  | .global _ => .bot
  | .func f => .val false [.f (.cl f [])]
section
variable {w₀ : World} {H₀ : Hp} {φ₀ : Phi} {N : Nat} {e : Env} {g : Hp} {φ : Phi} {a : Act} {w : World} {h : Array Obj} {H : Hp}
theorem constA_ok {v : Value} (hv : v.oneCell' = true) : RepE h H φ (constA v) v := by
  unfold constA
  split
  · exact .nl _
  · exact .f _ _ (.v v hv)
theorem constC_ok : ∀ {cs : List Value}, cs.all (·.oneCell') = true → RepC h H φ (cs.map constA) cs
  | [], _ => trivial
  | v :: cs, hc => by
    simp only [List.all_cons, Bool.and_eq_true] at hc
    exact ⟨constA_ok hc.1, constC_ok hc.2⟩
def constOK : Value → Bool
  | .agg cs => cs.toList.all (·.oneCell')
  | _ => true
def operOK : Operand → Bool
  | .const v => constOK v
  | _ => true
theorem ev_ok (s : Sim w₀ H₀ φ₀ N e g φ a w) {x : Operand} (hx : operOK x = true) : RepT w.heap g φ (evT e x) (a.eval x) := by
  cases x with
  | tmp t =>
    simp only [evT]
    cases ht : e t with
    | none => trivial
    | some v => exact s.env t v ht
  | const v =>
    simp only [evT, Act.eval]
    unfold constT
    split
    · rename_i cs
      exact ⟨cs, rfl, constC_ok (by simpa [operOK, constOK] using hx)⟩
    · trivial
    · rename_i h1 h2
      exact ⟨_, rfl, constA_ok (by cases v <;> first | rfl | exact absurd rfl (h1 _) | exact absurd rfl (h2 _))⟩
  | global n => trivial
  | func f => exact ⟨_, rfl, .f _ _ (.cl f [] #[] rfl (fun i x hi => by simp at hi) fun i x j y hi => by simp at hi)⟩
end
end Go.Proofs.Ytfafehhallbjiaa.Ac
set_option linter.unusedVariables false
set_option linter.unusedSimpArgs false
namespace Go.Proofs.Ytfafehhallbjiaa.Ac
open Go.RowKit
def one (v : T) : Out := .ok v []
def tB (b : Bool) : T := .val false [.f (.v (.bool b))]
def tI (i : IntKind) (z : Int) : T := .val false [.f (.v (.int i z))]
def tS (s : ByteArray) : T := .val false [.f (.v (.string s))]
def split2 (c : Prop) : Out := .spl c (one (tB true)) (one (tB false))
def aliveO (n : Nat) (κ : Nat → Nat → List (List A) → Out) : Out := .rd n fun x => match x with
  | some (some ⟨fl, wd, es⟩) => cond (Nat.beq fl 4) .no (κ fl wd es)
  | _ => .no
def elO (fl : Nat) (es : List (List A)) (i : Nat) (κ : List A → Out) : Out := cond (Nat.beq fl 3) (match es with
  | [e] => cond (Nat.beq i 0) (κ e) .no
  | _ => .no) (.ex (fun e => es[i]? = some e) κ)
def setO (fl wd : Nat) (es : List (List A)) (i : Nat) (e : List A) (κ : Ob → Out) : Out := cond (Nat.beq fl 3) (κ ⟨3, wd, [e]⟩) (κ ⟨fl, wd, es.set i e⟩)
def takK {α : Type} : List α → Nat → (List α → Out) → Out
  | _, 0, κ => κ []
  | x :: xs, n + 1, κ => takK xs n fun r => κ (x :: r)
  | [], _ + 1, _ => .no
def segK {α : Type} : List α → Nat → Nat → (List α → Out) → Out
  | xs, 0, s, κ => takK xs s κ
  | _ :: xs, o + 1, s, κ => segK xs o s κ
  | [], _ + 1, _, _ => .no
def ovK {α : Type} : List α → List α → (List α → Out) → Out
  | xs, [], κ => κ xs
  | _ :: xs, y :: ys, κ => ovK xs ys fun r => κ (y :: r)
  | [], _ :: _, _ => .no
def spliceK {α : Type} : List α → Nat → List α → (List α → Out) → Out
  | xs, 0, ys, κ => ovK xs ys κ
  | x :: xs, n + 1, ys, κ => spliceK xs n ys fun r => κ (x :: r)
  | [], _ + 1, _, _ => .no
def xsK (d : Nat) : Nat → List A → (List A → List (Nat × Option Ob) → Out) → Out
  | _, [], κ => κ [] []
  | k, .ow wd ys :: l, κ => .rd (16 * (d + 1) + k) fun o => match o with
    | none => xsK d (k + 1) l fun xs ns => κ (.row (16 * (d + 1) + k) 0 ys.length :: xs) ((16 * (d + 1) + k, some ⟨0, wd, ys⟩) :: ns)
    | some _ => .no
  | k, x :: l, κ => xsK d k l fun xs ns => κ (x :: xs) ns
def mkT (l : Lay) (xs : List A) : T := match l with
  | .w _ _ _ => .val false xs
  | .st _ _ _ _ => .val true xs
def allF {α : Type} (xs : List L) (κ : List A → Out) : Out := match xs with
  | [] => κ []
  | x :: l => allF (α := α) l fun r => κ (.f x :: r)
def newO (d : Nat) (ob : Ob) (v : Nat → T) : Out := .rd (16 * (d + 1)) fun o => match o with
  | none => .ok (v (16 * (d + 1))) [(16 * (d + 1), some ob)]
  | some _ => .no
def moveO (x : T) : Out := match x with
  | .val ag cs => one (.val ag cs)
  | .tu vs => one (.tu vs)
  | .bot => one .bot
def pickO (c a b : T) : Out := match c with
  | .val false [.f (.v (.bool true))] => moveO a
  | .val false [.f (.v (.bool false))] => moveO b
  | _ => .no
def boxO (d : Nat) (l : Lay) (x : T) : Out := match x with
  | .val _ cs => cond (Nat.beq cs.length l.size && Nat.blt 0 l.size) (newO d ⟨3, l.size, [cs]⟩ fun m => .val false [.pt m 0 0]) .no
  | _ => .no
def allocO (d : Nat) (l : Lay) : Out := cond (Nat.blt 0 l.size) (newO d ⟨3, l.size, [l.zero]⟩ fun m => .val false [.pt m 0 0]) .no
def loadO (d : Nat) (l : Lay) (x : T) : Out := match x with
  | .val false [.pt n i off] => aliveO n fun fl wd es => elO fl es i fun e => segK e off l.size fun seg => xsK d 0 seg fun xs ns => match ns with
    | [] => .ok (mkT l xs) []
    | x :: ns => spliceK e off xs fun e' => setO fl wd es i e' fun ob => .ok (mkT l xs) ((n, some ob) :: x :: ns)
  | .val false [.f (.pv y)] => takK y l.size fun seg => allF (α := Nat) seg fun xs => one (mkT l xs)
  | _ => .no
def storeO (l : Lay) (x y : T) : Out := match x, y with
  | .val false [.pt n i off], .val _ cs => cond (Nat.beq cs.length l.size) (aliveO n fun fl wd es => elO fl es i fun e => spliceK e off cs fun e' => setO fl wd es i e' fun ob => .ok .bot [(n, some ob)]) .no
  | _, _ => .no
def nilO (x : T) : Out := match x with
  | .val false [.f (.pv y)] => one (.val false [.f (.pv y)])
  | .val false [.pt n i off] => aliveO n fun _ _ _ => one (.val false [.pt n i off])
  | .val false [.f (.cl f cs)] => one (.val false [.f (.cl f cs)])
  | .val false [.cl f cs] => one (.val false [.cl f cs])
  | _ => .no
def dropK {α : Type} : List α → Nat → (List α → Out) → Out
  | xs, 0, κ => κ xs
  | _ :: xs, n + 1, κ => dropK xs n κ
  | [], _ + 1, _ => .no
def addrO (o : Nat) (x : T) : Out := match x with
  | .val false [.f (.pv y)] => dropK y o fun zs => match zs with
    | z :: zs => one (.val false [.f (.pv (z :: zs))])
    | [] => .no
  | .val false [.pt n i off] => aliveO n fun _ _ _ => one (.val false [.pt n i (off + o)])
  | _ => .no
def fieldO (o s : Nat) (ag : Bool) (x : T) : Out := match x with
  | .val true cs => segK cs o s fun seg => match ag with
    | true => one (.val true seg)
    | false => cond (Nat.beq s 1) (one (.val false seg)) .no
  | _ => .no
def idxO (l : Lay) (x i : T) : Out := match i with
  | .val false [.f (.v (.int _ z))] => match x with
    | .val false [.f (.sl wd es)] => cond (Nat.beq l.size wd) (.ex (α := Nat × List L) (fun y => z = (y.1 : Int) ∧ es[y.1]? = some y.2) fun y => one (.val false [.f (.pv y.2)])) .no
    | .val false [.row n lo hi] => aliveO n fun fl wd es => cond (Nat.beq l.size wd) (cond (Nat.beq lo 0) (.ex (fun j : Nat => z = (j : Int) ∧ j < hi) fun j => one (.val false [.pt n j 0]))
      (.ex (fun j : Nat => z = (j : Int) ∧ lo + j < hi) fun j => one (.val false [.pt n (lo + j) 0]))) .no
    | _ => .no
  | _ => .no
def chrO (x i : T) : Out := match x, i with
  | .val false [.f (.v (.string s))], .val false [.f (.v (.int _ z))] => .ex (α := Nat × UInt8) (fun y => z = (y.1 : Int) ∧ s[y.1]? = some y.2) fun y => one (tI .u8 y.2.toNat)
  | _, _ => .no
def beqK : IntKind → IntKind → Bool
  | .i64, .i64 | .u8, .u8 | .u64, .u64 | .i32, .i32 | .u32, .u32 => true
  | _, _ => false
def binO (op : BinOp) (i : IntKind) (x y : Int) : Out := match op with
  | .add => one (tI i (i.wrap (x + y)))
  | .sub => one (tI i (i.wrap (x - y)))
  | .mul => one (tI i (i.wrap (x * y)))
  | .quo => .con (y ≠ 0) (one (tI i (i.wrap (x.tdiv y))))
  | .rem => .con (y ≠ 0) (one (tI i (x.tmod y)))
  | .and => one (tI i (i.wrap (BitVec.ofInt i.bits x &&& BitVec.ofInt i.bits y).toNat))
  | .or => one (tI i (i.wrap (BitVec.ofInt i.bits x ||| BitVec.ofInt i.bits y).toNat))
  | .xor => one (tI i (i.wrap (BitVec.ofInt i.bits x ^^^ BitVec.ofInt i.bits y).toNat))
  | .eql => split2 (x = y)
  | .neq => split2 (x ≠ y)
  | .lss => split2 (x < y)
  | .leq => split2 (x ≤ y)
  | .gtr => split2 (x > y)
  | .geq => split2 (x ≥ y)
  | _ => .no
def shiftO (op : BinOp) (i : IntKind) (x y : Int) : Out := match op with
  | .shl => .con (0 ≤ y) (one (tI i (i.wrap (x * 2 ^ (min y.toNat i.bits)))))
  | .shr => .con (0 ≤ y) (one (tI i (x.fdiv (2 ^ (min y.toNat i.bits)))))
  | _ => .no
def isShift : BinOp → Bool
  | .shl | .shr => true
  | _ => false
def isNilO (op : BinOp) (b : Bool) : Out := match op with
  | .eql => one (tB b)
  | .neq => one (tB (!b))
  | _ => .no
def biO (op : BinOp) (x y : T) : Out := match x, y with
  | .val false [.f (.v (.int i a))], .val false [.f (.v (.int j b))] => cond (isShift op) (shiftO op i a b) (cond (beqK i j) (binO op i a b) .no)
  | .val false [.f (.v (.string a))], .val false [.f (.v (.string b))] => match op with
    | .add => .con (a.size + b.size ≤ maxLen) (one (tS (a ++ b)))
    | .eql => split2 (a = b)
    | .neq => split2 (a ≠ b)
    | _ => .no
  | .val false [.f (.v (.pointer none))], .val false [.f (.v (.pointer none))] => isNilO op true
  | .val false [.f (.pv _)], .val false [.f (.v (.pointer none))] => isNilO op false
  | .val false [.pt n _ _], .val false [.f (.v (.pointer none))] => aliveO n fun _ _ _ => isNilO op false
  | _, _ => .no
def biN (op : BinOp) (x y : T) : Out := match x, y with
  | .val false [.f (.v (.int i a))], .val false [.f (.v (.int j b))] => cond (isShift op) (shiftO op i a b) (cond (beqK i j) (binO op i a b) .no)
  | .val false [.f (.v (.string a))], .val false [.f (.v (.string b))] => biO op (.val false [.f (.v (.string a))]) (.val false [.f (.v (.string b))])
  | _, _ => .no
def eqO (op : BinOp) (l : Lay) (x y : T) : Out := match l, x, y with
  | .w .bool _ _, .val false [.f (.v (.bool a))], .val false [.f (.v (.bool b))] => match op with
    | .eql => split2 (a = b)
    | .neq => split2 (a ≠ b)
    | _ => .no
  | _, _, _ => .no
def unO (u : UnOp) (x : T) : Out := match u, x with
  | .not, .val false [.f (.v (.bool b))] => match b with
    | true => one (tB false)
    | false => one (tB true)
  | .neg, .val false [.f (.v (.int i z))] => one (tI i (i.wrap (0 - z)))
  | _, _ => .no
def extrO (x : T) (i : Nat) : Out := match x with
  | .tu vs => match vs[i]? with
    | some (ag, cs) => one (.val ag cs)
    | none => .no
  | _ => .no
def mapK (n : Nat) (κ : Nat → List (List A) → Out) : Out := .rd n fun x => match x with
  | some (some ⟨fl, wd, es⟩) => cond (Nat.beq fl 4) (κ wd es) .no
  | _ => .no
def mget : List (Int × Value) → Int → Option Value
  | [], _ => none
  | x :: l, k => if x.1 = k then some x.2 else mget l k
def mput : List (Int × Value) → Int → Value → List (Int × Value)
  | [], k, v => [(k, v)]
  | x :: l, k, v => if x.1 = k then (k, v) :: l else x :: mput l k v
def lookO (lk le : Lay) (x i : T) : Out := match lk, le, x, i with
  | .w (.int .i64) _ _, .w _ (.f (.v z)) _, .val false [.mp n], .val false [.f (.v (.int .i64 k))] => mapK n fun _ es => .ex (fun p : List (Int × Value) × Value => es = mpR p.1 ∧ (mget p.1 k).getD z = p.2) fun p => one (.val false [.f (.v p.2)])
  | _, _, _, _ => .no
def mupdO (lk : Lay) (x i y : T) : Out := match lk, x, i, y with
  | .w (.int .i64) _ _, .val false [.mp n], .val false [.f (.v (.int .i64 k))], .val false [.f (.v v)] => mapK n fun wd es => .ex (fun l : List (Int × Value) => es = mpR l) fun l => .ok .bot [(n, some ⟨4, wd, mpR (mput l k v)⟩)]
  | _, _, _, _ => .no
def lenO (l : Lay) (x : T) : Out := match l, x with
  | .w (.slice _) _ _, .val false [.f (.sl _ es)] => one (tI .i64 es.length)
  | .w (.slice _) _ _, .val false [.nl] => one (tI .i64 0)
  | .w (.slice _) _ _, .val false [.un (some k)] => one (tI .i64 k)
  | .w (.slice _) _ _, .val false [.row n lo hi] => aliveO n fun _ _ _ => cond (Nat.beq lo 0) (one (tI .i64 hi)) (one (tI .i64 ((hi - lo : Nat) : Int)))
  | .w .string _ _, .val false [.f (.v (.string s))] => one (tI .i64 s.size)
  | .w (.map _ _) _ _, .val false [.mp n] => mapK n fun _ es => one (tI .i64 es.length)
  | _, _ => .no
def junk (wd k : Nat) : List (List A) := List.replicate k (List.replicate wd (.un none))
def capO (l : Lay) (x : T) : Out := match l, x with
  | .w (.slice _) _ _, .val false [.f (.sl _ es)] => .all (fun z : Nat => es.length ≤ z ∨ es = []) fun z => one (tI .i64 z)
  | .w (.slice _) _ _, .val false [.nl] => one (tI .i64 0)
  | .w (.slice _) _ _, .val false [.row n lo hi] => aliveO n fun fl wd es => match fl with
    | 1 => one (tI .i64 ((es.length - lo : Nat) : Int))
    | 0 => .all (fun k : Nat => es.length + k ≤ maxLen) fun k => .ok (tI .i64 ((es.length + k - lo : Nat) : Int)) [(n, some ⟨1, wd, es ++ junk wd k⟩)]
    | _ => .no
  | _, _ => .no
def mmO (mx : Bool) (x y : T) : Out := match x, y with
  | .val false [.f (.v (.int i a))], .val false [.f (.v (.int _ b))] => match mx with
    | true => one (tI i (if b > a then b else a))
    | false => one (tI i (if b < a then b else a))
  | _, _ => .no
def cpA : A → A
  | .ow _ ys => .un (some ys.length)
  | x => x
def cpE (es : List (List A)) : List (List A) := es.map (·.map cpA)
def noOw : List (List A) → Bool
  | [] => true
  | e :: es => go e && noOw es
where
  go : List A → Bool
    | [] => true
    | .ow _ _ :: _ => false
    | _ :: l => go l
def srcO (wd : Nat) (y : T) (κ : List (List A) → Out) : Out := match y with
  | .val false [.nl] => κ []
  | .val false [.f (.sl wd' es)] => cond (Nat.beq wd wd') (.ex (fun es' : List (List A) => es.map (·.map A.f) = es') κ) .no
  | .val false [.row m lo hi] => aliveO m fun fl wd' es => cond (Nat.beq wd wd') (cond (Nat.beq fl 2 && noOw es && Nat.beq lo 0 && Nat.beq hi es.length) (κ es) (.ex (fun es' : List (List A) => cpE ((es.take hi).drop lo) = es') κ)) .no
  | _ => .no
def appendO (d : Nat) (l : Lay) (x y : T) : Out := cond (Nat.blt 0 l.size && Nat.ble l.bt 65536) (srcO l.size y fun new => match x with
  | .val false [.nl] => .con (new.length < 2 ^ 30) (newO d ⟨0, l.size, new⟩ fun m => .val false [.row m 0 new.length])
  | .val false [.row n lo hi] => aliveO n fun fl wd es => cond (Nat.beq l.size wd && Nat.beq lo 0) (match fl with
    | 1 => .con (hi + new.length < 2 ^ 30) (.spl (hi + new.length ≤ es.length)
        (.ex (fun es' : List (List A) => es.take hi ++ new ++ es.drop (hi + new.length) = es') fun es' => .ok (.val false [.row n 0 (hi + new.length)]) [(n, some ⟨1, wd, es'⟩)])
        (.ex (fun es' : List (List A) => cpE (es.take hi) ++ new = es') fun es' => newO d ⟨0, l.size, es'⟩ fun m => .val false [.row m 0 es'.length]))
    | _ => .ex (fun es' : List (List A) => es.take hi ++ new = es' ∧ es'.length < 2 ^ 30) fun es' => .rd (16 * (d + 1)) fun o => match o with
      | none => .ok (.val false [.row (16 * (d + 1)) 0 es'.length]) [(16 * (d + 1), some ⟨0, wd, es'⟩), (n, none)]
      | some _ => .no) .no
  | _ => .no) .no
def copyO (l : Lay) (x y : T) : Out := srcO l.size y fun new => match x with
  | .val false [.row n lo hi] => aliveO n fun fl wd es => cond (Nat.beq l.size wd) (.ex (fun es' : List (List A) => es.take lo ++ new.take (hi - lo) ++ es.drop (lo + min new.length (hi - lo)) = es') fun es' =>
      .ok (tI .i64 ((min new.length (hi - lo) : Nat) : Int)) [(n, some ⟨fl, wd, es'⟩)]) .no
  | .val false [.nl] => one (tI .i64 0)
  | _ => .no
def clearO (l : Lay) (x : T) : Out := match x with
  | .val false [.row n lo hi] => aliveO n fun fl wd es => cond (Nat.beq l.size wd) (.ex (fun es' : List (List A) => es.take lo ++ List.replicate (hi - lo) l.zero ++ es.drop hi = es') fun es' => .ok .bot [(n, some ⟨fl, wd, es'⟩)]) .no
  | .val false [.nl] => one .bot
  | _ => .no
def biltO (tb : Tab) (b : Builtin) (ts : List TypeId) (xs : List T) (d : Nat) : Out := match b, ts, xs with
  | .len, [t], [x] => match tb t with
    | some l => lenO l x
    | none => .no
  | .cap, [t], [x] => match tb t with
    | some l => capO l x
    | none => .no
  | .append, [t, u], [x, y] => match tb t, tb u with
    | some (.w (.slice el) _ _), some (.w (.slice _) _ _) => match tb el with
      | some l => appendO d l x y
      | none => .no
    | _, _ => .no
  | .copy, t :: _, [x, y] => match tb t with
    | some (.w (.slice el) _ _) => match tb el with
      | some l => cond (Nat.blt 0 l.size) (copyO l x y) .no
      | none => .no
    | _ => .no
  | .clear, [t], [x] => match tb t with
    | some (.w (.slice el) _ _) => match tb el with
      | some l => clearO l x
      | none => .no
    | _ => .no
  | .max, _, [x, y] => mmO true x y
  | .min, _, [x, y] => mmO false x y
  | _, _, _ => .no
def bndP (x : Option T) (dflt : Nat) (a : Nat) : Prop := match x with
  | none => a = dflt
  | some (.val false [.f (.v (.int _ z))]) => z = (a : Int)
  | some _ => False
def elc (le : Option Lay) (wd : Nat) (o : Out) : Out := match le with
  | some le => cond (Nat.beq le.size wd) o .no
  | none => .no
def elk (le : Option Lay) (o : Out) : Out := match le with
  | some _ => o
  | none => .no
def sliceO (l : Lay) (le : Option Lay) (x : T) (lo hi mx : Option T) : Out := match mx with
  | none => match l, x with
    | .w .string _ _, .val false [.f (.v (.string s))] => .ex (α := Nat × Nat) (fun y => bndP lo 0 y.1 ∧ bndP hi s.size y.2 ∧ y.1 ≤ y.2 ∧ y.2 ≤ s.size) fun y => one (tS (s.extract y.1 y.2))
    | .w (.slice _) _ _, .val false [.f (.sl wd es)] => elc le wd (.ex (α := Nat × Nat × List (List L)) (fun y => bndP lo 0 y.1 ∧ bndP hi es.length y.2.1 ∧ y.1 ≤ y.2.1 ∧ y.2.1 ≤ es.length ∧ (es.take y.2.1).drop y.1 = y.2.2) fun y => one (.val false [.f (.sl wd y.2.2)]))
    | .w (.slice _) _ _, .val false [.nl] => elk le (.con (bndP lo 0 0 ∧ bndP hi 0 0) (one (.val false [.nl])))
    | .w (.slice _) _ _, .val false [.row n p q] => aliveO n fun fl wd es => elc le wd (cond (Nat.beq p 0) (.ex (α := Nat × Nat) (fun y => bndP lo 0 y.1 ∧ bndP hi q y.2 ∧ y.1 ≤ y.2 ∧ (y.2 ≤ q ∨ fl = 1 ∧ y.2 ≤ es.length)) fun y => one (.val false [.row n y.1 y.2]))
        (.ex (α := Nat × Nat) (fun y => bndP lo 0 y.1 ∧ bndP hi (q - p) y.2 ∧ y.1 ≤ y.2 ∧ (p + y.2 ≤ q ∨ fl = 1 ∧ p < q ∧ p + y.2 ≤ es.length)) fun y => one (.val false [.row n (p + y.1) (p + y.2)])))
    | _, _ => .no
  | some (.val false [.f (.v (.int _ 0))]) => match l, x, lo, hi with
    | .w (.slice _) _ _, .val false [.row n _ _], none, some (.val false [.f (.v (.int _ 0))]) => elk le (aliveO n fun _ _ _ => one (.val false [.nl]))
    | .w (.slice _) _ _, .val false [.f (.sl _ _)], none, some (.val false [.f (.v (.int _ 0))]) => elk le (one (.val false [.nl]))
    | .w (.slice _) _ _, .val false [.nl], none, some (.val false [.f (.v (.int _ 0))]) => elk le (one (.val false [.nl]))
    | _, _, _, _ => .no
  | _ => .no
def makeSliceO (d : Nat) (l : Lay) (len cap : T) : Out := match len, cap with
  | .val false [.f (.v (.int _ z))], .val false [.f (.v (.int _ y))] => cond (Nat.blt 0 l.size && Nat.ble l.bt 65536) (.ex (α := Nat × Nat) (fun k => z = (k.1 : Int) ∧ y = (k.2 : Int) ∧ k.1 ≤ k.2 ∧ k.2 < 2 ^ 30) fun k =>
      newO d ⟨0, l.size, List.replicate k.1 l.zero⟩ fun m => .val false [.row m 0 k.1]) .no
  | _, _ => .no
def litK (l : Lay) (ps : List (Nat × T)) : Nat → Nat → (List (List A) → Out) → Out
  | _, 0, κ => κ []
  | i, n + 1, κ => match get ps i with
    | some (.val _ cs) => cond (Nat.beq cs.length l.size) (litK l ps (i + 1) n fun r => κ (cs :: r)) .no
    | some _ => .no
    | none => litK l ps (i + 1) n fun r => κ (l.zero :: r)
def nodupB : List Nat → Bool
  | [] => true
  | n :: l => cond (memN n l) false (nodupB l)
def buildSliceO (d : Nat) (l : Lay) (n : Nat) (ps : List (Nat × T)) : Out := cond (Nat.blt 0 l.size && nodupB (ps.map (·.1)) && ps.all (fun p => Nat.blt p.1 n) && Nat.ble (n * l.size) 65536) (litK l ps 0 n fun es => newO d ⟨2, l.size, es⟩ fun m => .val false [.row m 0 n]) .no
def buildK (fs : List (Nat × Nat × Bool)) : List (Nat × T) → List A → (List A → Out) → Out
  | [], zs, κ => κ zs
  | (f, .val _ cs) :: ps, zs, κ => match fs[f]? with
    | some (o, s, _) => cond (Nat.beq cs.length s) (spliceK zs o cs fun zs => buildK fs ps zs κ) .no
    | none => .no
  | _ :: _, _, _ => .no
def buildO (l : Lay) (ps : List (Nat × T)) : Out := match l with
  | .st _ z fs _ => buildK fs ps z fun cs => one (.val true cs)
  | _ => .no
def convO (l l' : Lay) (x : T) : Out := match l, l', x with
  | .w (.int _) _ _, .w (.int k) _ _, .val false [.f (.v (.int _ z))] => one (tI k (k.wrap z))
  | .w .string _ _, .w .string _ _, .val false [.f (.v (.string s))] => one (tS s)
  | _, _, _ => .no
def byteL (b : UInt8) : List A := [.f (.v (.int .u8 b.toNat))]
def bytesO (el : Option Lay) (x : T) : Out := match el with
  | some (.w (.int .u8) _ _) => match x with
    | .val false [.row n lo hi] => aliveO n fun _ wd es => cond (Nat.beq wd 1) (.ex (fun s : ByteArray => (es.take hi).drop lo = s.data.toList.map byteL) fun s => one (tS s)) .no
    | .val false [.nl] => one (tS .empty)
    | _ => .no
  | _ => .no
def capsK : List T → (List (Bool × List A) → Out) → Out
  | [], κ => κ []
  | .val ag cs :: xs, κ => capsK xs fun r => κ ((ag, cs) :: r)
  | _ :: _, _ => .no
def opO (tb : Tab) (o : Op) (d : Nat) (ρ : Operand → T) : Out := match o with
  | .move x | .assign x => moveO (ρ x)
  | .pick c a b => pickO (ρ c) (ρ a) (ρ b)
  | .box t x => match tb t with
    | some l => boxO d l (ρ x)
    | none => .no
  | .alloc t => match tb t with
    | some l => allocO d l
    | none => .no
  | .build t ps => match tb t with
    | some l => buildO l (ps.toList.map fun p => (p.1, ρ p.2))
    | none => .no
  | .buildSlice t n ps => match tb t with
    | some (.w (.slice el) _ _) => match tb el with
      | some l => buildSliceO d l n (ps.toList.map fun p => (p.1, ρ p.2))
      | none => .no
    | _ => .no
  | .load t x => match tb t with
    | some l => loadO d l (ρ x)
    | none => .no
  | .store t x y => match tb t with
    | some l => storeO l (ρ x) (ρ y)
    | none => .no
  | .nilCheck x => nilO (ρ x)
  | .fieldAddr t x f => match tb t with
    | some (.st _ _ fs _) => match fs[f]? with
      | some (o, _, _) => addrO o (ρ x)
      | none => .no
    | _ => .no
  | .field t x f => match tb t with
    | some (.st _ _ fs _) => match fs[f]? with
      | some (o, s, ag) => fieldO o s ag (ρ x)
      | none => .no
    | _ => .no
  | .indexAddr t x i => match tb t with
    | some (.w (.slice el) _ _) => match tb el with
      | some l => idxO l (ρ x) (ρ i)
      | none => .no
    | _ => .no
  | .index t x i => match tb t with
    | some (.w .string _ _) => chrO (ρ x) (ρ i)
    | _ => .no
  | .binOp op t x y _ => match tb t with
    | some (.w .bool z b) => eqO op (.w .bool z b) (ρ x) (ρ y)
    | some (.st sz z fs b) => .no
    | some (.w (.pointer _) _ _) => biO op (ρ x) (ρ y)
    | _ => biN op (ρ x) (ρ y)
  | .unOp u _ x => unO u (ρ x)
  | .extract x i => extrO (ρ x) i
  | .convert s t x => match tb s, tb t with
    | some (.w (.slice el) _ _), some (.w .string _ _) => bytesO (tb el) (ρ x)
    | some l, some l' => convO l l' (ρ x)
    | _, _ => .no
  | .makeFunc (.func f) fst cs => cond (Nat.beq fst.size 0) (capsK (cs.toList.map ρ) fun caps => one (.val false [.cl f caps])) .no
  | .makeMap t r => match r with
    | none => newO d ⟨4, 2, []⟩ fun m => .val false [.mp m]
    | some _ => .no
  | .lookup t x i ok => match tb t, ok with
    | some (.w (.map kt et) _ _), false => match tb kt, tb et with
      | some lk, some le => lookO lk le (ρ x) (ρ i)
      | _, _ => .no
    | _, _ => .no
  | .mapUpdate t x i y => match tb t with
    | some (.w (.map kt _) _ _) => match tb kt with
      | some lk => mupdO lk (ρ x) (ρ i) (ρ y)
      | _ => .no
    | _ => .no
  | .makeSlice t x y => match tb t with
    | some (.w (.slice el) _ _) => match tb el with
      | some l => makeSliceO d l (ρ x) (ρ y)
      | none => .no
    | _ => .no
  | .slice t x lo hi mx => match tb t with
    | some l => sliceO l (match l with
      | .w (.slice el) _ _ => tb el
      | _ => none) (ρ x) (lo.map ρ) (hi.map ρ) (mx.map ρ)
    | none => .no
  | .call c => match c.callee with
    | .builtin b => biltO tb b c.argTypes.toList (c.args.toList.map ρ) d
    | _ => .no
  | _ => .no
theorem opO_congr {tb : Tab} {o : Op} {d : Nat} {ρ ρ' : Operand → T} (h : ∀ x ∈ o.operands, ρ' x = ρ x) : opO tb o d ρ' = opO tb o d ρ := by
  have hl : ∀ {xs : Array Operand}, (∀ x ∈ xs, x ∈ o.operands) → xs.toList.map ρ' = xs.toList.map ρ := fun hx => List.map_congr_left fun x hm => h x (hx x (by simpa using hm))
  have hp : ∀ {ps : Array (Nat × Operand)}, (∀ p ∈ ps, p.2 ∈ o.operands) → (ps.toList.map fun p => (p.1, ρ' p.2)) = ps.toList.map fun p => (p.1, ρ p.2) := fun hx => List.map_congr_left fun p hm => by rw [h p.2 (hx p (by simpa using hm))]
  have ho : ∀ {x : Option Operand}, (∀ y, x = some y → y ∈ o.operands) → x.map ρ' = x.map ρ := fun {x} hx => by
    cases x with
    | none => rfl
    | some y => rw [Option.map_some, Option.map_some, h y (hx y rfl)]
  cases o with
  | build t ps => simp only [opO]; rw [hp (ps := ps) fun p hm => by simp only [Op.operands]; simp; exact ⟨_, hm⟩]
  | buildSlice t n ps => simp only [opO]; rw [hp (ps := ps) fun p hm => by simp only [Op.operands]; simp; exact ⟨_, hm⟩]
  | makeFunc f fst cs => cases f <;> simp only [opO]; rw [hl (xs := cs) fun x hm => by simp [Op.operands, hm]]
  | slice t x lo hi mx =>
    simp only [opO]
    rw [h x (by simp [Op.operands]), ho (x := lo) fun y hy => by simp [Op.operands, hy], ho (x := hi) fun y hy => by simp [Op.operands, hy], ho (x := mx) fun y hy => by simp [Op.operands, hy]]
  | call c =>
    obtain ⟨cal, args, ts⟩ := c
    simp only [opO]
    cases cal with
    | builtin b => dsimp only; rw [hl (xs := args) fun x hm => by simp [Op.operands, Call.operands, hm]]
    | _ => rfl
  | _ => first | rfl | (simp only [opO]; simp only [Op.operands] at h; simp only [h _ (by simp)]) | (simp only [opO]; simp [Op.operands] at h; simp only [h])
end Go.Proofs.Ytfafehhallbjiaa.Ac
set_option linter.unusedVariables false
set_option linter.unusedSimpArgs false
namespace Go.Proofs.Ytfafehhallbjiaa.Ac
open Go.RowKit
section
variable {α : Type} {sq : Bool} {g : Hp} {q : Eff → Prop}
theorem cond_K {b : Bool} {o : Out} {rs : List Nat} (h : (cond b o .no).K sq g rs q) : b = true ∧ o.K sq g rs q := by
  cases b
  · exact h.elim
  · exact ⟨rfl, h⟩
theorem alive_elim {n : Nat} {κ : Nat → Nat → List (List A) → Out} {rs : List Nat} (h : (aliveO n κ).K sq g rs q) : ∃ fl wd es, g n = some (some ⟨fl, wd, es⟩) ∧ fl ≠ 4 ∧ (κ fl wd es).K sq g (n :: rs) q := by
  unfold aliveO at h
  dsimp only [Out.K] at h
  split at h
  · rename_i fl wd es heq
    cases hb : Nat.beq fl 4 with
    | true => rw [hb] at h; exact h.elim
    | false => rw [hb] at h; exact ⟨fl, wd, es, heq, (fun e => by rw [e] at hb; cases hb), h⟩
  · exact h.elim
theorem el_elim {fl i : Nat} {es : List (List A)} {κ : List A → Out} {rs : List Nat} (h : (elO fl es i κ).K sq g rs q) : ∃ e, es[i]? = some e ∧ (fl = 3 → es = [e] ∧ i = 0) ∧ (κ e).K sq g rs q := by
  unfold elO at h
  cases hb : Nat.beq fl 3
  · rw [hb] at h
    obtain ⟨e, he, h⟩ := h
    exact ⟨e, he, fun h3 => by rw [h3] at hb; exact absurd hb (by decide), h⟩
  · rw [hb] at h
    dsimp only [cond_true] at h
    split at h
    · rename_i e
      obtain ⟨h0, h⟩ := cond_K h
      have := Nat.eq_of_beq_eq_true h0
      subst this
      exact ⟨e, rfl, fun _ => ⟨rfl, rfl⟩, h⟩
    · exact h.elim
theorem set_elim {fl wd i : Nat} {es : List (List A)} {e e' : List A} {κ : Ob → Out} {rs : List Nat} (h3 : fl = 3 → es = [e] ∧ i = 0) (h : (setO fl wd es i e' κ).K sq g rs q) : (κ ⟨fl, wd, es.set i e'⟩).K sq g rs q := by
  unfold setO at h
  cases hb : Nat.beq fl 3
  · rw [hb] at h; exact h
  · rw [hb] at h
    have := Nat.eq_of_beq_eq_true hb
    obtain ⟨rfl, rfl⟩ := h3 this
    subst this
    exact h
theorem tak_elim : ∀ {xs : List α} {s : Nat} {κ : List α → Out} {rs : List Nat}, (takK xs s κ).K sq g rs q → s ≤ xs.length ∧ (κ (xs.take s)).K sq g rs q
  | xs, 0, κ, rs, h => ⟨Nat.zero_le _, by simpa [takK] using h⟩
  | x :: xs, s + 1, κ, rs, h => by
    obtain ⟨h1, h2⟩ := tak_elim (xs := xs) (s := s) (κ := fun r => κ (x :: r)) h
    exact ⟨Nat.succ_le_succ h1, h2⟩
  | [], _ + 1, κ, rs, h => h.elim
theorem seg_elim : ∀ {xs : List α} {o s : Nat} {κ : List α → Out} {rs : List Nat}, (segK xs o s κ).K sq g rs q → o + s ≤ xs.length ∧ (κ ((xs.drop o).take s)).K sq g rs q
  | xs, 0, s, κ, rs, h => by
    have h' : (takK xs s κ).K sq g rs q := by cases xs <;> exact h
    obtain ⟨h1, h2⟩ := tak_elim h'
    exact ⟨by omega, h2⟩
  | x :: xs, o + 1, s, κ, rs, h => by
    obtain ⟨h1, h2⟩ := seg_elim (xs := xs) (o := o) h
    exact ⟨by simp; omega, h2⟩
  | [], _ + 1, s, κ, rs, h => h.elim
theorem ov_elim : ∀ {xs ys : List α} {κ : List α → Out} {rs : List Nat}, (ovK xs ys κ).K sq g rs q → ys.length ≤ xs.length ∧ (κ (ys ++ xs.drop ys.length)).K sq g rs q
  | xs, [], κ, rs, h => ⟨Nat.zero_le _, by cases xs <;> exact h⟩
  | x :: xs, y :: ys, κ, rs, h => by
    obtain ⟨h1, h2⟩ := ov_elim (xs := xs) (ys := ys) (κ := fun r => κ (y :: r)) h
    exact ⟨Nat.succ_le_succ h1, h2⟩
  | [], _ :: _, κ, rs, h => h.elim
theorem splice_elim : ∀ {xs : List α} {n : Nat} {ys : List α} {κ : List α → Out} {rs : List Nat}, (spliceK xs n ys κ).K sq g rs q → n + ys.length ≤ xs.length ∧ (κ (xs.take n ++ ys ++ xs.drop (n + ys.length))).K sq g rs q
  | xs, 0, ys, κ, rs, h => by
    have h' : (ovK xs ys κ).K sq g rs q := by cases xs <;> exact h
    obtain ⟨h1, h2⟩ := ov_elim h'
    exact ⟨by omega, by simpa using h2⟩
  | x :: xs, n + 1, ys, κ, rs, h => by
    obtain ⟨h1, h2⟩ := splice_elim (xs := xs) (n := n) (ys := ys) (κ := fun r => κ (x :: r)) h
    refine ⟨by simp; omega, ?_⟩
    have : n + 1 + ys.length = (n + ys.length) + 1 := by omega
    simpa [this] using h2
  | [], _ + 1, ys, κ, rs, h => h.elim
theorem allF_elim {β : Type} : ∀ {xs : List L} {κ : List A → Out} {rs : List Nat}, (allF (α := β) xs κ).K sq g rs q → (κ (xs.map .f)).K sq g rs q
  | [], κ, rs, h => h
  | x :: xs, κ, rs, h => allF_elim (xs := xs) (κ := fun r => κ (.f x :: r)) h
theorem drop_elim : ∀ {xs : List α} {n : Nat} {κ : List α → Out} {rs : List Nat}, (dropK xs n κ).K sq g rs q → n ≤ xs.length ∧ (κ (xs.drop n)).K sq g rs q
  | xs, 0, κ, rs, h => ⟨Nat.zero_le _, by cases xs <;> exact h⟩
  | x :: xs, n + 1, κ, rs, h => by
    obtain ⟨h1, h2⟩ := drop_elim (xs := xs) (n := n) h
    exact ⟨Nat.succ_le_succ h1, h2⟩
  | [], _ + 1, κ, rs, h => h.elim
theorem seg_get (c : List α) (o : Nat) (vs : List α) (hle : o + vs.length ≤ c.length) (k : Nat) :
    (c.take o ++ vs ++ c.drop (o + vs.length))[k]? = if o ≤ k ∧ k < o + vs.length then vs[k - o]? else c[k]? := by
  have ht : (c.take o).length = o := by simp; omega
  by_cases h1 : k < o
  · rw [List.append_assoc, List.getElem?_append_left (by omega), if_neg (by omega), List.getElem?_take, if_pos h1]
  · by_cases h2 : k < o + vs.length
    · rw [List.getElem?_append_left (by simp; omega), List.getElem?_append_right (by omega), if_pos (by omega), ht]
    · rw [List.getElem?_append_right (by simp; omega), if_neg (by omega), List.getElem?_drop]
      congr 1; simp; omega
end
section
variable {h : Array Obj} {g : Hp} {q : Eff → Prop}
def isOw : A → Bool
  | .ow _ _ => true
  | _ => false
theorem xs_ok {d n i fl wd : Nat} {sq : Bool} (hf4 : fl ≠ 4) : ∀ (l : List A) (k j : Nat) (e : List A) (es : List (List A)) (g' : Hp) (φ' : Phi) (κ : List A → List (Nat × Option Ob) → Out) (rs : List Nat),
    HeapOK h g' φ' → g' n = some (some ⟨fl, wd, es⟩) → es[i]? = some e → (∀ t x, l[t]? = some x → e[j + t]? = some x) → (∀ k', k ≤ k' → g (16 * (d + 1) + k') = none → g' (16 * (d + 1) + k') = none) → (xsK d k l κ).K sq g rs q →
    ∃ xs ns φ'' e' rs', (κ xs ns).K sq g rs' q ∧ xs.length = l.length ∧ (ns = [] → xs = l) ∧ (∀ x ∈ xs, isOw x = false) ∧ e'.length = e.length ∧ (∀ t x, xs[t]? = some x → e'[j + t]? = some x) ∧ (∀ p, p < j ∨ j + l.length ≤ p → e'[p]? = e[p]?) ∧
      (∀ y ∈ ns, ∃ k', k ≤ k' ∧ y.1 = 16 * (d + 1) + k') ∧
      HeapOK h (put1 (putH ns g') n (some ⟨fl, wd, es.set i e'⟩)) φ'' ∧ Turn h g' φ' h (put1 (putH ns g') n (some ⟨fl, wd, es.set i e'⟩)) φ'' := by
  intro l
  induction l with
  | nil =>
    intro k j e es g' φ' κ rs hk hn he hl hg hq
    refine ⟨[], [], φ', e, rs, hq, rfl, fun _ => rfl, fun x hx => (by cases hx), rfl, fun t x hx => (by simp at hx), fun p _ => rfl, fun y hy => (by cases hy), ?_⟩
    have hs : es.set i e = es := by
      obtain ⟨hi, rfl⟩ := List.getElem?_eq_some_iff.1 he
      exact List.set_getElem_self hi
    have : put1 (putH [] g') n (some ⟨fl, wd, es.set i e⟩) = g' := by
      funext m
      by_cases hm : m = n
      · subst hm; rw [put1_self, hs, hn]
      · rw [put1_ne _ hm]; rfl
    rw [this]
    exact ⟨hk, Turn.refl _ _ _⟩
  | cons x l ih =>
    intro k j e es g' φ' κ rs hk hn he hl hg hq
    have hcons : ∀ {xs : List A} {y : A} {e1 e' : List A}, e1[j]? = some y → (∀ t x, xs[t]? = some x → e'[j + 1 + t]? = some x) → e'[j]? = e1[j]? → ∀ t x, (y :: xs)[t]? = some x → e'[j + t]? = some x := by
      intro xs y e1 e' h1 h2 h3 t x hx
      cases t with
      | zero => cases hx; rw [Nat.add_zero, h3]; exact h1
      | succ t =>
        rw [show j + (t + 1) = j + 1 + t by omega]
        exact h2 t x hx
    have hxj : e[j]? = some x := by simpa using hl 0 x rfl
    have hl' : ∀ t y, l[t]? = some y → e[j + 1 + t]? = some y := fun t y hy => by
      rw [show j + 1 + t = j + (t + 1) by omega]; exact hl (t + 1) y hy
    by_cases hx : isOw x = true
    · cases x with
      | ow wd' ys =>
        simp only [xsK, Out.K] at hq
        split at hq
        · rename_i hm
          have hm' : g' (16 * (d + 1) + k) = none := hg k (Nat.le_refl _) hm
          obtain ⟨φ1, ok1, t1⟩ := xpl_ok hk hn hf4 hm' he hxj
          have hnm : n ≠ 16 * (d + 1) + k := fun e => by rw [e, hm'] at hn; cases hn
          have hi := (List.getElem?_eq_some_iff.1 he).1
          have hjl := (List.getElem?_eq_some_iff.1 hxj).1
          obtain ⟨xs, ns, φ'', e', rs', h1, h2, h3, h4, h5, h6, h7, h7', h8, h9⟩ := ih (k + 1) (j + 1) (e.set j (.row (16 * (d + 1) + k) 0 ys.length)) (es.set i (e.set j (.row (16 * (d + 1) + k) 0 ys.length))) _ φ1 _ _ ok1
            (by rw [put1_ne _ hnm]; exact put1_self _ _) (by rw [List.getElem?_set_self hi]) (fun t y hy => by rw [List.getElem?_set_ne (by omega)]; exact hl' t y hy)
            (fun k' hk' hg0 => by
              have h0 := hg k' (by omega) hg0
              rw [put1_ne _ (by omega), put1_ne _ (fun e => by rw [← e, h0] at hn; cases hn)]
              exact h0) hq
          have hfin : put1 (putH ns (put1 (put1 g' n (some ⟨fl, wd, es.set i (e.set j (.row (16 * (d + 1) + k) 0 ys.length))⟩)) (16 * (d + 1) + k) (some ⟨0, wd', ys⟩))) n (some ⟨fl, wd, (es.set i (e.set j (.row (16 * (d + 1) + k) 0 ys.length))).set i e'⟩) =
              put1 (putH ((16 * (d + 1) + k, some ⟨0, wd', ys⟩) :: ns) g') n (some ⟨fl, wd, es.set i e'⟩) := by
            rw [List.set_set]
            funext m
            by_cases hmn : m = n
            · subst hmn; rw [put1_self, put1_self]
            · rw [put1_ne _ hmn, put1_ne _ hmn, putH_cons]
              by_cases hmk : m = 16 * (d + 1) + k
              · subst hmk
                rw [put1_self, putH_ne, put1_self]
                intro hc
                obtain ⟨y, hy, e0⟩ := List.mem_map.1 hc
                obtain ⟨k', hk', e1⟩ := h7' y hy
                omega
              · rw [put1_ne _ hmk]
                simp only [putH]
                cases get ns m with
                | some o => rfl
                | none => rw [put1_ne _ hmk, put1_ne _ hmn]
          rw [hfin] at h8 h9
          refine ⟨_, _, φ'', e', rs', h1, by simp [h2], fun h => (by cases h), fun y hy => ?_, by simpa using h5, hcons (e1 := e.set j (.row (16 * (d + 1) + k) 0 ys.length)) (by rw [List.getElem?_set_self hjl]) h6 (h7 j (.inl (by omega))), fun p hp => ?_, fun y hy => ?_, h8, t1.trans h9⟩
          · rcases List.mem_cons.1 hy with rfl | hy
            · rfl
            · exact h4 y hy
          · rw [h7 p (by simp at hp; omega), List.getElem?_set_ne]
            simp at hp; omega
          · rcases List.mem_cons.1 hy with rfl | hy
            · exact ⟨k, Nat.le_refl _, rfl⟩
            · obtain ⟨k', hk', e1⟩ := h7' y hy; exact ⟨k', by omega, e1⟩
        · exact hq.elim
      | _ => cases hx
    · have hq' : (xsK d k l fun xs ns => κ (x :: xs) ns).K sq g rs q := by cases x <;> first | exact hq | exact absurd rfl hx
      obtain ⟨xs, ns, φ'', e', rs', h1, h2, h3, h4, h5, h6, h7, h7', h8, h9⟩ := ih k (j + 1) e es g' φ' _ rs hk hn he hl' hg hq'
      refine ⟨_, _, φ'', e', rs', h1, by simp [h2], fun h => by rw [h3 h], fun y hy => ?_, h5, hcons (e1 := e) hxj h6 (h7 j (.inl (by omega))), fun p hp => h7 p (by simp at hp; omega), h7', h8, h9⟩
      rcases List.mem_cons.1 hy with rfl | hy
      · simpa using hx
      · exact h4 y hy
end
end Go.Proofs.Ytfafehhallbjiaa.Ac
set_option linter.unusedVariables false
set_option linter.unusedSimpArgs false
namespace Go.Proofs.Ytfafehhallbjiaa.Ac
open Go.RowKit
section
variable {P : Program} {tb : Tab} {g : Hp} {φ : Phi} {w : World} {h : Array Obj} {H : Hp}
theorem run_loadW {t : TypeId} {d : TypeDesc} (hu : P.underlying t = some d) (hd : d.aggD = false) {ad : Addr} {u : Value} (hc : w.cell? ad = some u) : (loadVar t ad).run P w = .ok u w := by
  have hagg : (isAgg t).run P w = .ok false w := by
    unfold isAgg
    rw [Sem.run_bind, run_underlying hu w]
    cases d <;> simp_all [TypeDesc.aggD]
  simp [loadVar, Sem.run_bind, hagg, hc]
theorem run_loadS {t : TypeId} {d : TypeDesc} (hu : P.underlying t = some d) (hd : d.aggD = true) {inf : TypeInfo} (hi : P.info? t = some inf) {b off : Nat} {cs : List Value} (hs : inf.size = cs.length)
    (hc : ∀ j v, cs[j]? = some v → w.cell? ⟨b, off + j, none⟩ = some v) : (loadVar t ⟨b, off, none⟩).run P w = .ok (.agg cs.toArray) w := by
  have hl : (loadCells ⟨b, off, none⟩ cs.length).run P w = .ok cs.toArray w :=
    run_loadCells_list (P := P) w ⟨b, off, none⟩ cs fun j v hv => by rw [Addr.add_lit]; exact hc j v hv
  have hagg : (isAgg t).run P w = .ok true w := by
    unfold isAgg
    rw [Sem.run_bind, run_underlying hu w]
    cases d <;> simp_all [TypeDesc.aggD]
  simp [loadVar, Sem.run_bind, hagg, sizeOf, typeInfo, hi, hs, hl]
theorem load_val (hT : TabOK P tb) {t : TypeId} {l : Lay} (hl : tb t = some l) {cs : List A} {us : List Value} (hr : RepC h H φ cs us) {b off : Nat} (hc : ∀ j v, us[j]? = some v → w.cell? ⟨b, off + j, none⟩ = some v)
    (hv : cs.length = l.size) : ∃ u, (loadVar t ⟨b, off, none⟩).run P w = .ok u w ∧ RepT h H φ (mkT l cs) u := by
  cases l with
  | w d z bt =>
    match cs, us, hr, hv with
    | [x], [u], hr, _ =>
      obtain ⟨hu, hd, _⟩ := hT.w t d z bt hl
      exact ⟨u, run_loadW hu hd (hc 0 u rfl), x, rfl, hr.1⟩
    | [x], [], hr, _ => exact hr.elim
    | [x], _ :: _ :: _, hr, _ => exact hr.2.elim
  | st sz z fs bt =>
    obtain ⟨inf, fields, zv, hu, hi, hs, _⟩ := hT.st t sz z fs bt hl
    have hlen : us.length = sz := by rw [hr.length]; exact hv
    exact ⟨.agg us.toArray, run_loadS hu rfl hi (by rw [hlen, hs]) hc, _, rfl, by simpa using hr⟩
theorem getD_cell {b i : Nat} {c : Array Value} {ty : TypeId} {fr : Nat × Nat} (hb : w.heap[b]? = some (.cells c ty fr)) (hi : i < c.size) : w.cell? ⟨b, i, none⟩ = some (c.getD i undef) := by
  rw [cell_of_row w b i c ty fr hb]
  simp [hi]
theorem range_get {n j : Nat} {f : Nat → Value} {v : Value} (h : ((List.range n).map f)[j]? = some v) : j < n ∧ v = f j := by
  rw [List.getElem?_map] at h
  cases hj : (List.range n)[j]? with
  | none => rw [hj] at h; cases h
  | some j' =>
    rw [hj] at h
    cases h
    obtain ⟨hjl, hjj⟩ := List.getElem?_eq_some_iff.1 hj
    simp at hjl hjj
    subst hjj
    exact ⟨hjl, rfl⟩
theorem RepA.toE {X : Place} {x : A} {u : Value} (r : RepA h H φ X x u) (hx : isOw x = false) : RepE h H φ x u := by
  cases r with
  | e X x u r => exact r
  | nilo => cases hx
  | ow => cases hx
theorem ref_row (ok : HeapOK h g φ) {n fl wd : Nat} {es : List (List A)} (hn : g n = some (some ⟨fl, wd, es⟩)) (hf4 : fl ≠ 4) {i off : Nat} {u : Value} (r : RepE h g φ (.pt n i off) u) :
    ∃ hd, φ (n, []) = some hd ∧ u = .pointer (some ⟨hd.b, hd.off + i * wd + off, none⟩) ∧ ∃ c ty, h[hd.b]? = some (.cells c ty (0, 0)) ∧ RowOK wd es hd c ∧ (fl ≠ 0 → es.length = hd.cap) ∧
      ∀ i e j x, es[i]? = some e → e[j]? = some x → RepA h g φ (n, [(i, j)]) x (c.getD (hd.off + i * wd + j) undef) := by
  cases r with
  | pt _ _ _ _ r =>
    have r2 := r.2
    rw [hn] at r2
    obtain ⟨hd, hp, rfl⟩ := r2
    rcases ((ok.ob n _ hn).row hf4) with ⟨_, h0⟩ | ⟨hd', c, ty, h1, h2, h3, h4, h5⟩
    · rw [hp] at h0; cases h0
    · rw [hp] at h1
      cases h1
      exact ⟨hd, hp, rfl, c, ty, h2, h3, h4, h5⟩
theorem RowOK.in {wd : Nat} {es : List (List A)} {hd : Hd} {c : Array Value} (ok : RowOK wd es hd c) {i : Nat} {e : List A} (he : es[i]? = some e) : e.length = wd ∧ hd.off + i * wd + wd ≤ c.size := by
  have hil := (List.getElem?_eq_some_iff.1 he).1
  refine ⟨ok.len e (List.mem_of_getElem? he), ?_⟩
  rw [ok.size, Nat.add_assoc, ← Nat.succ_mul]
  exact Nat.add_le_add_left (Nat.mul_le_mul_right _ (by have := ok.le; omega)) _
theorem load_does (hT : TabOK P tb) (ok : HeapOK w.heap g φ) {d : Nat} {t : TypeId} {l : Lay} (hl : tb t = some l) {x : T} {u : Value} (hx : RepT w.heap g φ x u) (rs : List Nat) :
    DoesO P w g φ (do pure (.value (← Instr.loadAt t u))) rs (loadO d l x) := by
  intro k h
  have fin : ∀ {b off : Nat} {v : T} {rd : List Nat} {us : List (Nat × Option Ob)} {φ' : Phi}, u = .pointer (some ⟨b, off, none⟩) → HeapOK w.heap (putH us g) φ' → Turn w.heap g φ w.heap (putH us g) φ' →
      (∃ u', (loadVar t ⟨b, off, none⟩).run P w = .ok u' w ∧ RepT w.heap (putH us g) φ' v u') → Does P w g φ (do pure (.value (← Instr.loadAt t u))) ⟨v, rd, us⟩ := by
    rintro b off v rd us φ' rfl ok' t' ⟨u', hrun, hv⟩
    exact Does.made (by simp [Instr.loadAt, Instr.sureAddr, hrun]) ok' t' hv rfl rfl rfl (Nat.le_refl _)
  unfold loadO at h
  split at h
  · rename_i n i off
    obtain ⟨fl, wd, es, hn, hf4, h⟩ := alive_elim h
    obtain ⟨e, he, h3, h⟩ := el_elim h
    obtain ⟨hoff, h⟩ := seg_elim h
    obtain ⟨hd, hp, rfl, c, ty, hb, hrow, hfl, hcell⟩ := ref_row ok hn hf4 (rep_one hx)
    obtain ⟨hel, hin⟩ := hrow.in he
    have hseg : ((e.drop off).take l.size).length = l.size := by simp; omega
    obtain ⟨xs, ns, φ'', e', rs', h1, h2, h3', h4, h5, h6, h7, h7', h8, h9⟩ := xs_ok hf4 (h := w.heap) (n := n) (i := i) (fl := fl) (wd := wd) _ 0 off e es g φ _ _ ok hn he (fun t x hx => by
      rw [List.getElem?_take] at hx
      split at hx
      · rw [List.getElem?_drop] at hx; exact hx
      · cases hx) (fun _ _ h => h) h
    have hlen : xs.length = l.size := h2.trans hseg
    have hrep : RepC w.heap (put1 (putH ns g) n (some ⟨fl, wd, es.set i e'⟩)) φ'' xs ((List.range xs.length).map fun t => c.getD (hd.off + i * wd + off + t) undef) := by
      refine RepC_of _ fun t x hx => ?_
      rcases h9.live n _ hn with hdead | ⟨ob', _, hφ, _⟩
      · rw [put1_self] at hdead; cases hdead
      rcases ((h8.ob n _ (put1_self _ _)).row hf4) with ⟨_, g0⟩ | ⟨hd', c', ty', g1, g2, g3, g4, g5⟩
      · rw [hφ, hp] at g0; cases g0
      · rw [hφ, hp] at g1
        cases g1
        rw [hb] at g2
        cases g2
        have := (g5 i e' (off + t) x (List.getElem?_set_self (List.getElem?_eq_some_iff.1 he).1) (h6 t x hx)).toE (h4 x (List.mem_of_getElem? hx))
        rw [← Nat.add_assoc] at this
        exact this
    have hload := load_val (w := w) hT hl hrep (b := hd.b) (off := hd.off + i * wd + off) (fun j v hv => by
      obtain ⟨hj, rfl⟩ := range_get hv
      exact getD_cell hb (by omega)) hlen
    have hee : e.take off ++ xs ++ e.drop (off + xs.length) = e' := by
      apply List.ext_getElem?
      intro p
      rw [seg_get e off xs (by omega)]
      split
      · rename_i hp
        have hpx : p - off < xs.length := by omega
        have := h6 (p - off) xs[p - off] (by simp [hpx])
        rw [show off + (p - off) = p by omega] at this
        rw [this]; simp [hpx]
      · rename_i hp
        exact (h7 p (by rw [hseg, ← hlen]; omega)).symm
    cases ns with
    | nil =>
      have hxs := h3' rfl
      have he' : e' = e := by
        rw [← hee, hxs, hseg]
        rw [show e.take off ++ (e.drop off).take l.size ++ e.drop (off + l.size) = e by rw [List.append_assoc, ← List.drop_drop, List.take_append_drop, List.take_append_drop]]
      have hg : put1 (putH [] g) n (some ⟨fl, wd, es.set i e'⟩) = putH [] g := by
        rw [he']
        obtain ⟨hi, rfl⟩ := List.getElem?_eq_some_iff.1 he
        rw [List.set_getElem_self hi]
        funext m
        by_cases hm : m = n
        · subst hm; rw [put1_self]; exact hn.symm
        · rw [put1_ne _ hm]
      rw [hg] at h8 h9 hload
      exact ⟨_, h1, fin rfl h8 h9 hload⟩
    | cons y ns =>
      obtain ⟨_, h1⟩ := splice_elim h1
      have h1 := set_elim h3 h1
      rw [hee] at h1
      refine ⟨_, h1, ?_⟩
      rw [← putH_cons] at h8 h9 hload
      exact fin rfl h8 h9 hload
  · rename_i y
    obtain ⟨hs, h⟩ := tak_elim h
    have h := allF_elim h
    have r := rep_one hx
    cases r with
    | f _ _ r =>
      cases r with
      | pv _ b off c ty fr he hb hO hsz hr =>
        refine ⟨_, h, fin rfl ok (Turn.refl _ _ _) (load_val (w := w) (us := (List.range l.size).map fun j => c.getD (off + j) undef) hT hl ?_ (fun j v hv => ?_) (by simp; omega))⟩
        · have hlen : ((y.take l.size).map A.f).length = l.size := by simp; omega
          have := RepC_of (h := w.heap) (H := putH [] g) (φ := φ) (xs := (y.take l.size).map A.f) (fun j => c.getD (off + j) undef) fun j x hx => ?_
          · rw [hlen] at this; exact this
          · rw [List.getElem?_map, List.getElem?_take] at hx
            split at hx
            · cases hxx : y[j]? with
              | none => rw [hxx] at hx; cases hx
              | some x' => rw [hxx] at hx; cases hx; exact .f _ _ (hr j x' hxx)
            · cases hx
        · obtain ⟨hj, rfl⟩ := range_get hv
          exact getD_cell hb (by omega)
  · exact h.elim
theorem tab_size (hT : TabOK P tb) {i : Nat} {l : Lay} (hl : tb i = some l) : ∃ inf, P.info? i = some inf ∧ inf.size = l.size ∧ inf.bytes = l.bt := by
  cases l with
  | w d z bt => obtain ⟨_, _, inf, zv, h1, h2, _, _, _, h3⟩ := hT.w i d z bt hl; exact ⟨inf, h1, h2, h3⟩
  | st sz z fs bt => obtain ⟨inf, _, zv, _, h1, h2, _, _, _, _, h3, _⟩ := hT.st i sz z fs bt hl; exact ⟨inf, h1, h2, h3⟩
theorem run_storeV {t : TypeId} {inf : TypeInfo} (hi : P.info? t = some inf) {b off : Nat} {c : Array Value} {ty : TypeId} (hb : w.heap[b]? = some (.cells c ty (0, 0))) {v : Value} (hs : v.cells.toList.length = inf.size)
    (h1 : ∀ x ∈ v.cells.toList, x.oneCell' = true) (hfit : off + v.cells.toList.length ≤ c.size) :
    (do Instr.storeAt t (.pointer (some ⟨b, off, none⟩)) v; pure Next.skip : Sem Next).run P w = .ok .skip (w.setRow b (c.toList.take off ++ v.cells.toList ++ c.toList.drop (off + v.cells.toList.length)).toArray) := by
  have := run_storeCells_at P b off ty v.cells.toList 0 c w hb (by simpa using hfit) h1
  simp only [Nat.add_zero] at this
  have hs' : v.cells.size = inf.size := by simpa using hs
  simp [Instr.storeAt, Instr.sureAddr, storeVar, sizeOf, typeInfo, hi, hs', this]
theorem seg_getD (c : Array Value) (o : Nat) (vs : List Value) (hle : o + vs.length ≤ c.size) (k : Nat) :
    ((c.toList.take o ++ vs ++ c.toList.drop (o + vs.length)).toArray).getD k undef = if o ≤ k ∧ k < o + vs.length then vs.getD (k - o) undef else c.getD k undef := by
  have := seg_get c.toList o vs (by simpa using hle) k
  simp only [Array.getD_eq_getD_getElem?, List.getElem?_toArray, this]
  split <;> simp
theorem write_ok (ok : HeapOK w.heap g φ) {n fl wd : Nat} (hf4 : fl ≠ 4) {es es' : List (List A)} (hn : g n = some (some ⟨fl, wd, es⟩)) {hd : Hd} {c : Array Value} {ty : TypeId} (hp : φ (n, []) = some hd) (hb : w.heap[hd.b]? = some (.cells c ty (0, 0)))
    (hrow : RowOK wd es hd c) (hfl : fl ≠ 0 → es.length = hd.cap) (hcell : ∀ i e j x, es[i]? = some e → e[j]? = some x → RepA w.heap g φ (n, [(i, j)]) x (c.getD (hd.off + i * wd + j) undef))
    {o : Nat} {vs : List Value} (hle : o + vs.length ≤ c.size) (h1 : ∀ x ∈ vs, x.oneCell' = true) (hlen : ∀ e ∈ es', e.length = wd) (hl : es'.length = es.length)
    (hnew : ∀ i e' j x, es'[i]? = some e' → e'[j]? = some x → (o ≤ hd.off + i * wd + j ∧ hd.off + i * wd + j < o + vs.length ∧ RepE w.heap g φ x (vs.getD (hd.off + i * wd + j - o) undef)) ∨
      (¬ (o ≤ hd.off + i * wd + j ∧ hd.off + i * wd + j < o + vs.length) ∧ ∃ e, es[i]? = some e ∧ e[j]? = some x)) :
    HeapOK (w.setRow hd.b (c.toList.take o ++ vs ++ c.toList.drop (o + vs.length)).toArray).heap (put1 g n (some ⟨fl, wd, es'⟩)) φ ∧
    Turn w.heap g φ (w.setRow hd.b (c.toList.take o ++ vs ++ c.toList.drop (o + vs.length)).toArray).heap (put1 g n (some ⟨fl, wd, es'⟩)) φ := by
  have hs2 : ((c.toList.take o ++ vs ++ c.toList.drop (o + vs.length)).toArray).size = c.size := by simp only [List.size_toArray, List.length_append, List.length_take, List.length_drop, Array.length_toList]; omega
  refine upd_ok ok hf4 hn hp (fun m hm => setRow_other w hd.b m _ hm) (setRow_heap w hd.b c _ ty _ hb) rfl (by dsimp only; omega) ⟨hrow.wd0, hlen, by dsimp only; rw [hl]; exact hrow.le, hrow.cap, hs2.trans hrow.size, fun k hk => ?_⟩ (fun h => by dsimp only; rw [hl]; exact hfl h) fun i e' j x he' hx => ?_
  · rw [seg_getD c o vs hle]
    split
    · rename_i hk2
      have hkl : k - o < vs.length := by omega
      rw [List.getD_eq_getElem?_getD, List.getElem?_eq_getElem hkl]
      exact h1 _ (List.getElem_mem _)
    · exact hrow.one k (by rw [hs2] at hk; exact hk)
  · rw [seg_getD c o vs hle]
    rcases hnew i e' j x he' hx with ⟨a1, a2, a3⟩ | ⟨a1, e, a2, a3⟩
    · rw [if_pos ⟨a1, a2⟩]; exact .e _ _ _ a3
    · rw [if_neg a1]; exact hcell i e j x a2 a3
theorem idx_lt {i i' j wd : Nat} (h : i < i') (hj : j < wd) : i * wd + j < i' * wd := by
  have := Nat.mul_le_mul_right wd (Nat.succ_le_of_lt h)
  rw [Nat.succ_mul] at this
  omega
theorem store_does (hT : TabOK P tb) (ok : HeapOK w.heap g φ) {t : TypeId} {l : Lay} (hl : tb t = some l) {x y : T} {u v : Value} (hx : RepT w.heap g φ x u) (hy : RepT w.heap g φ y v) (rs : List Nat) :
    DoesO P w g φ (do Instr.storeAt t u v; pure .skip) rs (storeO l x y) := by
  intro k h
  obtain ⟨inf, hi, hsz, _⟩ := tab_size hT hl
  unfold storeO at h
  split at h
  · rename_i n i off ag cs
    obtain ⟨h0, h⟩ := cond_K h
    have hcl : cs.length = l.size := Nat.eq_of_beq_eq_true h0
    obtain ⟨fl, wd, es, hn, hf4, h⟩ := alive_elim h
    obtain ⟨e, he, h3, h⟩ := el_elim h
    obtain ⟨hoff, h⟩ := splice_elim h
    have h := set_elim h3 h
    obtain ⟨hd, hp, rfl, c, ty, hb, hrow, hfl, hcell⟩ := ref_row ok hn hf4 (rep_one hx)
    obtain ⟨hel, hin⟩ := hrow.in he
    have rc := rep_cells hy
    have hvl := rc.length
    have hfit : hd.off + i * wd + off + v.cells.toList.length ≤ c.size := by rw [hvl]; omega
    have hrun := run_storeV (P := P) (w := w) hi hb (v := v) (by rw [hvl, hcl, hsz]) rc.one hfit
    have hil := (List.getElem?_eq_some_iff.1 he).1
    obtain ⟨ok', t'⟩ := write_ok ok hf4 hn hp hb hrow hfl hcell (es' := es.set i (e.take off ++ cs ++ e.drop (off + cs.length))) hfit rc.one (fun e' he' => by
        rcases List.mem_or_eq_of_mem_set he' with h | rfl
        · exact hrow.len e' h
        · simp; omega) (by simp) fun i' e' j x' he' hx' => by
      have hjl : j < wd := by
        have := (List.getElem?_eq_some_iff.1 hx').1
        rcases List.mem_or_eq_of_mem_set (List.mem_of_getElem? he') with h | rfl
        · rw [hrow.len e' h] at this; exact this
        · simp at this; omega
      by_cases hii : i = i'
      · subst hii
        rw [List.getElem?_set_self hil] at he'
        cases he'
        rw [seg_get e off cs hoff] at hx'
        split at hx'
        · rename_i hj
          obtain ⟨u, hu, ru⟩ := rc.at hx'
          refine .inl ⟨by omega, by rw [hvl]; omega, ?_⟩
          rw [show hd.off + i * wd + j - (hd.off + i * wd + off) = j - off by omega, List.getD_eq_getElem?_getD, hu]
          exact ru
        · rename_i hj
          exact .inr ⟨by rw [hvl]; omega, e, he, hx'⟩
      · rw [List.getElem?_set_ne hii] at he'
        refine .inr ⟨?_, e', he', hx'⟩
        rw [hvl]
        rintro ⟨a1, a2⟩
        rcases Nat.lt_or_gt_of_ne hii with hlt | hgt
        · have := Nat.mul_le_mul_right wd (Nat.succ_le_of_lt hlt)
          rw [Nat.succ_mul] at this
          omega
        · have := idx_lt (j := j) hgt hjl; omega
    rw [← putH_one] at ok' t'
    exact ⟨_, h, Does.skip hrun ok' t' rfl rfl rfl (by simp [World.setRow])⟩
  · exact h.elim
end
end Go.Proofs.Ytfafehhallbjiaa.Ac
set_option linter.unusedVariables false
set_option linter.unusedSimpArgs false
namespace Go.Proofs.Ytfafehhallbjiaa.Ac
open Go.RowKit
section
variable {P : Program} {tb : Tab} {g : Hp} {φ : Phi} {w : World} {h : Array Obj} {H : Hp} {k : Eff → Prop}
theorem DoesO.one {s : Sem Next} {v : T} {u : Value} {rs : List Nat} (ok : HeapOK w.heap g φ) (hrun : s.run P w = .ok (.value u) w) (hv : RepT w.heap g φ v u) : DoesO P w g φ s rs (one v) :=
  fun k h => ⟨_, h, Does.value ok hrun hv⟩
theorem new_does (ok : HeapOK w.heap g φ) {s : Sem Next} {d : Nat} {ob : Ob} (h4 : ob.fl ≠ 4) {v : Nat → T} {rs : List Nat} {c : Array Value} {ty : TypeId} {cap : Nat} {w' : World} {u : Value} (hrun : s.run P w = .ok (.value u) w') (hw : w'.heap = w.heap.push (.cells c ty (0, 0)))
    (h1 : w'.os = w.os) (h2 : w'.tape = w.tape) (h3 : w'.output = w.output) (hrow : RowOK ob.wd ob.es ⟨w.heap.size, 0, cap⟩ c) (hfl : ob.fl ≠ 0 → ob.es.length = cap)
    (hc : ∀ i e j x, ob.es[i]? = some e → e[j]? = some x → RepE w.heap g φ x (c.getD (i * ob.wd + j) undef))
    (hv : ∀ m (φ' : Phi), φ' (m, []) = some ⟨w.heap.size, 0, cap⟩ → RepT w'.heap (put1 g m (some ob)) φ' (v m) u) : DoesO P w g φ s rs (newO d ob v) := by
  intro k h
  unfold newO at h
  dsimp only [Out.K] at h
  split at h
  · rename_i hn
    obtain ⟨ok', t'⟩ := new_ok (ty := ty) ok hn h4 hrow hfl hc
    refine ⟨_, h, Does.made (φ' := φ.set (16 * (d + 1)) fun q => if q = [] then some ⟨w.heap.size, 0, cap⟩ else none) hrun ?_ ?_ ?_ h1 h2 h3 (by rw [hw]; simp)⟩
    · rw [putH_one, hw]; exact ok'
    · rw [putH_one, hw]; exact t'
    · rw [putH_one]; exact hv _ _ (by rw [set_self]; rfl)
  · exact h.elim
theorem cell_row {cs : List A} {us : List Value} {b sz : Nat} (hr : RepC h H φ cs us) (hsz : cs.length = sz) (h0 : 0 < sz) : RowOK sz [cs] ⟨b, 0, 1⟩ us.toArray ∧ ∀ i e j x, [cs][i]? = some e → e[j]? = some x → RepE h H φ x (us.toArray.getD (i * sz + j) undef) := by
  have hl := hr.length
  refine ⟨⟨h0, fun e he => by simp at he; rw [he, hsz], Nat.le_refl _, by simp [maxLen], by simp; omega, fun k hk => ?_⟩, fun i e j x hi hj => ?_⟩
  · have hk' : k < us.length := by simpa using hk
    have : us.toArray.getD k undef = us[k] := by simp [hk']
    rw [this]
    exact hr.one _ (List.getElem_mem _)
  · cases i with
    | zero =>
      cases hi
      obtain ⟨u, hu, r⟩ := hr.at hj
      have : us.toArray.getD (0 * sz + j) undef = u := by simp [hu]
      rw [this]; exact r
    | succ i => simp at hi
theorem var_does (ok : HeapOK w.heap g φ) {s : Sem Next} {d sz : Nat} {cs : List A} {us : List Value} {ty : TypeId} {rs : List Nat} (hr : RepC w.heap g φ cs us) (hsz : cs.length = sz) (h0 : 0 < sz)
    (hrun : s.run P w = .ok (.value (.pointer (some ⟨w.heap.size, 0, none⟩))) (w.alloc (.cells us.toArray ty (0, 0)))) : DoesO P w g φ s rs (newO d ⟨3, sz, [cs]⟩ fun m => .val false [.pt m 0 0]) := by
  obtain ⟨h1, h2⟩ := cell_row (b := w.heap.size) hr hsz h0
  refine new_does ok (fun h => by cases h) hrun rfl rfl rfl rfl h1 (fun _ => rfl) h2 fun m φ' hφ => ⟨_, rfl, .pt _ _ _ _ ⟨rfl, ?_⟩⟩
  rw [put1_self]
  exact ⟨_, hφ, by simp⟩
theorem box_does (hT : TabOK P tb) (ok : HeapOK w.heap g φ) {d : Nat} {t : TypeId} {l : Lay} (hl : tb t = some l) {x : T} {u : Value} (hx : RepT w.heap g φ x u) (rs : List Nat) : DoesO P w g φ (do pure (.value (← Instr.box t u))) rs (boxO d l x) := by
  intro k h
  unfold boxO at h
  split at h
  · rename_i ag cs
    obtain ⟨hb, h⟩ := cond_K h
    simp only [Bool.and_eq_true] at hb
    have hsz := Nat.eq_of_beq_eq_true hb.1
    have h0 : 0 < l.size := by have := hb.2; simpa [Nat.blt, Nat.lt_iff_add_one_le] using this
    refine var_does ok (us := u.cells.toList) (ty := t) (rep_cells hx) hsz h0 ?_ k h
    simp [Instr.box, newVar, newRow]
    try rfl
  · exact h.elim
theorem alloc_does (hT : TabOK P tb) (ok : HeapOK w.heap g φ) {d : Nat} {t : TypeId} {l : Lay} (hl : tb t = some l) (rs : List Nat) : DoesO P w g φ (do pure (.value (← Instr.alloc t true (.tuple #[])))) rs (allocO d l) := by
  intro k h
  unfold allocO at h
  obtain ⟨hb, h⟩ := cond_K h
  have h0 : 0 < l.size := by simpa [Nat.blt, Nat.lt_iff_add_one_le] using hb
  cases l with
  | w dd z bt =>
    obtain ⟨_, _, inf, zv, hi, _, hz, h1, rfl, _⟩ := hT.w t dd z bt hl
    refine var_does ok (us := [zv]) (ty := t) (show RepC w.heap g φ [constA zv] [zv] from ⟨constA_ok h1, trivial⟩) rfl h0 ?_ k h
    simp [Instr.alloc, zeroValue, typeInfo, hi, hz, newVar, newRow, cells_one h1]
    try rfl
  | st sz z fs bt =>
    obtain ⟨inf, fields, zv, _, hi, _, hz, rfl, h1, h2, _⟩ := hT.st t sz z fs bt hl
    refine var_does ok (us := zv.toList) (ty := t) (constC_ok h1) (by simpa [Lay.size, Lay.zero] using h2) h0 ?_ k h
    simp [Instr.alloc, zeroValue, typeInfo, hi, hz, newVar, newRow, Value.cells]
    try rfl
theorem run_fieldAt {t : TypeId} {fields : Array Field} {f : Nat} {fd : Field} {inf' : TypeInfo} (hu : P.underlying t = some (.struct fields)) (hf : fields[f]? = some fd) (hi : P.info? fd.type = some inf') (hz : inf'.size ≠ 0) (b p : Nat) :
    (do pure (.value (← Instr.fieldAt t (.pointer (some ⟨b, p, none⟩)) f)) : Sem Next).run P w = .ok (.value (.pointer (some ⟨b, p + fd.offset, none⟩))) w := by
  simp [Instr.fieldAt, run_underlying hu, hf, Instr.sureAddr, fieldPlace, sizeOf, typeInfo, hi, hz, Addr.add_lit]
theorem pt_add (ok : HeapOK h g φ) {n i off o fl wd : Nat} {es : List (List A)} {u : Value} (hn : g n = some (some ⟨fl, wd, es⟩)) (hf4 : fl ≠ 4) (r : RepE h g φ (.pt n i off) u) :
    ∃ b p, u = .pointer (some ⟨b, p, none⟩) ∧ RepE h g φ (.pt n i (off + o)) (.pointer (some ⟨b, p + o, none⟩)) := by
  obtain ⟨hd, hp, rfl, _⟩ := ref_row ok hn hf4 r
  refine ⟨_, _, rfl, .pt _ _ _ _ ⟨rfl, ?_⟩⟩
  rw [hn]
  exact ⟨hd, hp, by simp only [Nat.add_assoc]⟩
theorem addr_does (hT : TabOK P tb) (ok : HeapOK w.heap g φ) {t : TypeId} {sz bt : Nat} {z : List A} {fs : List (Nat × Nat × Bool)} {f : Nat} {fx : Nat × Nat × Bool} (hl : tb t = some (.st sz z fs bt)) (hf : fs[f]? = some fx)
    {x : T} {u : Value} (hx : RepT w.heap g φ x u) (rs : List Nat) : DoesO P w g φ (do pure (.value (← Instr.fieldAt t u f))) rs (addrO fx.1 x) := by
  obtain ⟨inf, fields, zv, hu, _, _, _, _, _, _, _, _, hfs⟩ := hT.st t sz z fs bt hl
  obtain ⟨fd, inf', hfd, hoff, hi, hs, hz, _⟩ := hfs f fx hf
  intro k h
  unfold addrO at h
  split at h
  · rename_i y
    obtain ⟨_, h⟩ := drop_elim h
    have r := rep_one hx
    split at h
    · rename_i z zs hd
      cases r with
      | f _ _ r =>
        cases r with
        | pv _ b off c ty fr he hb hO hsz hr =>
          refine ⟨_, h, Does.value ok (run_fieldAt hu hfd hi (by rw [hs]; exact hz) b off) ⟨_, rfl, .f _ _ ?_⟩⟩
          rw [← hd, hoff]
          have hlen : (y.drop fx.1).length = y.length - fx.1 := by simp
          have hpos : 0 < (y.drop fx.1).length := by rw [hd]; simp
          refine RepL.pv _ b (off + fx.1) c ty fr (by rw [hd]; simp) hb hO (by omega) fun j x hj => ?_
          rw [List.getElem?_drop] at hj
          rw [Nat.add_assoc]
          exact hr _ x hj
    · exact h.elim
  · rename_i n i off
    obtain ⟨fl, wd, es, hn, hf4, h⟩ := alive_elim h
    obtain ⟨b, p, rfl, r'⟩ := pt_add (o := fx.1) ok hn hf4 (rep_one hx)
    refine ⟨_, h, Does.value ok (run_fieldAt hu hfd hi (by rw [hs]; exact hz) b p) ⟨_, rfl, ?_⟩⟩
    rw [hoff]; exact r'
  · exact h.elim
theorem run_indexAt {t el : TypeId} {inf : TypeInfo} (hu : P.underlying t = some (.slice el)) (hi : P.info? el = some inf) {k : IntKind} {j len cap b p : Nat} (hj : j < len) :
    (do pure (.value (← Instr.indexAt t (.slice (some ⟨b, p, none⟩) len cap) (.int k (j : Int)))) : Sem Next).run P w = .ok (.value (.pointer (some ⟨b, p + j * inf.size, none⟩))) w := by
  have : (0 : Int) ≤ (j : Int) ∧ (j : Int) < (len : Int) := by omega
  simp [Instr.indexAt, asIntOf, run_underlying hu, sizeOf, typeInfo, hi, Addr.add_lit, hj]
theorem row_at (ok : HeapOK h g φ) {n lo hi fl wd : Nat} {es : List (List A)} (hn : g n = some (some ⟨fl, wd, es⟩)) (hf4 : fl ≠ 4) {u : Value} (r : RepE h g φ (.row n lo hi) u) (hlt : lo < hi) :
    hi ≤ es.length ∧ ∃ hd, φ (n, []) = some hd ∧ u = .slice (some ⟨hd.b, hd.off + lo * wd, none⟩) (hi - lo) (hd.cap - lo) := by
  cases r with
  | row _ _ _ _ r =>
    have r2 := r.2
    rw [hn] at r2
    obtain ⟨h1, h2, h3⟩ := r2
    refine ⟨h2, ?_⟩
    cases hp : φ (n, []) with
    | none =>
      exfalso
      rcases ((ok.ob n _ hn).row hf4) with ⟨h0, _⟩ | ⟨hd', c, ty, g1, _⟩
      · simp only at h0; subst h0; simp at h2; omega
      · rw [hp] at g1; cases g1
    | some hd =>
      rw [hp] at h3
      obtain ⟨a, rfl, ha⟩ := h3
      rw [ha (.inr hlt)]
      exact ⟨hd, rfl, rfl⟩
theorem idx_does (hT : TabOK P tb) (ok : HeapOK w.heap g φ) {t el : TypeId} {z : A} {bt : Nat} {l : Lay} (ht : tb t = some (.w (.slice el) z bt)) (hl : tb el = some l) {x i : T} {u v : Value} (hx : RepT w.heap g φ x u) (hi : RepT w.heap g φ i v) (rs : List Nat) :
    DoesO P w g φ (do pure (.value (← Instr.indexAt t u v))) rs (idxO l x i) := by
  obtain ⟨hu, _⟩ := hT.w t _ z bt ht
  obtain ⟨inf, hinf, hsz, _⟩ := tab_size hT hl
  intro k h
  unfold idxO at h
  split at h
  · rename_i kk zz
    have ri := rep_one hi
    cases ri with
    | f _ _ ri =>
    cases ri
    split at h
    · rename_i wd es
      have r := rep_one hx
      obtain ⟨h0, h⟩ := cond_K h
      obtain ⟨⟨j, y⟩, ⟨hz, hy⟩, hk⟩ := h
      have hwd := Nat.eq_of_beq_eq_true h0
      dsimp only at hz hy hk
      subst hz
      cases r with
      | f _ _ r =>
      cases r with
      | nil => simp at hy
      | sl _ _ b off cap c ty fr hw he hb hO hlen hs hc hr =>
        have hjl := (List.getElem?_eq_some_iff.1 hy).1
        have hyl := hlen y (List.mem_of_getElem? hy)
        refine ⟨_, hk, Does.value ok (run_indexAt hu hinf hjl) ⟨_, rfl, .f _ _ ?_⟩⟩
        rw [hsz, hwd]
        have hin : j * wd + wd ≤ es.length * wd := by
          rw [← Nat.succ_mul]
          exact Nat.mul_le_mul_right _ (by omega)
        refine RepL.pv y b (off + j * wd) c ty fr (fun e => by subst e; simp at hyl; omega) hb hO (by omega) fun q x hq => hr j y q x hy hq
    · rename_i n lo hi'
      obtain ⟨fl, wd, es, hn, hf4, h⟩ := alive_elim h
      obtain ⟨h0, h⟩ := cond_K h
      have hwd := Nat.eq_of_beq_eq_true h0
      have key : ∀ j : Nat, zz = (j : Int) → lo + j < hi' → Does P w g φ (do pure (.value (← Instr.indexAt t u (.int kk zz)))) ⟨.val false [.pt n (lo + j) 0], n :: rs, []⟩ := by
        rintro j rfl hj
        obtain ⟨hle, hd, hp, rfl⟩ := row_at ok hn hf4 (rep_one hx) (by omega)
        refine Does.value ok (run_indexAt hu hinf (by omega)) ⟨_, rfl, .pt _ _ _ _ ⟨rfl, ?_⟩⟩
        rw [hn]
        exact ⟨hd, hp, by rw [hsz, hwd, Nat.add_zero, Nat.add_mul, Nat.add_assoc]⟩
      cases hb : Nat.beq lo 0
      · rw [hb] at h
        obtain ⟨j, ⟨hz, hj⟩, h⟩ := h
        exact ⟨_, h, key j hz hj⟩
      · rw [hb] at h
        have := Nat.eq_of_beq_eq_true hb
        subst this
        obtain ⟨j, ⟨hz, hj⟩, h⟩ := h
        have := key j hz (by omega)
        rw [Nat.zero_add] at this
        exact ⟨_, h, this⟩
    · exact h.elim
  · exact h.elim
theorem tB_rep (b : Bool) : RepT h H φ (tB b) (.bool b) := ⟨_, rfl, .f _ _ (.v _ rfl)⟩
theorem tI_rep (i : IntKind) (z : Int) : RepT h H φ (tI i z) (.int i z) := ⟨_, rfl, .f _ _ (.v _ rfl)⟩
theorem tS_rep (s : ByteArray) : RepT h H φ (tS s) (.string s) := ⟨_, rfl, .f _ _ (.v _ rfl)⟩
theorem v_rep {x v : Value} (r : RepT h H φ (.val false [.f (.v x)]) v) : v = x := by
  have r := rep_one r
  cases r with
  | f _ _ r => cases r; rfl
theorem map_elim {n : Nat} {κ : Nat → List (List A) → Out} {sq : Bool} {rs : List Nat} {q : Eff → Prop} (h : (mapK n κ).K sq g rs q) : ∃ wd es, g n = some (some ⟨4, wd, es⟩) ∧ (κ wd es).K sq g (n :: rs) q := by
  unfold mapK at h
  dsimp only [Out.K] at h
  split at h
  · rename_i fl wd es heq
    obtain ⟨hb, h⟩ := cond_K h
    obtain rfl := Nat.eq_of_beq_eq_true hb
    exact ⟨wd, es, heq, h⟩
  · exact h.elim
theorem ref_map (ok : HeapOK h g φ) {n wd : Nat} {es : List (List A)} (hn : g n = some (some ⟨4, wd, es⟩)) {u : Value} (r : RepE h g φ (.mp n) u) :
    ∃ hd ms ck l, φ (n, []) = some hd ∧ u = .map (some hd.b) ∧ h[hd.b]? = some (.map ms ck) ∧ es = mpR l ∧ ms.toList.map (fun e => (e.key, e.val)) = l.map (fun x => (.int .i64 x.1, x.2)) ∧ ∀ x ∈ l, x.2.oneCell' = true := by
  cases r with
  | mp _ _ r =>
    have r2 := r.2
    rw [hn] at r2
    obtain ⟨hd, hp, rfl⟩ := r2
    obtain ⟨hd', ms, ck, l, g1, g2, g3⟩ := (ok.ob n _ hn).2.2 rfl
    rw [hp] at g1
    cases g1
    exact ⟨hd, ms, ck, l, hp, rfl, g2, g3⟩
theorem len_does (hT : TabOK P tb) (ok : HeapOK w.heap g φ) {t : TypeId} {l : Lay} (hl : tb t = some l) {x : T} {u : Value} (hx : RepT w.heap g φ x u) (ty : TypeId) (cn : Array Bool) (rs : List Nat) :
    DoesO P w g φ (builtin .len #[t] ty cn #[u]) rs (lenO l x) := by
  have sl : ∀ {el : TypeId} {z : A} {bt : Nat}, l = .w (.slice el) z bt → ∀ {a : Option Addr} {n cap : Nat} {v : T} {rd : List Nat}, u = .slice a n cap → v = tI .i64 n → Does P w g φ (builtin .len #[t] ty cn #[u]) ⟨v, rd, []⟩ := by
    rintro el z bt rfl a n cap v rd rfl rfl
    obtain ⟨hu, _⟩ := hT.w t _ z bt hl
    exact Does.value ok (u := .int .i64 n) (by simp [builtin, Builtin.len_, run_underlying hu, goInt]) (tI_rep _ _)
  intro k h
  unfold lenO at h
  split at h
  · rename_i el z bt wd es
    have r := rep_one hx
    cases r with
    | f _ _ r =>
    cases r with
    | nil => exact ⟨_, h, sl rfl rfl rfl⟩
    | sl _ _ b off cap c ty fr hw he hb hO hlen hs hc hr => exact ⟨_, h, sl rfl rfl rfl⟩
  · have r := rep_one hx
    cases r with
    | nl a => exact ⟨_, h, sl rfl rfl rfl⟩
  · rename_i el z bt kk
    have r := rep_one hx
    cases r with
    | un _ _ h1 h2 =>
      obtain ⟨a, cap, rfl⟩ := h2 kk rfl
      exact ⟨_, h, sl rfl rfl rfl⟩
  · rename_i el z bt n lo hi
    obtain ⟨fl, wd, es, hn, hf4, h⟩ := alive_elim h
    have hs : ∃ a cap, u = .slice a (hi - lo) cap := by
      have r := rep_one hx
      cases r with
      | row _ _ _ _ r =>
        have r2 := r.2
        rw [hn] at r2
        obtain ⟨h1, h2, h3⟩ := r2
        cases hp : φ (n, []) with
        | none =>
          rw [hp] at h3
          obtain ⟨a, rfl⟩ := h3
          rcases ((ok.ob n _ hn).row hf4) with ⟨h0, _⟩ | ⟨hd', c, ty, g1, _⟩
          · simp only at h0; subst h0; simp at h2
            exact ⟨a, 0, by rw [h2, Nat.zero_sub]⟩
          · rw [hp] at g1; cases g1
        | some hd => rw [hp] at h3; obtain ⟨a, rfl, _⟩ := h3; exact ⟨_, _, rfl⟩
    obtain ⟨a, cap, rfl⟩ := hs
    cases hb : Nat.beq lo 0
    · rw [hb] at h; exact ⟨_, h, sl rfl rfl rfl⟩
    · rw [hb] at h
      have := Nat.eq_of_beq_eq_true hb
      subst this
      exact ⟨_, h, sl rfl rfl (by rw [Nat.sub_zero])⟩
  · rename_i z bt s
    obtain ⟨hu, _⟩ := hT.w t _ z bt hl
    cases v_rep hx
    exact ⟨_, h, Does.value ok (u := .int .i64 s.size) (by simp [builtin, Builtin.len_, run_underlying hu, goInt]) (tI_rep _ _)⟩
  · rename_i kt et z bt n
    obtain ⟨wd, es, hn, h⟩ := map_elim h
    obtain ⟨hd, ms, ck, l', hp, rfl, hb, rfl, hm, _⟩ := ref_map ok hn (rep_one hx)
    obtain ⟨hu, _⟩ := hT.w t _ z bt hl
    have hsz : ms.size = (mpR l').length := by
      have := congrArg List.length hm
      simpa [mpR] using this
    refine ⟨_, h, Does.value ok (u := .int .i64 (mpR l').length) ?_ (tI_rep _ _)⟩
    simp [builtin, Builtin.len_, run_underlying hu, goInt, MapKept.run_getObj_map hb, hsz]
  · exact h.elim
theorem split2_does (ok : HeapOK w.heap g φ) {s : Sem Next} {c : Prop} (b : Bool) (hb : b = true ↔ c) (hrun : s.run P w = .ok (.value (.bool b)) w) (rs : List Nat) : DoesO P w g φ s rs (split2 c) := by
  rintro k ⟨h1, h2⟩
  by_cases hc : c
  · rw [hb.2 hc] at hrun
    exact ⟨_, h1 hc, Does.value ok hrun (tB_rep true)⟩
  · have : b = false := by
      cases b
      · rfl
      · exact absurd (hb.1 rfl) hc
    rw [this] at hrun
    exact ⟨_, h2 hc, Does.value ok hrun (tB_rep false)⟩
theorem beqK_eq {i j : IntKind} (h : beqK i j = true) : i = j := by cases i <;> cases j <;> first | rfl | cases h
theorem int_does (ok : HeapOK w.heap g φ) {op : BinOp} {t : TypeId} {ox oy : Operand} {i : IntKind} {a b : Int} (hns : isShift op = false) (rs : List Nat) :
    DoesO P w g φ (do pure (.value (← (do eqGuard op t ox oy (.int i a) (.int i b); binOp op t (.int i a) (.int i b))))) rs (binO op i a b) := by
  cases op
  case add => exact DoesO.one ok (u := .int i (i.wrap (a + b))) (by simp [eqGuard_at_int, binOp, Op.intArith]) (tI_rep _ _)
  case sub => exact DoesO.one ok (u := .int i (i.wrap (a - b))) (by simp [eqGuard_at_int, binOp, Op.intArith]) (tI_rep _ _)
  case mul => exact DoesO.one ok (u := .int i (i.wrap (a * b))) (by simp [eqGuard_at_int, binOp, Op.intArith]) (tI_rep _ _)
  case quo => rintro k ⟨hb, h⟩; exact ⟨_, h, Does.value ok (u := .int i (i.wrap (a.tdiv b))) (by simp [eqGuard_at_int, binOp, Op.intDiv, hb]) (tI_rep _ _)⟩
  case rem => rintro k ⟨hb, h⟩; exact ⟨_, h, Does.value ok (u := .int i (a.tmod b)) (by simp [eqGuard_at_int, binOp, Op.intDiv, hb]) (tI_rep _ _)⟩
  case and => exact DoesO.one ok (u := .int i (i.wrap (BitVec.ofInt i.bits a &&& BitVec.ofInt i.bits b).toNat)) (by simp [eqGuard_at_int, binOp, Op.intBits]) (tI_rep _ _)
  case or => exact DoesO.one ok (u := .int i (i.wrap (BitVec.ofInt i.bits a ||| BitVec.ofInt i.bits b).toNat)) (by simp [eqGuard_at_int, binOp, Op.intBits]) (tI_rep _ _)
  case xor => exact DoesO.one ok (u := .int i (i.wrap (BitVec.ofInt i.bits a ^^^ BitVec.ofInt i.bits b).toNat)) (by simp [eqGuard_at_int, binOp, Op.intBits]) (tI_rep _ _)
  case eql => exact split2_does ok (a == b) (by simp) (by simp [eqGuard_at_int, binOp, Op.intCmp]) rs
  case neq => exact split2_does ok (a != b) (by simp) (by simp [eqGuard_at_int, binOp, Op.intCmp]) rs
  case lss => exact split2_does ok (decide (a < b)) (by simp) (by simp [eqGuard_at_int, binOp, Op.intCmp]) rs
  case leq => exact split2_does ok (decide (a ≤ b)) (by simp) (by simp [eqGuard_at_int, binOp, Op.intCmp]) rs
  case gtr => exact split2_does ok (decide (a > b)) (by simp) (by simp [eqGuard_at_int, binOp, Op.intCmp]) rs
  case geq => exact split2_does ok (decide (a ≥ b)) (by simp) (by simp [eqGuard_at_int, binOp, Op.intCmp]) rs
  all_goals first | exact fun k h => h.elim | cases hns
theorem shift_does (ok : HeapOK w.heap g φ) {op : BinOp} {t : TypeId} {ox oy : Operand} {i j : IntKind} {a b : Int} (rs : List Nat) :
    DoesO P w g φ (do pure (.value (← (do eqGuard op t ox oy (.int i a) (.int j b); binOp op t (.int i a) (.int j b))))) rs (shiftO op i a b) := by
  have hg : ∀ op', op = op' → isShift op' = true → (eqGuard op t ox oy (.int i a) (.int j b)) = pure () := by
    rintro op' rfl hs
    cases op <;> first | exact absurd hs (by decide) | (unfold eqGuard; simp; done) | (unfold eqGuard; simp; rfl) | rfl
  cases op
  case shl =>
    rintro k ⟨hb, h⟩
    have : ¬ b < 0 := by omega
    exact ⟨_, h, Does.value ok (u := .int i (i.wrap (a * 2 ^ (min b.toNat i.bits)))) (by rw [hg _ rfl rfl]; simp [binOp, Op.shift, this]) (tI_rep _ _)⟩
  case shr =>
    rintro k ⟨hb, h⟩
    have : ¬ b < 0 := by omega
    exact ⟨_, h, Does.value ok (u := .int i (a.fdiv (2 ^ (min b.toNat i.bits)))) (by rw [hg _ rfl rfl]; simp [binOp, Op.shift, this]) (tI_rep _ _)⟩
  all_goals exact fun k h => h.elim
end
end Go.Proofs.Ytfafehhallbjiaa.Ac
set_option linter.unusedVariables false
set_option linter.unusedSimpArgs false
namespace Go.Proofs.Ytfafehhallbjiaa.Ac
open Go.RowKit
section
variable {P : Program} {tb : Tab} {g : Hp} {φ : Phi} {w : World} {h : Array Obj} {H : Hp} {k : Eff → Prop}
theorem equalIn_ptr (d : Nat) {t e : TypeId} {a : Option Addr} (hu : P.underlying t = some (.pointer e)) : (Op.equalIn (d + 1) t (.pointer a) (.pointer none)).run P w = .ok a.isNone w := by
  cases a <;> simp [Op.equalIn, run_underlying hu]
theorem equalIn_bool (d : Nat) {t : TypeId} {a b : Bool} (hu : P.underlying t = some .bool) : (Op.equalIn (d + 1) t (.bool a) (.bool b)).run P w = .ok (a == b) w := by
  simp [Op.equalIn, run_underlying hu]
theorem isNil_does (ok : HeapOK w.heap g φ) {op : BinOp} {t e : TypeId} {ox oy : Operand} {a : Option Addr} (hu : P.underlying t = some (.pointer e)) (rs : List Nat) :
    DoesO P w g φ (do pure (.value (← (do eqGuard op t ox oy (.pointer a) (.pointer none); binOp op t (.pointer a) (.pointer none))))) rs (isNilO op a.isNone) := by
  have he : (Op.equal t (.pointer a) (.pointer none)).run P w = .ok a.isNone w := by
    simp only [Op.equal, Op.maxDepth]; exact equalIn_ptr 9999 hu
  cases op
  case eql => exact DoesO.one ok (u := .bool a.isNone) (by simp [eqGuard, binOp, he]) (tB_rep _)
  case neq => exact DoesO.one ok (u := .bool (!a.isNone)) (by simp [eqGuard, binOp, he]) (tB_rep _)
  all_goals exact fun k h => h.elim
theorem bi_does (hT : TabOK P tb) (ok : HeapOK w.heap g φ) {op : BinOp} {t : TypeId} {ox oy : Operand} {x y : T} {u v : Value} (hx : RepT w.heap g φ x u) (hy : RepT w.heap g φ y v)
    (hp : ∀ a b, u = .pointer a → v = .pointer b → ∃ e, P.underlying t = some (.pointer e)) (rs : List Nat) :
    DoesO P w g φ (do pure (.value (← (do eqGuard op t ox oy u v; binOp op t u v)))) rs (biO op x y) := by
  intro k h
  unfold biO at h
  split at h
  · rename_i i a j b
    cases v_rep hx
    cases v_rep hy
    cases hs : isShift op
    · rw [hs] at h
      obtain ⟨h0, h9⟩ := cond_K h
      have hij := beqK_eq h0
      subst hij
      exact int_does ok hs rs k h9
    · rw [hs] at h; exact shift_does ok rs k h
  · rename_i a b
    cases v_rep hx
    cases v_rep hy
    cases op
    case add =>
      obtain ⟨hle, h⟩ := h
      have : ¬ (IntKind.i64.max < ((a.size + b.size : Nat) : Int)) := by simp only [maxLen] at hle; rw [IntKind.max_i64]; omega
      refine ⟨_, h, Does.value ok (u := .string (a ++ b)) ?_ (tS_rep _)⟩
      simp only [eqGuard_at_string, binOp, Op.stringOp]
      rw [if_neg this]
      simp
    case eql => exact split2_does ok (a.toList == b.toList) (Lib.bytes_beq_iff a b) (by simp [eqGuard_at_string, binOp_string_eql]) rs k h
    case neq => exact split2_does ok (!(a.toList == b.toList)) (by rw [Bool.not_eq_true', ← Bool.not_eq_true, Lib.bytes_beq_iff]) (by simp [eqGuard_at_string, binOp_string_neq]) rs k h
    all_goals exact h.elim
  · cases v_rep hx
    cases v_rep hy
    obtain ⟨e, he⟩ := hp _ _ rfl rfl
    exact isNil_does ok he rs k h
  · cases v_rep hy
    have r := rep_one hx
    cases r with
    | f _ _ r =>
    cases r
    obtain ⟨e, he⟩ := hp _ _ rfl rfl
    exact isNil_does ok he rs k h
  · cases v_rep hy
    obtain ⟨fl, wd, es, hn, hf4, h⟩ := alive_elim h
    obtain ⟨b, p, rfl, _⟩ := pt_add (o := 0) ok hn hf4 (rep_one hx)
    obtain ⟨e, he⟩ := hp _ _ rfl rfl
    exact isNil_does ok he _ k h
  · exact h.elim
theorem eq_does (hT : TabOK P tb) (ok : HeapOK w.heap g φ) {op : BinOp} {t : TypeId} {z : A} {bt : Nat} (hl : tb t = some (.w .bool z bt)) {ox oy : Operand} {x y : T} {u v : Value} (hx : RepT w.heap g φ x u) (hy : RepT w.heap g φ y v) (rs : List Nat) :
    DoesO P w g φ (do pure (.value (← (do eqGuard op t ox oy u v; binOp op t u v)))) rs (eqO op (.w .bool z bt) x y) := by
  obtain ⟨hu, _⟩ := hT.w t _ z bt hl
  intro k h
  unfold eqO at h
  split at h
  · rename_i a b _
    cases v_rep hx
    cases v_rep hy
    have he : (Op.equal t (.bool a) (.bool b)).run P w = .ok (a == b) w := by
      simp only [Op.equal, Op.maxDepth]; exact equalIn_bool 9999 hu
    cases op
    case eql => exact split2_does ok (a == b) (by simp) (by simp [eqGuard, binOp, he]) rs k h
    case neq => exact split2_does ok (!(a == b)) (by simp) (by simp [eqGuard, binOp, he]) rs k h
    all_goals exact h.elim
  · exact h.elim
theorem move_does (ok : HeapOK w.heap g φ) {x : T} {u : Value} (hx : RepT w.heap g φ x u) (rs : List Nat) : DoesO P w g φ (pure (.value u)) rs (moveO x) := by
  cases x <;> exact DoesO.one ok rfl hx
theorem pick_does (ok : HeapOK w.heap g φ) {c x y : T} {u v z : Value} (hc : RepT w.heap g φ c u) (hx : RepT w.heap g φ x v) (hy : RepT w.heap g φ y z) (rs : List Nat) :
    DoesO P w g φ (do pure (.value (if ← asBool u then v else z))) rs (pickO c x y) := by
  intro k h
  unfold pickO at h
  split at h
  · cases v_rep hc
    obtain ⟨ε, h1, n, w', φ', h2, h3⟩ := move_does (P := P) ok hx rs k h
    exact ⟨ε, h1, n, w', φ', by rw [← h2]; simp [asBool], h3⟩
  · cases v_rep hc
    obtain ⟨ε, h1, n, w', φ', h2, h3⟩ := move_does (P := P) ok hy rs k h
    exact ⟨ε, h1, n, w', φ', by rw [← h2]; simp [asBool], h3⟩
  · exact h.elim
theorem un_does (ok : HeapOK w.heap g φ) {op : UnOp} {x : T} {u : Value} (hx : RepT w.heap g φ x u) (rs : List Nat) : DoesO P w g φ (do pure (.value (← Op.unary op u))) rs (unO op x) := by
  intro k h
  unfold unO at h
  split at h
  · cases v_rep hx
    split at h
    · exact ⟨_, h, Does.value ok (u := .bool false) (by simp [Op.unary]) (tB_rep _)⟩
    · exact ⟨_, h, Does.value ok (u := .bool true) (by simp [Op.unary]) (tB_rep _)⟩
  · rename_i i z
    cases v_rep hx
    exact ⟨_, h, Does.value ok (u := .int i (i.wrap (0 - z))) (by simp [Op.unary, Op.intArith]) (tI_rep _ _)⟩
  · exact h.elim
theorem RepVs.at : ∀ (vs : List (Bool × List A)) (us : List Value) (i : Nat) {ag : Bool} {cs : List A}, RepVs h H φ vs us → vs[i]? = some (ag, cs) → ∃ u, us[i]? = some u ∧ RepV h H φ ag cs u
  | v :: vs, u :: us, 0, _, _, hr, hv => by cases hv; exact ⟨u, rfl, hr.1⟩
  | v :: vs, u :: us, i + 1, _, _, hr, hv => RepVs.at vs us i hr.2 hv
  | [], _, _, _, _, _, hv => by cases hv
  | _ :: _, [], _, _, _, hr, _ => hr.elim
theorem extr_does (ok : HeapOK w.heap g φ) {x : T} {i : Nat} {u : Value} (hx : RepT w.heap g φ x u) (rs : List Nat) : DoesO P w g φ (do pure (.value (← Instr.extract u i))) rs (extrO x i) := by
  intro k h
  unfold extrO at h
  split at h
  · rename_i vs
    obtain ⟨us, rfl, r⟩ := hx
    split at h
    · rename_i ag cs hv
      obtain ⟨u, hu, ru⟩ := RepVs.at vs us.toList i r hv
      have hu2 : us[i]? = some u := by simpa using hu
      exact ⟨_, h, Does.value ok (u := u) (by simp [Instr.extract, hu2]) ru⟩
    · exact h.elim
  · exact h.elim
theorem field_does (hT : TabOK P tb) (ok : HeapOK w.heap g φ) {t : TypeId} {sz bt : Nat} {z : List A} {fs : List (Nat × Nat × Bool)} {f : Nat} {o s : Nat} {ag : Bool} (hl : tb t = some (.st sz z fs bt)) (hf : fs[f]? = some (o, s, ag))
    {x : T} {u : Value} (hx : RepT w.heap g φ x u) (rs : List Nat) : DoesO P w g φ (do pure (.value (← Instr.field t u f))) rs (fieldO o s ag x) := by
  obtain ⟨inf, fields, zv, hu, _, _, _, _, _, _, _, _, hfs⟩ := hT.st t sz z fs bt hl
  obtain ⟨fd, inf', hfd, hoff, hi, hs, hz, _, d', hd', hag⟩ := hfs f _ hf
  dsimp only at hoff hs hag
  intro k h
  unfold fieldO at h
  split at h
  · rename_i cs
    obtain ⟨c, rfl, hc⟩ := hx
    have hlen := hc.length
    obtain ⟨hle, h⟩ := seg_elim h
    have hiag : (isAgg fd.type).run P w = .ok ag w := by
      unfold isAgg
      rw [Sem.run_bind, run_underlying hd' w, ← hag]
      cases d' <;> rfl
    have hc' := (hc.drop o).take s
    split at h
    · refine ⟨_, h, Does.value ok (u := .agg (c.extract o (o + s))) (by simp [Instr.field, run_underlying hu, hfd, asAgg, part, hiag, sizeOf, typeInfo, hi, hoff, hs]) ⟨_, rfl, ?_⟩⟩
      have : (c.extract o (o + s)).toList = (c.toList.drop o).take s := by
        simp [Array.toList_extract, List.extract_eq_take_drop]
      rw [this]; exact hc'
    · obtain ⟨h1, h⟩ := cond_K h
      have := Nat.eq_of_beq_eq_true h1
      subst this
      have hlt : o < cs.length := by omega
      have e1 : (cs.drop o).take 1 = [cs[o]] := by rw [List.drop_eq_getElem_cons hlt]; rfl
      rw [e1] at h hc'
      obtain ⟨u, hu', ru⟩ := hc.at (List.getElem?_eq_getElem hlt)
      have hu2 : c[o]? = some u := by simpa using hu'
      exact ⟨_, h, Does.value ok (u := u) (by simp [Instr.field, run_underlying hu, hfd, asAgg, part, hiag, hoff, hu2]) ⟨_, rfl, ru⟩⟩
  · exact h.elim
theorem chr_does (hT : TabOK P tb) (ok : HeapOK w.heap g φ) {t : TypeId} {z : A} {bt : Nat} (hl : tb t = some (.w .string z bt)) {x i : T} {u v : Value} (hx : RepT w.heap g φ x u) (hi : RepT w.heap g φ i v) (rs : List Nat) :
    DoesO P w g φ (do pure (.value (← Instr.index t u v))) rs (chrO x i) := by
  obtain ⟨hu, _⟩ := hT.w t _ z bt hl
  intro k h
  unfold chrO at h
  split at h
  · obtain ⟨⟨j, b⟩, ⟨hz, hb⟩, h⟩ := h
    dsimp only at hz hb
    subst hz
    cases v_rep hx
    cases v_rep hi
    exact ⟨_, h, Does.value ok (u := .int .u8 b.toNat) (by simp [Instr.index, asIntOf, run_underlying hu, hb]) (tI_rep _ _)⟩
  · exact h.elim
theorem mm_does (ok : HeapOK w.heap g φ) {mx : Bool} {ts : Array TypeId} {ty : TypeId} {cn : Array Bool} {x y : T} {u v : Value} (hx : RepT w.heap g φ x u) (hy : RepT w.heap g φ y v) (rs : List Nat) :
    DoesO P w g φ (builtin (if mx then .max else .min) ts ty cn #[u, v]) rs (mmO mx x y) := by
  intro k h
  unfold mmO at h
  split at h
  · cases v_rep hx
    cases v_rep hy
    cases mx with
    | true => exact ⟨_, h, Does.value ok (by simp [builtin, Builtin.max_, Builtin.max2]) (tI_rep _ _)⟩
    | false => exact ⟨_, h, Does.value ok (by simp [builtin, Builtin.min_, Builtin.min2]) (tI_rep _ _)⟩
  · exact h.elim
theorem conv_does (hT : TabOK P tb) (ok : HeapOK w.heap g φ) {s t : TypeId} {l l' : Lay} (hs : tb s = some l) (ht : tb t = some l') {x : T} {u : Value} (hx : RepT w.heap g φ x u) (rs : List Nat) :
    DoesO P w g φ (do pure (.value (← convert s t u))) rs (convO l l' x) := by
  intro k h
  unfold convO at h
  split at h
  · rename_i i0 z0 b0 kk z1 b1 i z
    obtain ⟨hu, _⟩ := hT.w s _ _ _ hs
    obtain ⟨hv, _⟩ := hT.w t _ _ _ ht
    cases v_rep hx
    exact ⟨_, h, Does.value ok (u := .int kk (kk.wrap z)) (by simp [convert, run_underlying hu, run_underlying hv, Conv.intToInt]) (tI_rep _ _)⟩
  · obtain ⟨hu, _⟩ := hT.w s _ _ _ hs
    obtain ⟨hv, _⟩ := hT.w t _ _ _ ht
    cases v_rep hx
    exact ⟨_, h, Does.value ok (by simp [convert, run_underlying hu, run_underlying hv]) (tS_rep _)⟩
  · exact h.elim
theorem caps_elim : ∀ {xs : List T} {κ : List (Bool × List A) → Out} {sq : Bool} {rs : List Nat} {q : Eff → Prop}, (capsK xs κ).K sq g rs q → ∃ cs, xs = cs.map (fun x => .val x.1 x.2) ∧ (κ cs).K sq g rs q
  | [], κ, sq, rs, q, h => ⟨[], rfl, h⟩
  | .val ag cs :: xs, κ, sq, rs, q, h => by
    obtain ⟨l, rfl, h2⟩ := caps_elim (xs := xs) (κ := fun r => κ ((ag, cs) :: r)) h
    exact ⟨(ag, cs) :: l, rfl, h2⟩
  | .tu _ :: _, _, _, _, _, h => h.elim
  | .bot :: _, _, _, _, _, h => h.elim
theorem RepV.wf {ag : Bool} {cs : List A} {u : Value} (r : RepV h H φ ag cs u) : wfv ag cs.length u ∧ ∀ j x, cs[j]? = some x → RepE h H φ x (partv ag u j) := by
  cases ag with
  | true =>
    obtain ⟨c, rfl, hc⟩ := r
    refine ⟨⟨c, rfl, by simpa using hc.length⟩, fun j x hx => ?_⟩
    obtain ⟨u, hu, ru⟩ := hc.at hx
    have : partv true (.agg c) j = u := by simp [partv, show c[j]? = some u by simpa using hu]
    rw [this]; exact ru
  | false =>
    obtain ⟨x, rfl, hx⟩ := r
    refine ⟨⟨rfl, hx.one⟩, fun j y hy => ?_⟩
    cases j with
    | zero => cases hy; exact hx
    | succ j => simp at hy
theorem func_does (ok : HeapOK w.heap g φ) {f : FuncId} {xs : List T} {us : List Value} (hx : ∀ (i : Nat) (x : T), xs[i]? = some x → ∃ u, us[i]? = some u ∧ RepT w.heap g φ x u) (hlen : us.length = xs.length) (rs : List Nat) :
    DoesO P w g φ (do pure (.value (← Instr.makeFunc (.func f) #[] us.toArray))) rs (capsK xs fun caps => one (.val false [.cl f caps])) := by
  intro k h
  obtain ⟨cs, rfl, h2⟩ := caps_elim h
  have hcl : RepE w.heap g φ (.cl f cs) (.func (.func f) #[] us.toArray) := by
    refine RepE.cl f cs us.toArray (by simpa using hlen) (fun i x hi => ?_) (fun i x j y hi hj => ?_)
    · obtain ⟨u, hu, ru⟩ := hx i (.val x.1 x.2) (by rw [List.getElem?_map, hi]; rfl)
      have : us.toArray.getD i undef = u := by simp [hu]
      rw [this]
      exact (RepV.wf ru).1
    · obtain ⟨u, hu, ru⟩ := hx i (.val x.1 x.2) (by rw [List.getElem?_map, hi]; rfl)
      have : us.toArray.getD i undef = u := by simp [hu]
      rw [this]
      exact (RepV.wf ru).2 j y hj
  exact ⟨_, h2, Does.value ok (u := .func (.func f) #[] us.toArray) (by simp [Instr.makeFunc]) ⟨_, rfl, hcl⟩⟩
theorem bound_run {v : Value} {z : T} (hr : RepT h H φ z v) {dflt a b : Nat} (hp : bndP (some z) dflt a) (hab : a ≤ b) (code : BoundsCode) : (Instr.sliceBound v b code).run P w = .ok a w := by
  unfold bndP at hp
  split at hp
  · rename_i heq; cases heq
  · rename_i z' heq
    cases heq
    cases v_rep hr
    subst hp
    simp [Instr.sliceBound, asIntOf, hab]
  · exact hp.elim
theorem bounds_run {isS : Bool} {len cap a b : Nat} {lo hi : Option T} {ul uh : Option Value} (hl : ∀ x, lo = some x → ∃ u, ul = some u ∧ RepT h H φ x u) (hl0 : lo = none → ul = none) (hh : ∀ x, hi = some x → ∃ u, uh = some u ∧ RepT h H φ x u) (hh0 : hi = none → uh = none)
    (ha : bndP lo 0 a) (hb : bndP hi len b) (hab : a ≤ b) (hbc : b ≤ cap) : (Instr.sliceBounds isS len cap ul uh none).run P w = .ok (a, b, cap) w := by
  cases lo with
  | none =>
    rw [hl0 rfl]
    cases ha
    cases hi with
    | none => rw [hh0 rfl]; cases hb; simp [Instr.sliceBounds]
    | some y =>
      obtain ⟨u, rfl, ru⟩ := hh y rfl
      simp [Instr.sliceBounds, bound_run (P := P) (w := w) ru hb hbc]
  | some x =>
    obtain ⟨v, rfl, rv⟩ := hl x rfl
    cases hi with
    | none => rw [hh0 rfl]; cases hb; simp [Instr.sliceBounds, bound_run (P := P) (w := w) rv ha hab]
    | some y =>
      obtain ⟨u, rfl, ru⟩ := hh y rfl
      simp [Instr.sliceBounds, bound_run (P := P) (w := w) ru hb hbc, bound_run (P := P) (w := w) rv ha hab]
end
end Go.Proofs.Ytfafehhallbjiaa.Ac
set_option linter.unusedVariables false
set_option linter.unusedSimpArgs false
namespace Go.Proofs.Ytfafehhallbjiaa.Ac
open Go.RowKit
section
variable {P : Program} {tb : Tab} {g : Hp} {φ : Phi} {w : World} {h : Array Obj} {H : Hp}
theorem RepA.cp {X : Place} {x : A} {u : Value} (r : RepA h H φ X x u) : RepE h H φ (cpA x) u := by
  cases r with
  | e _ _ _ r => cases r <;> (rename_i r; first | exact r | skip) <;> constructor <;> assumption
  | nilo _ wd a => exact .un _ _ rfl fun n hn => by cases hn; exact ⟨a, 0, rfl⟩
  | ow _ wd es hd c ty => exact .un _ _ rfl fun n hn => by cases hn; exact ⟨_, _, rfl⟩
structure Src (w : World) (g : Hp) (φ : Phi) (size : Nat) (new : List (List A)) (m : Nat) (news : List Value) : Prop where
  len : new.length = m
  wd : ∀ e ∈ new, e.length = size
  sz : news.length = m * size
  one : ∀ x ∈ news, x.oneCell' = true
  rep : ∀ i e j x, new[i]? = some e → e[j]? = some x → RepE w.heap g φ x (news.getD (i * size + j) undef)
def Hands (P : Program) (w : World) (size : Nat) (v : Value) (m : Nat) (news : List Value) : Prop := ∃ a cap, v = .slice a m cap ∧ ∀ w', w'.heap = w.heap → (Builtin.firstCells size m v).run P w' = .ok news.toArray w' ∧
  ∀ k ≤ m, (Builtin.firstCells size k v).run P w' = .ok (news.take (k * size)).toArray w'
theorem hands_none {size : Nat} {a : Option Addr} {cap : Nat} : Hands P w size (.slice a 0 cap) 0 [] := by
  refine ⟨a, cap, rfl, fun w' hw => ?_⟩
  have : (Builtin.firstCells size 0 (.slice a 0 cap)).run P w' = .ok #[] w' := by
    cases a with
    | none => simp [Builtin.firstCells]
    | some a => exact run_firstCells_some w' size 0 a 0 cap [] (by simp) (by simp)
  exact ⟨this, fun k hk => by obtain rfl : k = 0 := by omega
                              simpa using this⟩
theorem hands_at {size b off m cap : Nat} {c : Array Value} {ty : TypeId} {fr : Nat × Nat} (hb : w.heap[b]? = some (.cells c ty fr)) (hs : off + m * size ≤ c.size) :
    Hands P w size (.slice (some ⟨b, off, none⟩) m cap) m ((List.range (m * size)).map fun j => c.getD (off + j) undef) := by
  have key : ∀ w' : World, w'.heap = w.heap → ∀ k ≤ m, (Builtin.firstCells size k (.slice (some ⟨b, off, none⟩) m cap)).run P w' = .ok ((List.range (k * size)).map fun j => c.getD (off + j) undef).toArray w' := by
    intro w' hw k hk
    refine run_firstCells_some w' size k ⟨b, off, none⟩ m cap _ (by simp) fun j v hj => ?_
    obtain ⟨h1, rfl⟩ := range_get hj
    rw [Addr.add_lit]
    refine getD_cell (by rw [hw]; exact hb) ?_
    have := Nat.mul_le_mul_right size hk
    omega
  refine ⟨_, _, rfl, fun w' hw => ⟨key w' hw m (Nat.le_refl _), fun k hk => ?_⟩⟩
  rw [← List.map_take, List.take_range, Nat.min_eq_left (Nat.mul_le_mul_right _ hk)]
  exact key w' hw k hk
theorem getD_range {n j : Nat} {f : Nat → Value} (hj : j < n) : ((List.range n).map f).getD j undef = f j := by
  simp [List.getD_eq_getElem?_getD, List.getElem?_range hj]
theorem src_row (ok : HeapOK w.heap g φ) {n lo hi fl wd : Nat} {es : List (List A)} (hn : g n = some (some ⟨fl, wd, es⟩)) (hf4 : fl ≠ 4) {v : Value} (r : RepE w.heap g φ (.row n lo hi) v) :
    ∃ m news, Hands P w wd v m news ∧ m = ((es.take hi).drop lo).length ∧ lo ≤ hi ∧ hi ≤ es.length ∧ 0 < wd ∧ (∀ e ∈ es, e.length = wd) ∧ news.length = m * wd ∧ (∀ x ∈ news, x.oneCell' = true) ∧
      ∀ i e j x, ((es.take hi).drop lo)[i]? = some e → e[j]? = some x → RepE w.heap g φ (cpA x) (news.getD (i * wd + j) undef) := by
  have r0 := r
  cases r with
  | row _ _ _ _ r =>
    have r2 := r.2
    rw [hn] at r2
    obtain ⟨h1, h2, h3⟩ := r2
    dsimp only at h2 h3
    rcases ((ok.ob n _ hn).row hf4) with ⟨h0, hp⟩ | ⟨hd, c, ty, g1, g2, g3, g4, g5⟩
    · dsimp only at h0
      subst h0
      rw [hp] at h3
      obtain ⟨a, rfl⟩ := h3
      have : hi = 0 := by simpa using h2
      subst this
      exact ⟨0, [], hands_none, by simp, h1, h2, (ok.ob n _ hn).1, fun e he => (by cases he), by simp, fun x hx => (by cases hx), fun i e j x hi => (by simp at hi)⟩
    · rw [g1] at h3
      obtain ⟨a, rfl, ha⟩ := h3
      dsimp only at g3 g5 ha
      have hlen : ((es.take hi).drop lo).length = hi - lo := by simp; omega
      by_cases hlt : lo < hi
      · rw [ha (.inr hlt)]
        have hin : hd.off + lo * wd + (hi - lo) * wd ≤ c.size := by
          rw [g3.size, Nat.add_assoc, ← Nat.add_mul]
          exact Nat.add_le_add_left (Nat.mul_le_mul_right _ (by have := g3.le; omega)) _
        refine ⟨hi - lo, _, hands_at g2 hin, hlen.symm, h1, h2, g3.wd0, g3.len, by simp, fun x hx => ?_, fun i e j x hi' hj => ?_⟩
        · obtain ⟨k, hk, rfl⟩ := List.mem_map.1 hx
          exact g3.one _ (by have := List.mem_range.1 hk; omega)
        · rw [List.getElem?_drop, List.getElem?_take] at hi'
          split at hi'
          · have hel := g3.len e (List.mem_of_getElem? hi')
            have hjl := (List.getElem?_eq_some_iff.1 hj).1
            have : i * wd + j < (hi - lo) * wd := idx_lt (by omega) (by omega)
            rw [getD_range this]
            have := (g5 _ e j x hi' hj).cp
            rw [Nat.add_mul] at this
            rw [show hd.off + lo * wd + (i * wd + j) = hd.off + (lo * wd + i * wd) + j by omega]
            exact this
          · cases hi'
      · have : hi = lo := by omega
        subst this
        rw [Nat.sub_self]
        exact ⟨0, [], hands_none, by rw [hlen, Nat.sub_self], h1, h2, g3.wd0, g3.len, by simp, fun x hx => (by cases hx), fun i e j x hi => (by simp at hi)⟩
theorem noOw_cp : ∀ {e : List A}, noOw.go e = true → e.map cpA = e
  | [], _ => rfl
  | x :: e, h => by
    have hx : cpA x = x ∧ noOw.go e = true := by cases x <;> first | exact ⟨rfl, h⟩ | cases h
    rw [List.map_cons, hx.1, noOw_cp hx.2]
theorem noOw_cpE : ∀ {es : List (List A)}, noOw es = true → cpE es = es
  | [], _ => rfl
  | e :: es, h => by
    simp only [noOw, Bool.and_eq_true] at h
    have := noOw_cpE h.2
    simp only [cpE, List.map_cons, noOw_cp h.1] at this ⊢
    rw [this]
theorem src_elim {k : Eff → Prop} (ok : HeapOK w.heap g φ) {size : Nat} (h0 : 0 < size) {y : T} {v : Value} (hy : RepT w.heap g φ y v) {κ : List (List A) → Out} {rs : List Nat} (h : (srcO size y κ).K true g rs k) :
    ∃ new rs' m news, (κ new).K true g rs' k ∧ Hands P w size v m news ∧ Src w g φ size new m news := by
  unfold srcO at h
  split at h
  · have r := rep_one hy
    cases r
    exact ⟨[], rs, 0, [], h, hands_none, ⟨rfl, fun e he => (by cases he), by simp, fun x hx => (by cases hx), fun i e j x hi => (by simp at hi)⟩⟩
  · rename_i wd' es
    obtain ⟨hb, hk⟩ := cond_K h
    clear h
    have := Nat.eq_of_beq_eq_true hb
    subst this
    obtain ⟨es', rfl, h⟩ := hk
    have r := rep_one hy
    cases r with
    | f _ _ r =>
    cases r with
    | nil _ a cap => exact ⟨_, _, 0, [], h, hands_none, ⟨rfl, fun e he => (by cases he), by simp, fun x hx => (by cases hx), fun i e j x hi => (by simp at hi)⟩⟩
    | sl _ _ b off cap c ty fr hw he hb hO hl hs hc hr =>
      have hone : ∀ i e j x, es[i]? = some e → e[j]? = some x → i * size + j < es.length * size := fun i e j x hi hj => by
        have h1 := (List.getElem?_eq_some_iff.1 hi).1
        have h2 := (List.getElem?_eq_some_iff.1 hj).1
        rw [hl e (List.mem_of_getElem? hi)] at h2
        exact idx_lt h1 h2
      refine ⟨_, _, es.length, _, h, hands_at hb hs, ⟨by simp, fun e he => ?_, by simp, fun x hx => ?_, fun i e j x hi hj => ?_⟩⟩
      · obtain ⟨e', he', rfl⟩ := List.mem_map.1 he
        simpa using hl e' he'
      · obtain ⟨k', hk', rfl⟩ := List.mem_map.1 hx
        have hk' := List.mem_range.1 hk'
        have hd : k' / size < es.length := Nat.div_lt_of_lt_mul (by rw [Nat.mul_comm]; exact hk')
        have hm : k' % size < size := Nat.mod_lt _ h0
        have hel : (es[k' / size]).length = size := hl _ (List.getElem_mem _)
        have := hr (k' / size) es[k' / size] (k' % size) (es[k' / size][k' % size]'(by omega)) (by simp [hd]) (by simp [hel, hm])
        have e1 : off + k' / size * size + k' % size = off + k' := by
          have := Nat.div_add_mod k' size
          rw [Nat.mul_comm] at this; omega
        rw [e1] at this
        exact this.one
      · rw [List.getElem?_map] at hi
        cases hq : es[i]? with
        | none => rw [hq] at hi; cases hi
        | some e0 =>
          rw [hq] at hi
          cases hi
          rw [List.getElem?_map] at hj
          cases hq2 : e0[j]? with
          | none => rw [hq2] at hj; cases hj
          | some x0 =>
            rw [hq2] at hj
            cases hj
            rw [getD_range (hone i e0 j x0 hq hq2), ← Nat.add_assoc]
            exact .f _ _ (hr i e0 j x0 hq hq2)
  · rename_i m lo hi
    obtain ⟨fl, wd, es, hn, hf4, hk0⟩ := alive_elim h
    clear h
    obtain ⟨hb, h⟩ := cond_K hk0
    clear hk0
    have := Nat.eq_of_beq_eq_true hb
    subst this
    obtain ⟨m', news, hh, hm, h1, h2, h3, h4, h5, h6, h7⟩ := src_row (P := P) ok hn hf4 (rep_one hy)
    have fin : ∀ {new : List (List A)}, new = cpE ((es.take hi).drop lo) → Src w g φ size new m' news := by
      rintro new rfl
      refine ⟨by simp [cpE, hm], fun e he => ?_, h5, h6, fun i e j x hi hj => ?_⟩
      · obtain ⟨e', he', rfl⟩ := List.mem_map.1 he
        simpa using h4 e' (List.mem_of_mem_take (List.mem_of_mem_drop he'))
      · simp only [cpE, List.getElem?_map] at hi
        cases hq : ((es.take _).drop lo)[i]? with
        | none => rw [hq] at hi; cases hi
        | some e0 =>
          rw [hq] at hi
          cases hi
          rw [List.getElem?_map] at hj
          cases hq2 : e0[j]? with
          | none => rw [hq2] at hj; cases hj
          | some x0 =>
            rw [hq2] at hj
            cases hj
            exact h7 i e0 j x0 hq hq2
    cases hc : (Nat.beq fl 2 && noOw es && Nat.beq lo 0 && Nat.beq hi es.length)
    · rw [hc] at h
      obtain ⟨es', he, h⟩ := h
      exact ⟨es', _, m', news, h, hh, fin he.symm⟩
    · rw [hc] at h
      simp only [Bool.and_eq_true] at hc
      have e1 := Nat.eq_of_beq_eq_true hc.1.2
      have e2 := Nat.eq_of_beq_eq_true hc.2
      refine ⟨es, _, m', news, h, hh, fin ?_⟩
      rw [e1, e2, List.drop_zero, List.take_length, noOw_cpE hc.1.1.2]
  · exact h.elim
theorem run_append_room' {t u ty e e' : TypeId} {inf : TypeInfo} (ht : P.underlying t = some (.slice e)) (hu : P.underlying u = some (.slice e')) (hi : P.info? e = some inf) {b off sLen sCap m : Nat} {v : Value} {news : List Value} (hv : Hands P w inf.size v m news)
    {c : Array Value} {tc : TypeId} (hb : w.heap[b]? = some (.cells c tc (0, 0))) (hroom : sLen + m ≤ sCap) (hfit : off + sLen * inf.size + news.length ≤ c.size) (h1 : ∀ x ∈ news, x.oneCell' = true) :
    (Builtin.append_ #[t, u] ty #[.slice (some ⟨b, off, none⟩) sLen sCap, v]).run P w = .ok (.slice (some ⟨b, off, none⟩) (sLen + m) sCap)
      (w.setRow b (c.toList.take (off + sLen * inf.size) ++ news ++ c.toList.drop (off + sLen * inf.size + news.length)).toArray) := by
  obtain ⟨a, cap, rfl, hf⟩ := hv
  have hst := run_storeCells_at P b (off + sLen * inf.size) tc news 0 c w hb (by simpa using hfit) h1
  simp only [Nat.add_zero] at hst
  simp [Builtin.append_, run_underlying ht, run_underlying hu, sizeOf, typeInfo, hi, Builtin.lenOf, hroom, (hf w rfl).1, Addr.add_lit, hst]
theorem run_append_none' {t u ty e e' : TypeId} {inf : TypeInfo} (ht : P.underlying t = some (.slice e)) (hu : P.underlying u = some (.slice e')) (hi : P.info? e = some inf) {a : Option Addr} {v : Value} {news : List Value} (hv : Hands P w inf.size v 0 news) (hn : news = []) :
    (Builtin.append_ #[t, u] ty #[.slice a 0 0, v]).run P w = .ok (.slice a 0 0) w := by
  obtain ⟨a', cap, rfl, hf⟩ := hv
  subst hn
  cases a <;> simp [Builtin.append_, run_underlying ht, run_underlying hu, sizeOf, typeInfo, hi, Builtin.lenOf, (hf w rfl).1, storeCells]
theorem run_append_more' {t u ty e e' : TypeId} {inf : TypeInfo} (ht : P.underlying t = some (.slice e)) (hu : P.underlying u = some (.slice e')) (hi : P.info? e = some inf) {z : Value} (hz : inf.zero = some z) {base : Option Addr} {sLen sCap m : Nat} {v : Value} {olds news : List Value}
    (ho : ∀ w', w'.heap = w.heap → (Builtin.firstCells inf.size sLen (.slice base sLen sCap)).run P w' = .ok olds.toArray w') (hv : Hands P w inf.size v m news) (hg : sCap < sLen + m) (hlt : sLen + m < 2 ^ 30) (hbt : inf.bytes ≤ 65536) :
    (Builtin.append_ #[t, u] ty #[.slice base sLen sCap, v]).run P w = .ok (.slice (some ⟨w.heap.size, 0, none⟩) (sLen + m) (grownCap w (sLen + m) sCap e))
        (w.drew.alloc (.cells (olds.toArray ++ news.toArray ++ Builtin.zeroCells z.cells (grownCap w (sLen + m) sCap e - (sLen + m))) e)) := by
  obtain ⟨a', cap, rfl, hf⟩ := hv
  have hn : ¬ (sLen + m ≤ sCap) := by omega
  have h63' : ¬ (9223372036854775807 < ((sLen : Int) + (m : Int))) := by omega
  have hfit : Builtin.nextslicecap (sLen + m) sCap * inf.bytes ≤ 281474976710656 := growslice_fits hg (by
    have := Nat.mul_le_mul (show sLen + m ≤ 2 ^ 30 by omega) hbt
    omega)
  have h48' : ¬ (281474976710656 < Builtin.nextslicecap (sLen + m) sCap * inf.bytes) := by omega
  simp [Builtin.append_, run_underlying ht, run_underlying hu, sizeOf, typeInfo, zeroValue, hi, hz, Builtin.lenOf, hn, h63', h48', Question.forced, (hf w.drew rfl).1, ho w.drew rfl, newRow, grownCap]
  congr 2
  apply Array.ext'
  simp [List.append_assoc]
end
end Go.Proofs.Ytfafehhallbjiaa.Ac
set_option linter.unusedVariables false
set_option linter.unusedSimpArgs false
namespace Go.Proofs.Ytfafehhallbjiaa.Ac
open Go.RowKit
section
variable {P : Program} {tb : Tab} {g : Hp} {φ : Phi} {w : World} {h : Array Obj} {H : Hp}
theorem tab_zero (hT : TabOK P tb) {i : Nat} {l : Lay} (hl : tb i = some l) (h : Array Obj) (H : Hp) (φ : Phi) : ∃ inf zv, P.info? i = some inf ∧ inf.size = l.size ∧ inf.bytes = l.bt ∧ inf.zero = some zv ∧ zv.cells.size = l.size ∧ RepC h H φ l.zero zv.cells.toList := by
  cases l with
  | w d z bt =>
    obtain ⟨_, _, inf, zv, h1, h2, h3, h4, rfl, h5⟩ := hT.w i d z bt hl
    exact ⟨inf, zv, h1, h2, h5, h3, by rw [cells_one h4]; rfl, by rw [cells_one h4]; exact ⟨constA_ok h4, trivial⟩⟩
  | st sz z fs bt =>
    obtain ⟨inf, _, zv, _, h1, h2, h3, rfl, h4, h5, h6, _⟩ := hT.st i sz z fs bt hl
    exact ⟨inf, .agg zv, h1, h2, h6, h3, h5, constC_ok h4⟩
theorem zero_one {z : Array Value} {n k : Nat} (h1 : ∀ x ∈ z.toList, x.oneCell' = true) (hk : k < (Builtin.zeroCells z n).size) : ((Builtin.zeroCells z n).getD k undef).oneCell' = true := by
  simp only [size_zeroCells] at hk
  have hz : 0 < z.size := by
    rcases Nat.eq_zero_or_pos z.size with h | h
    · rw [h] at hk; simp at hk
    · exact h
  have hm : k % z.size < z.size := Nat.mod_lt _ hz
  have : (Builtin.zeroCells z n).getD k undef = z[k % z.size] := by
    simp [Builtin.zeroCells, Array.getD_eq_getD_getElem?, hk, hm]
  rw [this]
  exact h1 _ (by simp)
theorem virt_ok (k : HeapOK h H φ) {n wd fl : Nat} (hn : H n = none) (hf4 : fl ≠ 4) (h0 : 0 < wd) : HeapOK h (put1 H n (some ⟨fl, wd, []⟩)) (φ.set n fun _ => none) ∧ Turn h H φ h (put1 H n (some ⟨fl, wd, []⟩)) (φ.set n fun _ => none) := by
  have hne : ∀ m x, H m = some x → m ≠ n := fun m x hm e => by rw [e, hn] at hm; cases hm
  have own : ∀ X hd, (φ.set n fun _ => none) X = some hd → X.1 ≠ n ∧ φ X = some hd := by
    rintro ⟨m, q⟩ hd hX
    by_cases e : m = n
    · subst e; rw [set_self] at hX; cases hX
    · rw [set_ne _ e] at hX; exact ⟨e, hX⟩
  have t : Turn h H φ h (put1 H n (some ⟨fl, wd, []⟩)) (φ.set n fun _ => none) := by
    refine ⟨rfl, fun b hb hO => ⟨?_, rfl⟩, fun m hm => by rw [put1_ne _ (hne m _ hm)]; exact hm, fun m x hm => .inr ⟨x, by rw [put1_ne _ (hne m _ hm)]; exact hm, set_ne _ (hne m _ hm), rfl, Nat.le_refl _⟩⟩
    rintro ⟨X, hd, hX, rfl⟩
    exact hO ⟨X, hd, (own X hd hX).2, rfl⟩
  refine ⟨all_ob (fun m x hm => ?_) (fun X hd hX => k.lt X hd (own X hd hX).2) (fun X hd hX => k.apart X hd (own X hd hX).2) k.old (fun X Y hd hd' hX hY => k.inj X Y hd hd' (own X hd hX).2 (own Y hd' hY).2), t⟩
  by_cases e : m = n
  · subst e; rw [put1_self] at hm; cases hm
    exact obRow h0 hf4 (.inl ⟨rfl, set_self _ _ _⟩)
  · rw [put1_ne _ e] at hm
    exact (k.ob m x hm).keep (fun _ _ r => r.turn t) (fun q => set_ne _ e) fun _ _ _ => rfl
theorem RefRow.mk' {n lo hi fl wd : Nat} {es : List (List A)} {u : Value} (hn : H n = some (some ⟨fl, wd, es⟩)) (h1 : lo ≤ hi) (h2 : hi ≤ es.length) (h3 : match φ (n, []) with
    | none => ∃ a, u = .slice a 0 0
    | some hd => ∃ a, u = .slice a (hi - lo) (hd.cap - lo) ∧ (lo = 0 ∨ lo < hi → a = some ⟨hd.b, hd.off + lo * wd, none⟩)) : RefRow H φ n lo hi u := by
  refine ⟨?_, ?_⟩
  · cases hp : φ (n, []) with
    | none => rw [hp] at h3; obtain ⟨a, rfl⟩ := h3; rfl
    | some hd => rw [hp] at h3; obtain ⟨a, rfl, _⟩ := h3; rfl
  · rw [hn]; exact ⟨h1, h2, h3⟩
theorem RefRow.full {n fl wd : Nat} {es : List (List A)} {hd : Hd} (hn : H n = some (some ⟨fl, wd, es⟩)) (hp : φ (n, []) = some hd) {len : Nat} (hlen : len = es.length) : RefRow H φ n 0 len (.slice (some ⟨hd.b, hd.off, none⟩) len hd.cap) :=
  RefRow.mk' hn (Nat.zero_le _) (by omega) (by rw [hp]; exact ⟨_, rfl, fun _ => by simp⟩)
theorem getD_app (a b : List Value) (k : Nat) : (a ++ b).getD k undef = if k < a.length then a.getD k undef else b.getD (k - a.length) undef := by
  simp only [List.getD_eq_getElem?_getD]
  split
  · rw [List.getElem?_append_left (by assumption)]
  · rw [List.getElem?_append_right (by omega)]
theorem arr_getD (l : List Value) (k : Nat) : l.toArray.getD k undef = l.getD k undef := by simp [List.getD_eq_getElem?_getD]
theorem grown_row {cap wd : Nat} {es : List (List A)} {b : Nat} {news : List Value} {z : Array Value} (hw : 0 < wd) (hwd : ∀ e ∈ es, e.length = wd) (hn : news.length = es.length * wd) (h1 : ∀ x ∈ news, x.oneCell' = true) (hc : es.length ≤ cap) (hm : cap ≤ maxLen) (hz : z.size = wd) (hz1 : ∀ x ∈ z.toList, x.oneCell' = true) :
    RowOK wd es ⟨b, 0, cap⟩ (news ++ (Builtin.zeroCells z (cap - es.length)).toList).toArray := by
  refine ⟨hw, hwd, hc, hm, ?_, fun k hk => ?_⟩
  · simp only [List.size_toArray, List.length_append, hn, Array.length_toList, size_zeroCells, hz, ← Nat.add_mul]
    rw [Nat.zero_add]
    congr 1; omega
  · rw [arr_getD, getD_app]
    split
    · rename_i hk1
      rw [List.getD_eq_getElem?_getD, List.getElem?_eq_getElem hk1]
      exact h1 _ (List.getElem_mem _)
    · rename_i hk1
      have : (Builtin.zeroCells z (cap - es.length)).toList.getD (k - news.length) undef = (Builtin.zeroCells z (cap - es.length)).getD (k - news.length) undef := by simp [List.getD_eq_getElem?_getD]
      rw [this]
      refine zero_one hz1 ?_
      simp at hk; omega
theorem Src.app_nil {k size m : Nat} {new : List (List A)} {news : List Value} (s : Src w g φ size new m news) {i j : Nat} {e : List A} {x : A} (hi : new[i]? = some e) (hj : e[j]? = some x) {ls rs : List Value} (hl : ls.length = k * size) : RepE w.heap g φ x ((ls ++ news ++ rs).getD ((k + i) * size + j) undef) := by
  have h1 := (List.getElem?_eq_some_iff.1 hi).1
  have h2 := (List.getElem?_eq_some_iff.1 hj).1
  rw [s.wd e (List.mem_of_getElem? hi)] at h2
  rw [s.len] at h1
  have h3 : i * size + j < m * size := idx_lt h1 h2
  rw [List.append_assoc, getD_app, if_neg (by rw [hl, Nat.add_mul]; omega), getD_app, hl, Nat.add_mul, show k * size + i * size + j - k * size = i * size + j by omega, if_pos (by rw [s.sz]; exact h3)]
  exact s.rep i e j x hi hj
theorem arr_app (olds news : List Value) (Z : Array Value) : olds.toArray ++ news.toArray ++ Z = (olds ++ (news ++ Z.toList)).toArray := by
  apply Array.ext'; simp [List.append_assoc]
theorem append_over (hT : TabOK P tb) (ok : HeapOK w.heap g φ) {t u el eu ty : TypeId} {inf : TypeInfo} {zv : Value} {z : List A} (ht' : P.underlying t = some (.slice el)) (hu' : P.underlying u = some (.slice eu)) (hi : P.info? el = some inf) (hz : inf.zero = some zv)
    {wd : Nat} (hsz : inf.size = wd) (hzs : zv.cells.size = wd) (hzone : ∀ x ∈ zv.cells.toList, x.oneCell' = true) (hby : inf.bytes ≤ 65536) {n m' fl hi' : Nat} {es : List (List A)} (hn : g n = some (some ⟨fl, wd, es⟩)) (hf4 : fl ≠ 4) (hm' : g m' = none) {vx vy : Value} (r : RefRow g φ n 0 hi' vx)
    {new : List (List A)} {m : Nat} {news : List Value} (hh : Hands P w inf.size vy m news) (hs : Src w g φ wd new m news) (hlt : (es.take hi' ++ new).length < 2 ^ 30) :
    ∃ u' w' φ', (Builtin.append_ #[t, u] ty #[vx, vy]).run P w = .ok u' w' ∧ HeapOK w'.heap (put1 (put1 g n none) m' (some ⟨0, wd, es.take hi' ++ new⟩)) φ' ∧ Turn w.heap g φ w'.heap (put1 (put1 g n none) m' (some ⟨0, wd, es.take hi' ++ new⟩)) φ' ∧
      RefRow (put1 (put1 g n none) m' (some ⟨0, wd, es.take hi' ++ new⟩)) φ' m' 0 (es.take hi' ++ new).length u' ∧ w'.os = w.os ∧ w'.tape = w.tape ∧ w'.output = w.output ∧ w.heap.size ≤ w'.heap.size := by
  have hnm : n ≠ m' := fun e => by rw [e, hm'] at hn; cases hn
  have hobn := ok.ob n _ hn
  have hpos : 0 < wd := hobn.1
  have r3 := r.2
  rw [hn] at r3
  obtain ⟨_, hle, r3⟩ := r3
  dsimp only at hle r3
  have htl : (es.take hi').length = hi' := by simp; omega
  have hl2 : (es.take hi' ++ new).length = hi' + m := by rw [List.length_append, htl, hs.len]
  rw [hl2] at hlt ⊢
  -- cells of the new row
  have cells : ∀ {cc : Array Value} {c : Array Value} {o o' : Nat}, (∀ i e j x, es[i]? = some e → e[j]? = some x → i < hi' → RepA w.heap g φ (n, [(i, j)]) x (cc.getD (o' + i * wd + j) undef)) →
      (∀ i e j x, new[i]? = some e → e[j]? = some x → RepE w.heap g φ x (cc.getD (o' + (hi' + i) * wd + j) undef)) →
      ∀ i e j x, (es.take hi' ++ new)[i]? = some e → e[j]? = some x → RepA w.heap g φ (n, [(i, j)]) x (cc.getD (o' + i * wd + j) undef) := by
    intro cc c o o' h1 h2 i e j x hi hj
    by_cases hlt : i < hi'
    · rw [List.getElem?_append_left (by rw [htl]; exact hlt), List.getElem?_take, if_pos hlt] at hi
      exact h1 i e j x hi hj hlt
    · rw [List.getElem?_append_right (by rw [htl]; omega), htl] at hi
      have := h2 (i - hi') e j x hi hj
      rw [show hi' + (i - hi') = i by omega] at this
      exact .e _ _ _ this
  have hwd : (∀ e ∈ es, e.length = wd) → ∀ e ∈ es.take hi' ++ new, e.length = wd := fun h e he => by
    rcases List.mem_append.1 he with h1 | h1
    · exact h e (List.mem_of_mem_take h1)
    · exact hs.wd e h1
  have more : ∀ {base : Option Addr} {sCap : Nat} {olds : List Value}, vx = .slice base hi' sCap → (∀ w', w'.heap = w.heap → (Builtin.firstCells inf.size hi' (.slice base hi' sCap)).run P w' = .ok olds.toArray w') → sCap < hi' + m →
      ∃ cap, hi' + m ≤ cap ∧ cap ≤ maxLen ∧ (Builtin.append_ #[t, u] ty #[vx, vy]).run P w = .ok (.slice (some ⟨w.heap.size, 0, none⟩) (hi' + m) cap) (w.drew.alloc (.cells (olds ++ (news ++ (Builtin.zeroCells zv.cells (cap - (hi' + m))).toList)).toArray el)) := by
    rintro base sCap olds rfl ho hg
    refine ⟨grownCap w (hi' + m) sCap el, grownCap_ge _ _ _ _, grownCap_le_maxLen _ _ _ _ (by simp only [maxLen]; omega), ?_⟩
    rw [← arr_app]
    exact run_append_more' ht' hu' hi hz ho hh hg hlt hby
  have grow : ∀ {cap : Nat} {olds : List Value}, olds.length = hi' * wd → (∀ x ∈ olds, x.oneCell' = true) → (∀ e ∈ es, e.length = wd) → hi' + m ≤ cap → cap ≤ maxLen → (∀ i e j x, es[i]? = some e → e[j]? = some x → i < hi' → RepA w.heap g φ (n, [(i, j)]) x (olds.getD (i * wd + j) undef)) →
      (Builtin.append_ #[t, u] ty #[vx, vy]).run P w = .ok (.slice (some ⟨w.heap.size, 0, none⟩) (hi' + m) cap) (w.drew.alloc (.cells (olds ++ (news ++ (Builtin.zeroCells zv.cells (cap - (hi' + m))).toList)).toArray el)) →
      ∃ u' w' φ', (Builtin.append_ #[t, u] ty #[vx, vy]).run P w = .ok u' w' ∧ HeapOK w'.heap (put1 (put1 g n none) m' (some ⟨0, wd, es.take hi' ++ new⟩)) φ' ∧ Turn w.heap g φ w'.heap (put1 (put1 g n none) m' (some ⟨0, wd, es.take hi' ++ new⟩)) φ' ∧
      RefRow (put1 (put1 g n none) m' (some ⟨0, wd, es.take hi' ++ new⟩)) φ' m' 0 (hi' + m) u' ∧ w'.os = w.os ∧ w'.tape = w.tape ∧ w'.output = w.output ∧ w.heap.size ≤ w'.heap.size := by
    intro cap olds ho ho1 hes hc1 hc2 hcell hrun
    have hrow := grown_row (b := w.heap.size) hpos (hwd hes) (news := olds ++ news) (by rw [List.length_append, ho, hs.sz, hl2, Nat.add_mul]) (fun x hx => (List.mem_append.1 hx).elim (ho1 x) (hs.one x)) (by rw [hl2]; exact hc1) hc2 hzs hzone
    rw [hl2, List.append_assoc] at hrow
    obtain ⟨φ', ok', t', hp'⟩ := shift_ok (h' := w.heap.push (.cells (olds ++ (news ++ (Builtin.zeroCells zv.cells (cap - (hi' + m))).toList)).toArray el (0, 0))) (ob' := ⟨0, wd, es.take hi' ++ new⟩) ok (fun h => by cases h) hn hm' (by simp)
      (fun b hb _ => by rw [Array.getElem?_push_lt hb, Array.getElem?_eq_getElem hb]) (ty := el) (.inl (Nat.le_refl _)) (by simp) hrow (fun h => absurd rfl h)
      (cells (c := #[]) (o := 0) (fun i e j x hi hj hlt => by
        have h2 := (List.getElem?_eq_some_iff.1 hj).1
        rw [hes e (List.mem_of_getElem? hi)] at h2
        have h3 : i * wd + j < hi' * wd := idx_lt hlt h2
        rw [arr_getD, Nat.zero_add, getD_app, if_pos (by rw [ho]; exact h3)]
        exact hcell i e j x hi hj hlt) fun i e j x hi hj => by
        rw [arr_getD, Nat.zero_add, ← List.append_assoc]
        exact hs.app_nil hi hj ho)
    exact ⟨_, _, φ', hrun, ok', t', RefRow.full (put1_self _ _) hp' hl2.symm, rfl, rfl, rfl, by show _ ≤ (w.heap.push _).size; simp⟩
  rcases (hobn.row hf4) with ⟨h0, hp⟩ | ⟨hd, c, ty', g1, g2, g3, g4, g5⟩
  · dsimp only at h0
    subst h0
    rw [hp] at r3
    obtain ⟨a, rfl⟩ := r3
    have hhi : hi' = 0 := by simpa using hle
    subst hhi
    rcases Nat.eq_zero_or_pos m with hm | hm
    · subst hm
      have hnews : news = [] := List.eq_nil_of_length_eq_zero (by rw [hs.sz]; simp)
      have hnew : new = [] := List.eq_nil_of_length_eq_zero hs.len
      subst hnew
      obtain ⟨ok1, t1⟩ := kill_ok ok hn
      obtain ⟨ok', t'⟩ := virt_ok (n := m') (fl := 0) (wd := wd) ok1 (by rw [put1_ne _ (Ne.symm hnm)]; exact hm') (by decide) hpos
      exact ⟨_, _, _, run_append_none' ht' hu' hi hh hnews, ok', t1.trans t', RefRow.mk' (put1_self _ _) (Nat.le_refl _) (Nat.le_refl _) (by rw [set_self]; exact ⟨a, rfl⟩), rfl, rfl, rfl, Nat.le_refl _⟩
    · obtain ⟨cap, hc1, hc2, hrun⟩ := more rfl (olds := []) (fun w' hw => ((hands_none (P := P) (w := w) (size := inf.size) (a := a) (cap := 0)).choose_spec.choose_spec.2 w' hw).1) (by omega)
      exact grow (by simp) (fun x hx => (by cases hx)) (fun e he => (by cases he)) hc1 hc2 (fun i e j x hi => (by simp at hi)) hrun
  · rw [g1] at r3
    obtain ⟨ad, rfl, ha⟩ := r3
    dsimp only at g3 g5 ha
    rw [ha (.inl rfl)] at more grow ⊢
    simp only [Nat.zero_mul, Nat.add_zero, Nat.sub_zero] at more grow ⊢
    rcases Nat.lt_or_ge hd.cap (hi' + m) with hg | hroom
    · have hin : hd.off + hi' * wd ≤ c.size := by
        rw [g3.size]
        exact Nat.add_le_add_left (Nat.mul_le_mul_right _ (by have := g3.le; omega)) _
      obtain ⟨_, _, _, hf⟩ := hands_at (P := P) (size := inf.size) (m := hi') (cap := hd.cap) g2 (by rw [hsz]; exact hin)
      obtain ⟨cap, hc1, hc2, hrun⟩ := more rfl (fun w' hw => (hf w' hw).1) hg
      refine grow (by rw [hsz]; simp) (fun x hx => ?_) g3.len hc1 hc2 (fun i e j x hi hj hlt => ?_) hrun
      · obtain ⟨k, hk, rfl⟩ := List.mem_map.1 hx
        rw [hsz] at hk
        exact g3.one _ (by have := List.mem_range.1 hk; omega)
      · have h2 := (List.getElem?_eq_some_iff.1 hj).1
        rw [g3.len e (List.mem_of_getElem? hi)] at h2
        have h3 : i * wd + j < hi' * wd := idx_lt hlt h2
        rw [hsz, getD_range h3, ← Nat.add_assoc]
        exact g5 i e j x hi hj
    · have hfit : hd.off + hi' * wd + news.length ≤ c.size := by
        rw [g3.size, hs.sz, Nat.add_assoc, ← Nat.add_mul]
        exact Nat.add_le_add_left (Nat.mul_le_mul_right _ hroom) _
      have hrun := run_append_room' (P := P) (ty := ty) ht' hu' hi hh g2 hroom (off := hd.off) (by rw [hsz]; exact hfit) hs.one
      rw [hsz] at hrun
      have hsz2 : ((c.toList.take (hd.off + hi' * wd) ++ news ++ c.toList.drop (hd.off + hi' * wd + news.length)).toArray).size = c.size := by simp only [List.size_toArray, List.length_append, List.length_take, List.length_drop, Array.length_toList]; omega
      have hget := seg_getD c (hd.off + hi' * wd) news hfit
      obtain ⟨φ', ok', t', hp'⟩ := shift_ok (h' := (w.setRow hd.b (c.toList.take (hd.off + hi' * wd) ++ news ++ c.toList.drop (hd.off + hi' * wd + news.length)).toArray).heap) (ob' := ⟨0, wd, es.take hi' ++ new⟩) (hd := hd) ok (fun h => by cases h) hn hm' (by simp [World.setRow])
        (fun b hb hne => setRow_other w hd.b b _ (hne hd g1)) (.inr ⟨hd, g1, rfl⟩) (setRow_heap w hd.b c _ ty' _ g2)
        ⟨hpos, hwd g3.len, by dsimp only; rw [hl2]; exact hroom, g3.cap, hsz2.trans g3.size, fun k hk => by
          rw [hget]
          split
          · rename_i hk2
            have hkl : k - (hd.off + hi' * wd) < news.length := by omega
            rw [List.getD_eq_getElem?_getD, List.getElem?_eq_getElem hkl]
            exact hs.one _ (List.getElem_mem _)
          · exact g3.one k (by rw [hsz2] at hk; exact hk)⟩ (fun h => absurd rfl h)
        (cells (c := #[]) (o := 0) (fun i e j x hi hj hlt => by
          have h2 := (List.getElem?_eq_some_iff.1 hj).1
          rw [g3.len e (List.mem_of_getElem? hi)] at h2
          have h3 : i * wd + j < hi' * wd := idx_lt hlt h2
          rw [hget, if_neg (by omega)]
          exact g5 i e j x hi hj) fun i e j x hi hj => by
          have h1 := (List.getElem?_eq_some_iff.1 hi).1
          have h2 := (List.getElem?_eq_some_iff.1 hj).1
          rw [hs.wd e (List.mem_of_getElem? hi)] at h2
          rw [hs.len] at h1
          have h3 : i * wd + j < m * wd := idx_lt h1 h2
          rw [hget, Nat.add_mul, if_pos (by rw [hs.sz]; omega), show hd.off + (hi' * wd + i * wd) + j - (hd.off + hi' * wd) = i * wd + j by omega]
          exact hs.rep i e j x hi hj)
      exact ⟨_, _, φ', hrun, ok', t', RefRow.full (put1_self _ _) hp' hl2.symm, rfl, rfl, rfl, by simp [World.setRow]⟩
theorem append_does (hT : TabOK P tb) (ok : HeapOK w.heap g φ) {d : Nat} {t u el eu : TypeId} {z z' : A} {bt bt' : Nat} {l : Lay} (ht : tb t = some (.w (.slice el) z bt)) (hu : tb u = some (.w (.slice eu) z' bt')) (hl : tb el = some l)
    {x y : T} {vx vy : Value} (hx : RepT w.heap g φ x vx) (hy : RepT w.heap g φ y vy) (ty : TypeId) (cn : Array Bool) (rs : List Nat) : DoesO P w g φ (builtin .append #[t, u] ty cn #[vx, vy]) rs (appendO d l x y) := by
  obtain ⟨ht', _⟩ := hT.w t _ z bt ht
  obtain ⟨hu', _⟩ := hT.w u _ z' bt' hu
  obtain ⟨inf, zv, hi, hsz, hbt, hz, hzs, hzr⟩ := tab_zero hT hl w.heap g φ
  intro k h
  unfold appendO at h
  obtain ⟨h0, hA⟩ := cond_K h
  clear h
  simp only [Bool.and_eq_true] at h0
  have hpos : 0 < l.size := by have := h0.1; simpa [Nat.blt, Nat.lt_iff_add_one_le] using this
  have hby : inf.bytes ≤ 65536 := by rw [hbt]; exact Nat.le_of_ble_eq_true h0.2
  obtain ⟨new, rs', m, news, h, hh, hs⟩ := src_elim (P := P) ok hpos hy hA
  clear hA
  rw [← hsz] at hh
  have fin : ∀ {u' : Value} {w' : World} {us : List (Nat × Option Ob)} {v : T} {rd : List Nat} {φ' : Phi}, (Builtin.append_ #[t, u] ty #[vx, vy]).run P w = .ok u' w' → HeapOK w'.heap (putH us g) φ' → Turn w.heap g φ w'.heap (putH us g) φ' → RepT w'.heap (putH us g) φ' v u' →
      w'.os = w.os → w'.tape = w.tape → w'.output = w.output → w.heap.size ≤ w'.heap.size → Does P w g φ (builtin .append #[t, u] ty cn #[vx, vy]) ⟨v, rd, us⟩ := fun hrun h1 h2 h3 h4 h5 h6 h7 => Does.made (by simp [builtin, hrun]) h1 h2 h3 h4 h5 h6 h7
  -- an append onto what has no room
  have more : ∀ {base : Option Addr} {sLen sCap : Nat} {olds : List Value}, vx = .slice base sLen sCap → (∀ w', w'.heap = w.heap → (Builtin.firstCells inf.size sLen (.slice base sLen sCap)).run P w' = .ok olds.toArray w') → sCap < sLen + m → sLen + m < 2 ^ 30 →
      ∃ cap, sLen + m ≤ cap ∧ cap ≤ maxLen ∧ (Builtin.append_ #[t, u] ty #[vx, vy]).run P w = .ok (.slice (some ⟨w.heap.size, 0, none⟩) (sLen + m) cap) (w.drew.alloc (.cells (olds ++ (news ++ (Builtin.zeroCells zv.cells (cap - (sLen + m))).toList)).toArray el)) := by
    rintro base sLen sCap olds rfl ho hg hlt
    refine ⟨grownCap w (sLen + m) sCap el, grownCap_ge _ _ _ _, grownCap_le_maxLen _ _ _ _ (by simp only [maxLen]; omega), ?_⟩
    rw [← arr_app]
    exact run_append_more' ht' hu' hi hz ho hh hg hlt hby
  have hzone : ∀ x ∈ zv.cells.toList, x.oneCell' = true := hzr.one
  split at h
  · obtain ⟨hlt, h⟩ := h
    rw [hs.len] at hlt
    have hvx : ∃ a, vx = .slice a 0 0 := by
      have r := rep_one hx
      cases r with
      | nl a => exact ⟨a, rfl⟩
    obtain ⟨a, rfl⟩ := hvx
    unfold newO at h
    dsimp only [Out.K] at h
    split at h
    · rename_i hn
      rcases Nat.eq_zero_or_pos m with hm | hm
      · subst hm
        have hnews : news = [] := List.eq_nil_of_length_eq_zero (by rw [hs.sz]; simp)
        have hnew : new = [] := List.eq_nil_of_length_eq_zero hs.len
        subst hnew
        obtain ⟨ok', t'⟩ := virt_ok (fl := 0) ok hn (by decide) hpos
        refine ⟨_, h, fin (run_append_none' ht' hu' hi hh hnews) (φ' := φ.set (16 * (d + 1)) fun _ => none) (by rw [putH_one]; exact ok') (by rw [putH_one]; exact t') ⟨_, rfl, .row _ _ _ _ ?_⟩ rfl rfl rfl (Nat.le_refl _)⟩
        rw [putH_one]
        exact RefRow.mk' (put1_self _ _) (Nat.le_refl _) (Nat.le_refl _) (by rw [set_self]; exact ⟨a, rfl⟩)
      · obtain ⟨cap, hc1, hc2, hrun⟩ := more rfl (olds := []) (fun w' hw => ((hands_none (P := P) (w := w) (size := inf.size) (a := a) (cap := 0)).choose_spec.choose_spec.2 w' hw).1) (by omega) (by omega)
        simp only [Nat.zero_add] at hc1 hrun
        have hrow := grown_row (b := w.heap.size) hpos hs.wd (by rw [hs.len]; exact hs.sz) hs.one (by rw [hs.len]; exact hc1) hc2 hzs hzone
        rw [hs.len] at hrow
        obtain ⟨ok', t'⟩ := new_ok (ob := ⟨0, l.size, new⟩) (ty := el) ok hn (fun h => by cases h) hrow (fun h => absurd rfl h) fun i e j x hi hj => by
          have := hs.app_nil (k := 0) hi hj (ls := []) (rs := (Builtin.zeroCells zv.cells (cap - m)).toList) (by simp)
          rw [arr_getD]
          simpa using this
        refine ⟨_, h, fin hrun (φ' := φ.set (16 * (d + 1)) fun q => if q = [] then some ⟨w.heap.size, 0, cap⟩ else none) (by rw [putH_one]; exact ok') (by rw [putH_one]; exact t') ⟨_, rfl, .row _ _ _ _ ?_⟩ rfl rfl rfl (by show _ ≤ (w.heap.push _).size; simp)⟩
        rw [putH_one]
        rw [hs.len]
        have hp' : (φ.set (16 * (d + 1)) fun q => if q = [] then some (⟨w.heap.size, 0, cap⟩ : Hd) else none) (16 * (d + 1), []) = some ⟨w.heap.size, 0, cap⟩ := by rw [set_self]; rfl
        exact RefRow.full (put1_self _ _) hp' hs.len.symm
    · exact h.elim
  · rename_i n lo hi'
    obtain ⟨fl, wd, es, hn, hf4, hA⟩ := alive_elim h
    clear h
    obtain ⟨hb, h⟩ := cond_K hA
    clear hA
    simp only [Bool.and_eq_true] at hb
    have e1 := Nat.eq_of_beq_eq_true hb.1
    have e2 := Nat.eq_of_beq_eq_true hb.2
    subst e1 e2
    have r := rep_one hx
    have r2 : RefRow g φ n 0 hi' vx := by cases r; assumption
    by_cases hfl : fl = 1
    · subst hfl
      obtain ⟨hlt, h⟩ := h
      rw [hs.len] at hlt h
      have r3 := r2.2
      rw [hn] at r3
      obtain ⟨_, hle, r3⟩ := r3
      dsimp only at hle r3
      have hobn := ok.ob n _ hn
      have htl : (es.take hi').length = hi' := by simp; omega
      by_cases hin : hi' + m ≤ es.length
      · obtain ⟨es', rfl, h⟩ := h.1 hin
        rcases (hobn.row hf4) with ⟨h0, hp⟩ | ⟨hd, c, ty', g1, g2, g3, g4, g5⟩
        · dsimp only at h0
          subst h0
          have hm : m = 0 := by simp at hin; omega
          have hhi : hi' = 0 := by simpa using hle
          subst hm hhi
          have hnews : news = [] := List.eq_nil_of_length_eq_zero (by rw [hs.sz]; simp)
          have hnew : new = [] := List.eq_nil_of_length_eq_zero hs.len
          subst hnew
          rw [hp] at r3
          obtain ⟨a, rfl⟩ := r3
          have hg : putH [(n, some ⟨1, l.size, List.take 0 [] ++ [] ++ List.drop (0 + 0) []⟩)] g = g := by
            rw [putH_one]
            funext q
            by_cases hq : q = n
            · subst hq; rw [put1_self, hn]; rfl
            · rw [put1_ne _ hq]
          refine ⟨_, h, fin (run_append_none' ht' hu' hi hh hnews) (φ' := φ) (by rw [hg]; exact ok) (by rw [hg]; exact Turn.refl _ _ _) ⟨_, rfl, ?_⟩ rfl rfl rfl (Nat.le_refl _)⟩
          rw [hg]; exact .row _ _ _ _ r2
        · rw [g1] at r3
          obtain ⟨ad, rfl, ha⟩ := r3
          dsimp only at g3 g4 g5 ha
          rw [ha (.inl rfl)] at more fin hx r2 ⊢
          simp only [Nat.zero_mul, Nat.add_zero, Nat.sub_zero] at more fin hx r2 ⊢
          have hcap : es.length = hd.cap := g4 (by decide)
          have hfit : hd.off + hi' * l.size + news.length ≤ c.size := by
            rw [g3.size, hs.sz, Nat.add_assoc, ← Nat.add_mul]
            exact Nat.add_le_add_left (Nat.mul_le_mul_right _ (by omega)) _
          have hrun := run_append_room' (P := P) (ty := ty) ht' hu' hi hh g2 (show hi' + m ≤ hd.cap by omega) (off := hd.off) (by rw [hsz]; exact hfit) hs.one
          rw [hsz] at hrun
          have hl3 : (es.take hi' ++ new ++ es.drop (hi' + m)).length = es.length := by simp only [List.length_append, htl, hs.len, List.length_drop]; omega
          have hsg := seg_get es hi' new (by rw [hs.len]; exact hin)
          rw [hs.len] at hsg
          obtain ⟨ok', t'⟩ := write_ok ok hf4 hn g1 g2 g3 g4 g5 (es' := es.take hi' ++ new ++ es.drop (hi' + m)) hfit hs.one (fun e he => by
            simp only [List.mem_append] at he
            rcases he with (he | he) | he
            · exact g3.len e (List.mem_of_mem_take he)
            · exact hs.wd e he
            · exact g3.len e (List.mem_of_mem_drop he)) hl3 fun i e j x hi hj => by
            rw [hsg] at hi
            split at hi
            · rename_i hii
              have h1 := (List.getElem?_eq_some_iff.1 hi).1
              have h2 := (List.getElem?_eq_some_iff.1 hj).1
              rw [hs.wd e (List.mem_of_getElem? hi)] at h2
              rw [hs.len] at h1
              have h3 : (i - hi') * l.size + j < m * l.size := idx_lt h1 h2
              have e4 : i * l.size = hi' * l.size + (i - hi') * l.size := by rw [← Nat.add_mul]; congr 1; omega
              refine .inl ⟨by omega, by rw [hs.sz]; omega, ?_⟩
              rw [show hd.off + i * l.size + j - (hd.off + hi' * l.size) = (i - hi') * l.size + j by omega]
              exact hs.rep _ e j x hi hj
            · rename_i hii
              have h2 := (List.getElem?_eq_some_iff.1 hj).1
              rw [g3.len e (List.mem_of_getElem? hi)] at h2
              refine .inr ⟨?_, e, hi, hj⟩
              rw [hs.sz]
              rintro ⟨a1, a2⟩
              rcases Nat.lt_or_ge i hi' with hlt2 | hge2
              · have := idx_lt hlt2 h2; omega
              · have := Nat.mul_le_mul_right l.size (show hi' + m ≤ i by omega)
                rw [Nat.add_mul] at this; omega
          refine ⟨_, h, fin hrun (φ' := φ) (by rw [putH_one]; exact ok') (by rw [putH_one]; exact t') ⟨_, rfl, .row _ _ _ _ ?_⟩ rfl rfl rfl (by simp [World.setRow])⟩
          rw [putH_one]
          exact RefRow.mk' (put1_self _ _) (Nat.zero_le _) (by rw [hl3]; exact hin) (by rw [g1]; exact ⟨_, rfl, fun _ => by simp⟩)
      · obtain ⟨es', rfl, h⟩ := h.2 hin
        obtain ⟨m0, olds, ho, hm0, _, _, _, _, ho5, ho6, ho7⟩ := src_row (P := P) ok hn hf4 (.row _ _ _ _ r2)
        rw [List.drop_zero] at hm0 ho7
        rw [htl] at hm0
        rw [hm0] at ho ho5
        clear hm0
        have hcle : ∃ base sCap, vx = .slice base hi' sCap ∧ sCap < hi' + m := by
          rcases (hobn.row hf4) with ⟨h0, hp⟩ | ⟨hd, c, ty', g1, g2, g3, g4, g5⟩
          · rw [hp] at r3
            obtain ⟨a, rfl⟩ := r3
            dsimp only at h0
            subst h0
            have hhi : hi' = 0 := by simpa using hle
            subst hhi
            exact ⟨a, 0, rfl, by simp at hin; omega⟩
          · rw [g1] at r3
            obtain ⟨ad, rfl, ha⟩ := r3
            have := g4 (show (1 : Nat) ≠ 0 by decide)
            dsimp only at this
            exact ⟨ad, hd.cap, rfl, by omega⟩
        obtain ⟨base, sCap, rfl, hcap⟩ := hcle
        obtain ⟨_, _, e0, hf⟩ := ho
        cases e0
        obtain ⟨cap, hc1, hc2, hrun⟩ := more rfl (fun w' hw => by rw [hsz]; exact (hf w' hw).1) hcap (by omega)
        have hl2 : (cpE (es.take hi') ++ new).length = hi' + m := by rw [List.length_append, hs.len]; simp only [cpE, List.length_map, htl]
        have hwd : ∀ e ∈ cpE (es.take hi') ++ new, e.length = l.size := fun e he => by
          rcases List.mem_append.1 he with h1 | h1
          · obtain ⟨e', he', rfl⟩ := List.mem_map.1 h1
            rcases (hobn.row hf4) with ⟨h0, _⟩ | ⟨hd, c, ty', g1, g2, g3, g4, g5⟩
            · dsimp only at h0; rw [h0] at he'; simp at he'
            · simpa using g3.len e' (List.mem_of_mem_take he')
          · exact hs.wd e h1
        have hrow := grown_row (b := w.heap.size) hpos hwd (news := olds ++ news) (by rw [List.length_append, ho5, hs.sz, hl2, Nat.add_mul]) (fun x hx => (List.mem_append.1 hx).elim (ho6 x) (hs.one x)) (by rw [hl2]; exact hc1) hc2 hzs hzone
        rw [hl2, List.append_assoc] at hrow
        have hrun' : (builtin .append #[t, u] ty cn #[.slice base hi' sCap, vy]).run P w = .ok (.value (.slice (some ⟨w.heap.size, 0, none⟩) (hi' + m) cap)) (w.drew.alloc (.cells (olds ++ (news ++ (Builtin.zeroCells zv.cells (cap - (hi' + m))).toList)).toArray el)) := by simp [builtin, hrun]
        refine new_does (ty := el) (cap := cap) (u := .slice (some ⟨w.heap.size, 0, none⟩) (hi' + m) cap) (ob := ⟨0, l.size, cpE (es.take hi') ++ new⟩) (v := fun m => .val false [.row m 0 (cpE (es.take hi') ++ new).length]) (c := (olds ++ (news ++ (Builtin.zeroCells zv.cells (cap - (hi' + m))).toList)).toArray) ok (fun h => by cases h) hrun' rfl rfl rfl rfl hrow (fun h => absurd rfl h) (fun i e j x hi hj => ?_) (fun m' φ' hφ => ⟨_, rfl, .row _ _ _ _ ?_⟩) k h
        · dsimp only at hi ⊢
          by_cases hlt2 : i < hi'
          · rw [List.getElem?_append_left (by simp only [cpE, List.length_map, htl]; exact hlt2)] at hi
            simp only [cpE, List.getElem?_map] at hi
            cases hq : (es.take hi')[i]? with
            | none => rw [hq] at hi; cases hi
            | some e0 =>
              rw [hq] at hi
              cases hi
              rw [List.getElem?_map] at hj
              cases hq2 : e0[j]? with
              | none => rw [hq2] at hj; cases hj
              | some x0 =>
                rw [hq2] at hj
                cases hj
                have h2 := (List.getElem?_eq_some_iff.1 hq2).1
                have h4 := hwd (e0.map cpA) (List.mem_append_left _ (List.mem_map.2 ⟨e0, List.mem_of_getElem? hq, rfl⟩))
                rw [List.length_map] at h4
                have h3 : i * l.size + j < hi' * l.size := idx_lt hlt2 (by omega)
                rw [arr_getD, getD_app, if_pos (by rw [ho5]; exact h3)]
                exact ho7 i e0 j x0 hq hq2
          · rw [List.getElem?_append_right (by simp only [cpE, List.length_map, htl]; omega)] at hi
            simp only [cpE, List.length_map, htl] at hi
            have := hs.app_nil (k := hi') hi hj (ls := olds) (rs := (Builtin.zeroCells zv.cells (cap - (hi' + m))).toList) ho5
            rw [show hi' + (i - hi') = i by omega, List.append_assoc] at this
            rw [arr_getD]; exact this
        · rw [hl2]
          exact RefRow.full (put1_self _ _) hφ hl2.symm
    · have h' : (Out.ex (fun es' : List (List A) => es.take hi' ++ new = es' ∧ es'.length < 2 ^ 30) fun es' => .rd (16 * (d + 1)) fun o => match o with
        | none => .ok (.val false [.row (16 * (d + 1)) 0 es'.length]) [(16 * (d + 1), some ⟨0, l.size, es'⟩), (n, none)]
        | some _ => .no).K true g (n :: rs') k := by
        match fl, hfl with
        | 0, _ => exact h
        | fl + 2, _ => exact h
      clear h
      obtain ⟨es', ⟨rfl, hlt⟩, h⟩ := h'
      dsimp only [Out.K] at h
      split at h
      · rename_i hm'
        obtain ⟨u', w', φ', hrun, ok', t', hr, h1, h2, h3, h4⟩ := append_over (z := l.zero) hT ok (t := t) (u := u) (ty := ty) ht' hu' hi hz hsz hzs hzone hby hn hf4 hm' r2 hh hs hlt
        exact ⟨_, h, fin hrun (by rw [putH_cons, putH_one]; exact ok') (by rw [putH_cons, putH_one]; exact t') (by rw [putH_cons, putH_one]; exact ⟨_, rfl, .row _ _ _ _ hr⟩) h1 h2 h3 h4⟩
      · exact h.elim
  · exact h.elim
end
end Go.Proofs.Ytfafehhallbjiaa.Ac
set_option linter.unusedVariables false
set_option linter.unusedSimpArgs false
namespace Go.Proofs.Ytfafehhallbjiaa.Ac
open Go.RowKit
section
variable {P : Program} {tb : Tab} {g : Hp} {φ : Phi} {w : World} {h : Array Obj} {H : Hp}
theorem fold_zip (off : Nat) : ∀ (vs : List Value) (k : Nat) (cs : Array Value), off + k + vs.length ≤ cs.size →
    ((vs.zipIdx k).foldl (fun (cs : Array Value) (x : Value × Nat) => cs.setIfInBounds (off + x.2) x.1) cs).toList = cs.toList.take (off + k) ++ vs ++ cs.toList.drop (off + k + vs.length)
  | [], k, cs, h => by simp
  | v :: vs, k, cs, h => by
    rw [List.zipIdx_cons, List.foldl_cons, fold_zip off vs (k + 1) _ (by simp at h ⊢; omega)]
    simp only [Array.toList_setIfInBounds, List.length_cons] at h ⊢
    apply List.ext_getElem?
    intro q
    have hl : (cs.toList.set (off + k) v).length = cs.size := by simp
    rw [show off + (k + 1) + vs.length = (off + (k + 1)) + vs.length by omega, seg_get (cs.toList.set (off + k) v) (off + (k + 1)) vs (by rw [hl]; omega)]
    rw [show off + k + (vs.length + 1) = (off + k) + (v :: vs).length by simp, seg_get cs.toList (off + k) (v :: vs) (by simp; omega)]
    simp only [List.length_cons]
    by_cases h1 : off + (k + 1) ≤ q ∧ q < off + (k + 1) + vs.length
    · rw [if_pos h1, if_pos (by omega), show q - (off + k) = (q - (off + (k + 1))) + 1 by omega]; rfl
    · rw [if_neg h1]
      by_cases h2 : q = off + k
      · subst h2
        rw [if_pos (by omega), Nat.sub_self, List.getElem?_set_self (by simp; omega)]; rfl
      · rw [if_neg (by omega), List.getElem?_set_ne (fun h => h2 h.symm)]
theorem fill_cons {place : Nat → Option (Nat × Nat)} {cells : Array Value} {i : Nat} {v : Value} {rest : List (Nat × Value)} {off : Nat} (hp : place i = some (off, v.cells.size)) (hle : off + v.cells.size ≤ cells.size) :
    Instr.fill place cells ((i, v) :: rest) = Instr.fill place (cells.toList.take off ++ v.cells.toList ++ cells.toList.drop (off + v.cells.toList.length)).toArray rest := by
  have h2 : ¬ (cells.size < off + v.cells.size) := by omega
  have hf := fold_zip off v.cells.toList 0 cells (by simpa using hle)
  simp only [Nat.add_zero] at hf
  have hz : v.cells.zipIdx.foldl (fun (cs : Array Value) (x : Value × Nat) => match x with | (c, j) => cs.setIfInBounds (off + j) c) cells = (cells.toList.take off ++ v.cells.toList ++ cells.toList.drop (off + v.cells.toList.length)).toArray := by
    rw [← Array.foldl_toList, Array.toList_zipIdx]
    apply Array.ext'
    exact hf
  simp only [Instr.fill, hp]
  rw [if_neg (by simp; omega)]
  exact congrArg (fun c => Instr.fill place c rest) hz
theorem build_elim {sz : Nat} {fs : List (Nat × Nat × Bool)} {place : Nat → Option (Nat × Nat)} (hpl : ∀ (f : Nat) (x : Nat × Nat × Bool), fs[f]? = some x → place f = some (x.1, x.2.1) ∧ x.1 + x.2.1 ≤ sz) : ∀ (ps : List (Nat × T)) (vs : List (Nat × Value)) (zs : List A) (cells : Array Value) (κ : List A → Out) (rs : List Nat) (k : Eff → Prop),
    ps.map (·.1) = vs.map (·.1) → (∀ (i : Nat) (x : Nat × T) (y : Nat × Value), ps[i]? = some x → vs[i]? = some y → RepT h H φ x.2 y.2) → cells.size = sz → RepC h H φ zs cells.toList → (buildK fs ps zs κ).K true g rs k →
    ∃ zs' cells', Instr.fill place cells vs = some cells' ∧ cells'.size = sz ∧ RepC h H φ zs' cells'.toList ∧ (κ zs').K true g rs k
  | [], vs, zs, cells, κ, rs, k, hk, hr, hs, hz, hK => by
    have : vs = [] := by simpa using hk.symm
    subst this
    exact ⟨zs, cells, rfl, hs, hz, hK⟩
  | (f, x) :: ps, [], zs, cells, κ, rs, k, hk, hr, hs, hz, hK => by simp at hk
  | (f, x) :: ps, (f', v) :: vs, zs, cells, κ, rs, k, hk, hr, hs, hz, hK => by
    simp only [List.map_cons, List.cons.injEq] at hk
    obtain ⟨rfl, hk⟩ := hk
    have r := hr 0 _ _ rfl rfl
    cases x with
    | val ag cs =>
      simp only [buildK] at hK
      split at hK
      · rename_i o s _ hf
        obtain ⟨h0, hK⟩ := cond_K hK
        have hcs := Nat.eq_of_beq_eq_true h0
        obtain ⟨hle, hK⟩ := splice_elim hK
        obtain ⟨hp, hsz⟩ := hpl f _ hf
        have rc := rep_cells r
        have hvl := rc.length
        have hv : v.cells.size = s := by rw [← hcs, ← hvl]; simp
        have hfc := fill_cons (place := place) (i := f) (off := o) (rest := vs) (v := v) (cells := cells) (by rw [hp, hv]) (by rw [hv, hs]; exact hsz)
        rw [hfc]
        have hl := hz.length
        refine build_elim hpl ps vs _ _ κ rs k hk (fun i x y h1 h2 => hr (i + 1) x y h1 h2) ?_ ?_ hK
        · simp only [List.size_toArray, List.length_append, List.length_take, List.length_drop, Array.length_toList, hv]; dsimp only at hsz ⊢; omega
        · have e1 : (cells.toList.take o ++ v.cells.toList ++ cells.toList.drop (o + v.cells.toList.length)).toArray.toList = cells.toList.take o ++ v.cells.toList ++ cells.toList.drop (o + v.cells.toList.length) := by simp
          rw [e1, hvl]
          exact ((hz.take o).append rc).append (hz.drop _)
      · exact hK.elim
    | tu _ => exact hK.elim
    | bot => exact hK.elim
theorem places_run {fields : Array Field} {fs : List (Nat × Nat × Bool)} (hlen : fs.length = fields.size) (hfs : ∀ (f : Nat) (x : Nat × Nat × Bool), fs[f]? = some x → ∃ fd inf', fields[f]? = some fd ∧ fd.offset = x.1 ∧ P.info? fd.type = some inf' ∧ inf'.size = x.2.1) :
    (fields.mapM (m := Sem) fun f => do pure (f.offset, ← sizeOf f.type)).run P w = .ok (fs.map fun x => (x.1, x.2.1)).toArray w := by
  have key : ∀ (l : List Field) (k : Nat) (fs : List (Nat × Nat × Bool)), l.length = fs.length → (∀ (f : Nat) (x : Nat × Nat × Bool), fs[f]? = some x → ∃ fd inf', l[f]? = some fd ∧ fd.offset = x.1 ∧ P.info? fd.type = some inf' ∧ inf'.size = x.2.1) →
      (l.mapM (m := Sem) fun f => do pure (f.offset, ← sizeOf f.type)).run P w = .ok (fs.map fun x => (x.1, x.2.1)) w := by
    intro l
    induction l with
    | nil => intro k fs hl _; have : fs = [] := List.eq_nil_of_length_eq_zero hl.symm; subst this; simp
    | cons fd l ih =>
      intro k fs hl hx
      cases fs with
      | nil => simp at hl
      | cons x fs =>
        obtain ⟨fd', inf', h1, h2, h3, h4⟩ := hx 0 x rfl
        cases h1
        have := ih (k + 1) fs (by simpa using hl) fun f x hf => hx (f + 1) x hf
        simp only [List.mapM_cons, Sem.run_bind, sizeOf, typeInfo, run_program, h3, Sem.run_pure, Result.andThen_ok]
        simp only [sizeOf, typeInfo] at this
        rw [this]
        simp [h2, h4]
  rw [← Array.toArray_toList (xs := fields), List.mapM_toArray]
  have := key fields.toList 0 fs (by simp [hlen]) fun f x hf => by
    obtain ⟨fd, inf', h1, h2⟩ := hfs f x hf
    exact ⟨fd, inf', by simpa using h1, h2⟩
  simp only [Functor.map, Sem.run_map, Sem.run_bind', this]
  rfl
theorem struct_does (hT : TabOK P tb) (ok : HeapOK w.heap g φ) {t : TypeId} {l : Lay} (hl : tb t = some l) {ps : List (Nat × T)} {vs : List (Nat × Value)} (hk : ps.map (·.1) = vs.map (·.1))
    (hr : ∀ (i : Nat) (x : Nat × T) (y : Nat × Value), ps[i]? = some x → vs[i]? = some y → RepT w.heap g φ x.2 y.2) (rs : List Nat) : DoesO P w g φ (do pure (.value (← Instr.build t vs.toArray))) rs (buildO l ps) := by
  intro k h
  unfold buildO at h
  split at h
  · rename_i sz z fs bt
    obtain ⟨inf, fields, zv, hu, hi, hs, hz, rfl, h1, h2, _, hfl, hfs⟩ := hT.st t _ _ _ _ hl
    have hpl : ∀ (f : Nat) (x : Nat × Nat × Bool), fs[f]? = some x → (fun f => ((fs.map fun x => (x.1, x.2.1)).toArray)[f]?) f = some (x.1, x.2.1) ∧ x.1 + x.2.1 ≤ sz := fun f x hf => by
      obtain ⟨fd, inf', _, _, _, _, _, g1, _⟩ := hfs f x hf
      exact ⟨by simp [hf], g1⟩
    obtain ⟨zs', cells', hf, hs', hr', h⟩ := build_elim (h := w.heap) (H := g) (φ := φ) hpl ps vs _ zv _ rs k hk hr h2 (constC_ok h1) h
    have hp := places_run (P := P) (w := w) hfl fun f x hf => by
      obtain ⟨fd, inf', g1, g2, g3, g4, _⟩ := hfs f x hf
      exact ⟨fd, inf', g1, g2, g3, g4⟩
    refine ⟨_, h, Does.value ok (u := .agg cells') ?_ ⟨_, rfl, hr'⟩⟩
    simp only [Instr.build, zeroValue, typeInfo, Sem.run_bind, run_program, hi, hz, Sem.run_pure, Result.andThen_ok, run_underlying hu, Value.cells]
    simp only [sizeOf, typeInfo] at hp
    simp only [sizeOf, typeInfo, hp, Result.andThen_ok]
    rw [show Instr.fill (fun x => ((fs.map fun x => (x.1, x.2.1)).toArray)[x]?) zv vs = some cells' from hf]
    rfl
  · exact h.elim
end
end Go.Proofs.Ytfafehhallbjiaa.Ac
set_option linter.unusedVariables false
set_option linter.unusedSimpArgs false
namespace Go.Proofs.Ytfafehhallbjiaa.Ac
open Go.RowKit
section
variable {P : Program} {tb : Tab} {g : Hp} {φ : Phi} {w : World} {h : Array Obj} {H : Hp}
theorem zero_get {z : Array Value} {n sz i j : Nat} (hz : z.size = sz) (hi : i < n) (hj : j < sz) : (Builtin.zeroCells z n).getD (i * sz + j) undef = z.getD j undef := by
  have h1 : i * sz + j < n * z.size := by rw [hz]; exact idx_lt hi hj
  have h2 : (i * sz + j) % sz = j := by rw [Nat.add_comm, Nat.add_mul_mod_self_right]; exact Nat.mod_eq_of_lt hj
  have h3 : i * sz + j < n * sz := hz ▸ h1
  simp [Builtin.zeroCells, Array.getD_eq_getD_getElem?, h3, hz, h2, hj]
theorem zero_arr {z : Array Value} {n sz : Nat} (hz : z.size = sz) : (Array.range (n * sz)).map (fun i => (if n * sz = 0 then (#[] : Array Value) else z)[i % (if n * sz = 0 then (#[] : Array Value) else z).size]!) = Builtin.zeroCells z n := by
  by_cases h0 : n * sz = 0
  · simp [h0, Builtin.zeroCells, hz]
  · simp [h0, Builtin.zeroCells, hz]
theorem makeSlice_does (hT : TabOK P tb) (ok : HeapOK w.heap g φ) {d : Nat} {t el : TypeId} {z : A} {bt : Nat} {l : Lay} (ht : tb t = some (.w (.slice el) z bt)) (hl : tb el = some l) {x y : T} {u v : Value} (hx : RepT w.heap g φ x u) (hy : RepT w.heap g φ y v) (rs : List Nat) :
    DoesO P w g φ (do pure (.value (← Instr.makeSlice t u v))) rs (makeSliceO d l x y) := by
  obtain ⟨ht', _⟩ := hT.w t _ z bt ht
  obtain ⟨inf, zv, hi, hsz, hbt, hz, hzs, hzr⟩ := tab_zero hT hl w.heap g φ
  intro k h
  unfold makeSliceO at h
  split at h
  · rename_i i1 z1 i2 z2
    cases v_rep hx
    cases v_rep hy
    obtain ⟨h0, h⟩ := cond_K h
    obtain ⟨⟨n, c⟩, ⟨rfl, rfl, hnc, hc⟩, hA⟩ := h
    dsimp only at hnc hc hA
    simp only [Bool.and_eq_true] at h0
    have hpos : 0 < l.size := by have := h0.1; simpa [Nat.blt, Nat.lt_iff_add_one_le] using this
    have hby : inf.bytes ≤ 65536 := by rw [hbt]; exact Nat.le_of_ble_eq_true h0.2
    have hcm : inf.bytes * c ≤ 65536 * 2 ^ 30 := Nat.mul_le_mul hby (Nat.le_of_lt hc)
    have w1 : IntKind.i64.wrap (n : Int) = n := by rw [IntKind.wrap_i64]; omega
    have w2 : IntKind.i64.wrap (c : Int) = c := by rw [IntKind.wrap_i64]; omega
    have e1 : ¬ ((inf.bytes : Int) * (c : Int) > 281474976710656) := by
      rw [← Int.natCast_mul]; omega
    have hrun : (do pure (.value (← Instr.makeSlice t (.int i1 n) (.int i2 c))) : Sem Next).run P w = .ok (.value (.slice (some ⟨w.heap.size, 0, none⟩) n c)) (w.alloc (.cells (Builtin.zeroCells zv.cells c) el)) := by
      have e2 : ¬ ((c : Int) < 0) := by omega
      have e3 : ¬ ((n : Int) < 0) := by omega
      have e4 : ¬ ((n : Int) > (c : Int)) := by omega
      have e5 : ¬ (c * inf.bytes > 140737488355328) := by rw [Nat.mul_comm]; omega
      have hza := zero_arr (n := c) hzs
      rw [← hsz] at hza
      by_cases h0 : c * inf.size = 0
      · simp [Instr.makeSlice, run_underlying ht', asInt, asIntOf, typeInfo, hi, w1, w2, askRoom, roomBytes, sizeOf, zeroValue, hz, newRow, e1, e2, e3, e4, e5, h0]
        have hc0 : c = 0 := by
          rcases Nat.mul_eq_zero.1 h0 with h | h
          · exact h
          · omega
        subst hc0
        have e9 : ∀ f : Nat → Value, Array.map f (Array.range 0) = #[] := fun f => by simp [Array.range]
        simp only [Builtin.zeroCells, Nat.zero_mul, e9]
      · simp [Instr.makeSlice, run_underlying ht', asInt, asIntOf, typeInfo, hi, w1, w2, askRoom, roomBytes, sizeOf, zeroValue, hz, newRow, e1, e2, e3, e4, e5, h0]
        rw [hsz, ← hzs]; rfl
    obtain ⟨hr1, hr2⟩ : RowOK l.size (List.replicate n l.zero) ⟨w.heap.size, 0, c⟩ (Builtin.zeroCells zv.cells c) ∧ ∀ i e j x, (List.replicate n l.zero)[i]? = some e → e[j]? = some x → RepE w.heap g φ x ((Builtin.zeroCells zv.cells c).getD (i * l.size + j) undef) := by
      have hzl := hzr.length
      refine ⟨⟨hpos, fun e he => ?_, by simpa using hnc, by simp only [maxLen]; omega, by rw [size_zeroCells, hzs]; simp, fun k hk => zero_one hzr.one hk⟩, fun i e j x hi hj => ?_⟩
      · rw [List.eq_of_mem_replicate he, ← hzl]; simpa using hzs
      · have hin : i < n := by have := (List.getElem?_eq_some_iff.1 hi).1; simpa using this
        rw [List.getElem?_replicate, if_pos hin] at hi
        cases hi
        have hjl := (List.getElem?_eq_some_iff.1 hj).1
        obtain ⟨u, hu, ru⟩ := hzr.at hj
        rw [zero_get hzs (by omega) (by rw [← hzl] at hjl; simpa [hzs] using hjl)]
        have : zv.cells.getD j undef = u := by simp [show zv.cells[j]? = some u by simpa using hu]
        rw [this]; exact ru
    refine new_does (ob := ⟨0, l.size, List.replicate n l.zero⟩) (v := fun m => .val false [.row m 0 n]) (ty := el) (cap := c) ok (fun h => by cases h) hrun rfl rfl rfl rfl hr1 (fun h => absurd rfl h) hr2 (fun m φ' hφ => ⟨_, rfl, .row _ _ _ _ ?_⟩) k hA
    exact RefRow.full (put1_self _ _) hφ (by simp)
  · exact h.elim
theorem lit_elim {l : Lay} {ps : List (Nat × T)} {k : Eff → Prop} : ∀ (n i : Nat) (κ : List (List A) → Out) (rs : List Nat), (litK l ps i n κ).K true g rs k → l.zero.length = l.size →
    ∃ es, (κ es).K true g rs k ∧ es.length = n ∧ ∀ (q : Nat) (e : List A), es[q]? = some e → e.length = l.size ∧ ((∃ ag, get ps (i + q) = some (.val ag e)) ∨ get ps (i + q) = none ∧ e = l.zero)
  | 0, i, κ, rs, h, hz => ⟨[], h, rfl, fun q e he => by simp at he⟩
  | n + 1, i, κ, rs, h, hz => by
    have step : ∀ {e : List A}, e.length = l.size → ((∃ ag, get ps i = some (.val ag e)) ∨ get ps i = none ∧ e = l.zero) → (litK l ps (i + 1) n fun r => κ (e :: r)).K true g rs k →
        ∃ es, (κ es).K true g rs k ∧ es.length = n + 1 ∧ ∀ (q : Nat) (e : List A), es[q]? = some e → e.length = l.size ∧ ((∃ ag, get ps (i + q) = some (.val ag e)) ∨ get ps (i + q) = none ∧ e = l.zero) := by
      intro e he1 he2 h
      obtain ⟨es, h1, h2, h3⟩ := lit_elim n (i + 1) _ rs h hz
      refine ⟨e :: es, h1, by simp [h2], fun q e' he' => ?_⟩
      cases q with
      | zero => cases he'; exact ⟨he1, he2⟩
      | succ q =>
        have := h3 q e' he'
        rw [show i + 1 + q = i + (q + 1) by omega] at this
        exact this
    simp only [litK] at h
    split at h
    · rename_i ag cs hg
      obtain ⟨h0, h⟩ := cond_K h
      exact step (Nat.eq_of_beq_eq_true h0) (.inl ⟨ag, hg⟩) h
    · exact h.elim
    · rename_i hg; exact step hz (.inr ⟨hg, rfl⟩) h
theorem fill_rows {sz n : Nat} : ∀ (vs : List (Nat × Value)) (cells : Array Value), cells.size = n * sz → (∀ p ∈ vs, p.1 < n ∧ p.2.cells.size = sz) → nodupB (vs.map (·.1)) = true → ∃ cells', Instr.fill (fun i => some (i * sz, sz)) cells vs = some cells' ∧ cells'.size = n * sz ∧
    ∀ i j, i < n → j < sz → cells'.getD (i * sz + j) undef = match get vs i with
      | some v => v.cells.getD j undef
      | none => cells.getD (i * sz + j) undef
  | [], cells, hs, _, _ => ⟨cells, rfl, hs, fun i j _ _ => rfl⟩
  | (q, v) :: vs, cells, hs, hp, hd => by
    obtain ⟨hq, hv⟩ := hp (q, v) List.mem_cons_self
    dsimp only at hq hv
    simp only [List.map_cons, nodupB] at hd
    have hfit : q * sz + v.cells.size ≤ cells.size := by
      rw [hv, hs, ← Nat.succ_mul]; exact Nat.mul_le_mul_right _ hq
    rw [fill_cons (off := q * sz) (by rw [hv]) hfit]
    have hvl : v.cells.toList.length = sz := by simpa using hv
    have hs2 : ((cells.toList.take (q * sz) ++ v.cells.toList ++ cells.toList.drop (q * sz + v.cells.toList.length)).toArray).size = n * sz := by
      simp only [List.size_toArray, List.length_append, List.length_take, List.length_drop, Array.length_toList]; omega
    cases hm : memN q (vs.map (·.1)) with
    | true => rw [hm] at hd; cases hd
    | false =>
      rw [hm] at hd
      obtain ⟨cells', h1, h2, h3⟩ := fill_rows vs _ hs2 (fun p h => hp p (List.mem_cons_of_mem _ h)) hd
      refine ⟨cells', h1, h2, fun i j hi hj => ?_⟩
      rw [h3 i j hi hj, seg_getD cells (q * sz) v.cells.toList (by rw [hvl]; rw [hv] at hfit; exact hfit)]
      have ev : ∀ k, v.cells.toList.getD k undef = v.cells.getD k undef := fun k => by simp [List.getD_eq_getElem?_getD]
      simp only [get]
      by_cases hqi : q = i
      · subst hqi
        rw [Nat.beq_refl, cond_true, get_none (by intro hc; rw [memN_iff.2 hc] at hm; cases hm)]
        dsimp only
        rw [if_pos (by omega), show q * sz + j - q * sz = j by omega, ev]
      · rw [beq_false hqi, cond_false]
        cases get vs i with
        | some v' => rfl
        | none =>
          dsimp only
          rw [if_neg]
          rw [hvl]
          rintro ⟨a1, a2⟩
          rcases Nat.lt_or_gt_of_ne hqi with hlt | hgt
          · have := Nat.mul_le_mul_right sz (Nat.succ_le_of_lt hlt)
            rw [Nat.succ_mul] at this; omega
          · have := idx_lt hgt hj; omega
theorem get_map {ps : List (Nat × T)} {vs : List (Nat × Value)} (hk : ps.map (·.1) = vs.map (·.1)) (hr : ∀ (i : Nat) (x : Nat × T) (y : Nat × Value), ps[i]? = some x → vs[i]? = some y → RepT h H φ x.2 y.2) (i : Nat) :
    (get ps i = none ∧ get vs i = none) ∨ ∃ x v, get ps i = some x ∧ get vs i = some v ∧ RepT h H φ x v := by
  induction ps generalizing vs with
  | nil =>
    have : vs = [] := by simpa using hk.symm
    subst this; exact .inl ⟨rfl, rfl⟩
  | cons p ps ih =>
    cases vs with
    | nil => simp at hk
    | cons v vs =>
      obtain ⟨a, x⟩ := p
      obtain ⟨b, v⟩ := v
      simp only [List.map_cons, List.cons.injEq] at hk
      obtain ⟨rfl, hk⟩ := hk
      simp only [get]
      cases hb : Nat.beq a i
      · exact ih hk fun i x y h1 h2 => hr (i + 1) x y h1 h2
      · exact .inr ⟨x, v, rfl, rfl, hr 0 _ _ rfl rfl⟩
theorem mem_get {ps : List (Nat × T)} {i : Nat} {x : T} (h : (i, x) ∈ ps) (hd : nodupB (ps.map (·.1)) = true) : get ps i = some x := by
  induction ps with
  | nil => cases h
  | cons p ps ih =>
    obtain ⟨a, y⟩ := p
    simp only [List.map_cons, nodupB] at hd
    cases hm : memN a (ps.map (·.1)) with
    | true => rw [hm] at hd; cases hd
    | false =>
      rw [hm] at hd
      simp only [get]
      rcases List.mem_cons.1 h with h | h
      · cases h; rw [Nat.beq_refl]; rfl
      · have : a ≠ i := fun e => by
          subst e
          have : a ∈ ps.map (·.1) := List.mem_map.2 ⟨_, h, rfl⟩
          rw [memN_iff.2 this] at hm; cases hm
        rw [beq_false this]; exact ih h hd
theorem rows_does (hT : TabOK P tb) (ok : HeapOK w.heap g φ) {d n : Nat} {t el : TypeId} {z : A} {bt : Nat} {l : Lay} (ht : tb t = some (.w (.slice el) z bt)) (hl : tb el = some l) {ps : List (Nat × T)} {vs : List (Nat × Value)} (hk : ps.map (·.1) = vs.map (·.1))
    (hr : ∀ (i : Nat) (x : Nat × T) (y : Nat × Value), ps[i]? = some x → vs[i]? = some y → RepT w.heap g φ x.2 y.2) (rs : List Nat) : DoesO P w g φ (do pure (.value (← Instr.buildSlice t n vs.toArray))) rs (buildSliceO d l n ps) := by
  obtain ⟨ht', _⟩ := hT.w t _ z bt ht
  obtain ⟨inf, zv, hi, hsz, hbt, hz, hzs, hzr⟩ := tab_zero hT hl w.heap g φ
  intro k h
  unfold buildSliceO at h
  obtain ⟨h0, hA⟩ := cond_K h
  clear h
  simp only [Bool.and_eq_true] at h0
  obtain ⟨⟨⟨h01, h02⟩, h03⟩, h04⟩ := h0
  have hpos : 0 < l.size := by simpa [Nat.blt, Nat.lt_iff_add_one_le] using h01
  have hzl := hzr.length
  obtain ⟨es, h, hlen, hes⟩ := lit_elim n 0 _ rs hA (by rw [← hzl]; simpa using hzs)
  have hsmall : n * l.size ≤ 65536 := Nat.le_of_ble_eq_true h04
  have hmemn : ∀ p ∈ ps, p.1 < n := fun p hp => by
    have := List.all_eq_true.1 h03 p hp
    simpa [Nat.blt, Nat.lt_iff_add_one_le] using this
  -- each part is as long as an element
  have hsv : ∀ p ∈ vs, p.1 < n ∧ p.2.cells.size = l.size := by
    intro p hp
    obtain ⟨i, hi, rfl⟩ := List.mem_iff_getElem.1 hp
    have hli : i < ps.length := by have := congrArg List.length hk; simp at this; omega
    have hv : vs[i]? = some vs[i] := List.getElem?_eq_getElem hi
    have hx : ps[i]? = some ps[i] := List.getElem?_eq_getElem hli
    have e1 : ps[i].1 = vs[i].1 := by
      have := congrArg (·[i]?) hk
      simpa [hx, hv] using this
    have hn := hmemn _ (List.getElem_mem hli)
    refine ⟨e1 ▸ hn, ?_⟩
    have r := hr i _ _ hx hv
    have hg := mem_get (i := ps[i].1) (x := ps[i].2) (List.getElem_mem hli) h02
    obtain ⟨e, he⟩ : ∃ e, es[ps[i].1]? = some e := ⟨es[ps[i].1]'(by omega), List.getElem?_eq_getElem _⟩
    obtain ⟨g1, g2⟩ := hes _ _ he
    rw [Nat.zero_add, hg] at g2
    rcases g2 with ⟨ag, g2⟩ | ⟨g2, _⟩
    · rw [Option.some.inj g2] at r
      have := (rep_cells r).length
      rw [g1] at this
      simpa using this
    · cases g2
  obtain ⟨cells', hf, hs', hget⟩ := fill_rows (sz := l.size) (n := n) vs (Builtin.zeroCells zv.cells n) (by rw [size_zeroCells, hzs]) hsv (by rw [← hk]; exact h02)
  have hrun : (do pure (.value (← Instr.buildSlice t n vs.toArray)) : Sem Next).run P w = .ok (.value (.slice (some ⟨w.heap.size, 0, none⟩) n n)) (w.alloc (.cells cells' el)) := by
    have e1 : ¬ (n * inf.size > 16777216) := by rw [hsz]; omega
    have hza := zero_arr (n := n) hzs
    rw [← hsz] at hza hf
    by_cases h0 : n * inf.size = 0
    · rw [h0] at hza
      simp only [if_true] at hza
      simp [Instr.buildSlice, run_underlying ht', sizeOf, typeInfo, zeroValue, hi, hz, h0, newRow]
      simp at hza
      rw [hza, hf]
      simp [Instr.buildSlice, newRow]
    · simp only [h0, if_false] at hza
      simp [Instr.buildSlice, run_underlying ht', sizeOf, typeInfo, zeroValue, hi, hz, h0, newRow, e1]
      rw [hza, hf]
      simp [newRow]
  have key : ∀ (i : Nat) (e : List A) (j : Nat) (x : A), es[i]? = some e → e[j]? = some x → RepE w.heap g φ x (cells'.getD (i * l.size + j) undef) := by
    intro i e j x hi hj
    have hin : i < n := by have := (List.getElem?_eq_some_iff.1 hi).1; omega
    obtain ⟨g1, g2⟩ := hes i e hi
    have hjl := (List.getElem?_eq_some_iff.1 hj).1
    rw [g1] at hjl
    rw [hget i j hin hjl]
    rw [Nat.zero_add] at g2
    have fin : ∀ {cs : Array Value}, RepC w.heap g φ e cs.toList → RepE w.heap g φ x (cs.getD j undef) := by
      intro cs hc
      obtain ⟨u, hu, ru⟩ := hc.at hj
      have : cs.getD j undef = u := by simp [show cs[j]? = some u by simpa using hu]
      rw [this]; exact ru
    rcases get_map hk hr i with ⟨a1, a2⟩ | ⟨x', v', a1, a2, a3⟩
    · rw [a2]
      rcases g2 with ⟨ag, g2⟩ | ⟨_, rfl⟩
      · rw [a1] at g2; cases g2
      · dsimp only
        rw [zero_get hzs hin hjl]
        exact fin hzr
    · rw [a2]
      rcases g2 with ⟨ag, g2⟩ | ⟨g2, _⟩
      · rw [a1] at g2
        cases g2
        exact fin (rep_cells a3)
      · rw [a1] at g2; cases g2
  refine new_does (ob := ⟨2, l.size, es⟩) (v := fun m => .val false [.row m 0 n]) (ty := el) (cap := n) (u := .slice (some ⟨w.heap.size, 0, none⟩) n n) ok (fun h => by cases h) hrun rfl rfl rfl rfl ⟨hpos, fun e he => ?_, by dsimp only; omega, by simp only [maxLen]; have := Nat.le_mul_of_pos_right n hpos; omega, by rw [hs']; simp, fun q hq => ?_⟩ (fun _ => hlen) key (fun m φ' hφ => ⟨_, rfl, .row _ _ _ _ ?_⟩) k h
  · obtain ⟨i, hi, rfl⟩ := List.mem_iff_getElem.1 he
    exact (hes i _ (List.getElem?_eq_getElem hi)).1
  · rw [hs'] at hq
    have hd : q / l.size < n := Nat.div_lt_of_lt_mul (by rw [Nat.mul_comm]; exact hq)
    have hm : q % l.size < l.size := Nat.mod_lt _ hpos
    have he : (es[q / l.size]'(by omega)).length = l.size := (hes _ _ (List.getElem?_eq_getElem _)).1
    have := (key (q / l.size) (es[q / l.size]'(by omega)) (q % l.size) ((es[q / l.size]'(by omega))[q % l.size]'(by omega)) (List.getElem?_eq_getElem _) (List.getElem?_eq_getElem _)).one
    have e1 : q / l.size * l.size + q % l.size = q := by have := Nat.div_add_mod q l.size; rw [Nat.mul_comm] at this; exact this
    rw [e1] at this; exact this
  · exact RefRow.full (put1_self _ _) hφ hlen.symm
end
end Go.Proofs.Ytfafehhallbjiaa.Ac
