/- Several of our texts, one behind the other, without what this claim does not need: AcU, AcV. -/
import Derived.Test.YtecnmodeggnjoaaGreatZb3b8a6be
set_option linter.unusedVariables false
set_option linter.unusedSimpArgs false
namespace Go.Proofs.YtecnmodeggnjoaaGreat.Ac
open Go.RowKit
mutual
/-- A cell in which nothing hangs on memory, but for rows. -/
def plA : A → Prop
  | .f (.v _) => True
  | .f (.sl _ []) => True
  | .f _ => False
  | .nl => True
  | .un _ => True
  | .row _ _ _ => True
  | .pt _ _ _ => True
  | .mp _ => False
  | .ow _ es => plR es
  | .cl _ _ => False
def plC : List A → Prop
  | [] => True
  | x :: l => plA x ∧ plC l
def plR : List (List A) → Prop
  | [] => True
  | e :: l => plC e ∧ plR l
end
def plVs : List (Bool × List A) → Prop
  | [] => True
  | x :: l => plC x.2 ∧ plVs l
def plH : Hs → Prop
  | [] => True
  | (_, some ob) :: l => plR ob.es ∧ plH l
  | (_, none) :: l => plH l
theorem plC_at : ∀ {l : List A}, plC l → ∀ {x : A}, x ∈ l → plA x
  | [], _, _, hx => by cases hx
  | y :: l, h, x, hx => by
    rcases List.mem_cons.1 hx with rfl | hx
    · exact h.1
    · exact plC_at h.2 hx
theorem plR_at : ∀ {l : List (List A)}, plR l → ∀ {x : List A}, x ∈ l → plC x
  | [], _, _, hx => by cases hx
  | y :: l, h, x, hx => by
    rcases List.mem_cons.1 hx with rfl | hx
    · exact h.1
    · exact plR_at h.2 hx
theorem plH_at : ∀ {l : Hs}, plH l → ∀ {n : Nat} {ob : Ob}, (n, some ob) ∈ l → plR ob.es
  | [], _, _, _, hx => by cases hx
  | (m, some o) :: l, h, n, ob, hx => by
    rcases List.mem_cons.1 hx with hx | hx
    · cases hx; exact h.1
    · exact plH_at h.2 hx
  | (m, none) :: l, h, n, ob, hx => by
    rcases List.mem_cons.1 hx with hx | hx
    · cases hx
    · exact plH_at (l := l) h hx
def rnOb (r : List (Nat × Nat)) (o : Option Ob) : Option Ob := o.map fun ob => ⟨ob.fl, ob.wd, rnR r ob.es⟩
def rnH (r : List (Nat × Nat)) (H : Hs) : Hs := H.map fun x => (rn r x.1, rnOb r x.2)
section
variable {P : Program} {fz : Bool} {r r1 : List (Nat × Nat)} {H0 H1 : Hs} {h h' : Array Obj} {g : Hp} {φ φ1 : Phi} {out : Nat → Prop}
structure CallOK (fz : Bool) (r r1 : List (Nat × Nat)) (H0 H1 : Hs) (g : Hp) (φ : Phi) (out : Nat → Prop) : Prop where
  o : OutOK fz r H0 g φ out
  outs : ∀ b, φ.out b → out b
  rest : fz = false → ∀ X hd, φ X = some hd → (∀ n ob, get H0 n = some (some ob) → rn r n ≠ X.1) → out hd.b
  same : ∀ n, hasN H0 n = true → rn r1 n = rn r n
  fresh : ∀ n, hasN H1 n = true → hasN H0 n = false → g (rn r1 n) = none
  inj : nodupB (H1.map fun x => rn r1 x.1) = true
  dom : ∀ n, hasN H0 n = true → hasN H1 n = true
open Classical in
noncomputable def phC (r1 : List (Nat × Nat)) (H1 : Hs) (φ φ1 : Phi) : Phi := ⟨fun X => if hc : ∃ c, hasN H1 c = true ∧ rn r1 c = X.1 then (match get H1 hc.choose with
  | some (some _) => φ1 (hc.choose, X.2)
  | _ => none) else φ X, φ.out⟩
variable (k : CallOK fz r r1 H0 H1 g φ out)
include k
theorem nm_inj {m n : Nat} (hm : hasN H1 m = true) (hn : hasN H1 n = true) (e : rn r1 m = rn r1 n) : m = n := by
  unfold hasN at hm hn
  split at hm
  · rename_i o1 h1
    split at hn
    · rename_i o2 h2
      exact nodupB_inj k.inj (get_mem h1) (get_mem h2) e
    · cases hn
  · cases hm
theorem phC_at {c : Nat} (hc : hasN H1 c = true) (q : List (Nat × Nat)) : (phC r1 H1 φ φ1) (rn r1 c, q) = match get H1 c with
    | some (some _) => φ1 (c, q)
    | _ => none := by
  have ex : ∃ c', hasN H1 c' = true ∧ rn r1 c' = rn r1 c := ⟨c, hc, rfl⟩
  have hch := ex.choose_spec
  have e : ex.choose = c := nm_inj k hch.1 hc hch.2
  simp only [phC, dif_pos ex, e]
omit k in
theorem phC_ne {X : Place} (hX : ∀ c, hasN H1 c = true → rn r1 c ≠ X.1) : (phC r1 H1 φ φ1) X = φ X := by
  have : ¬ ∃ c, hasN H1 c = true ∧ rn r1 c = X.1 := fun ⟨c, h1, h2⟩ => hX c h1 h2
  simp only [phC, dif_neg this]
theorem phC_some {X : Place} {hd : Hd} (hX : (phC r1 H1 φ φ1) X = some hd) : (∃ c ob, get H1 c = some (some ob) ∧ rn r1 c = X.1 ∧ φ1 (c, X.2) = some hd) ∨ ((∀ c, hasN H1 c = true → rn r1 c ≠ X.1) ∧ φ X = some hd) := by
  by_cases hc : ∃ c, hasN H1 c = true ∧ rn r1 c = X.1
  · obtain ⟨c, h1, h2⟩ := hc
    have := phC_at (φ := φ) (φ1 := φ1) k h1 X.2
    rw [h2] at this
    rw [show (phC r1 H1 φ φ1) X = _ from this] at hX
    split at hX
    · rename_i ob hg; exact .inl ⟨c, ob, hg, h2, hX⟩
    · cases hX
  · have hn : ∀ c, hasN H1 c = true → rn r1 c ≠ X.1 := fun c h1 h2 => hc ⟨c, h1, h2⟩
    rw [phC_ne hn] at hX
    exact .inr ⟨hn, hX⟩
omit k in
theorem get_rnH {n : Nat} (hn : ∀ c, hasN H1 c = true → rn r1 c ≠ n) : get (rnH r1 H1) n = none := by
  refine get_none fun hm => ?_
  simp only [rnH, List.map_map] at hm
  obtain ⟨x, hx, e⟩ := List.mem_map.1 hm
  refine hn x.1 ?_ e
  unfold hasN
  cases hg : get H1 x.1 with
  | some _ => rfl
  | none =>
    exfalso
    have : ∀ (l : Hs), x ∈ l → get l x.1 ≠ none := by
      intro l
      induction l with
      | nil => intro h; cases h
      | cons y l ih =>
        intro h
        simp only [get]
        cases hb : Nat.beq y.1 x.1
        · rcases List.mem_cons.1 h with rfl | h
          · simp at hb
          · exact ih h
        · simp
    exact this H1 hx hg
omit k in
theorem get_rnH_at (hinj : nodupB (H1.map fun x => rn r1 x.1) = true) {c : Nat} {o : Option Ob} (hc : get H1 c = some o) : get (rnH r1 H1) (rn r1 c) = some (rnOb r1 o) := by
  have : ∀ (l : Hs), (∀ x ∈ l, x ∈ H1) → get l c = some o → get (rnH r1 l) (rn r1 c) = some (rnOb r1 o) := by
    intro l
    induction l with
    | nil => intro _ h; cases h
    | cons y l ih =>
      intro hl h
      simp only [rnH, List.map_cons, get] at h ⊢
      cases hb : Nat.beq y.1 c
      · rw [hb] at h
        have hne : rn r1 y.1 ≠ rn r1 c := fun e => by
          have := nodupB_inj hinj (hl y List.mem_cons_self) (get_mem hc) e
          rw [this] at hb; simp at hb
        rw [beq_false hne]
        exact ih (fun x hx => hl x (List.mem_cons_of_mem _ hx)) h
      · rw [hb] at h
        have := Nat.eq_of_beq_eq_true hb
        rw [this, Nat.beq_refl]
        simp only [cond_true, Option.some.injEq] at h ⊢
        rw [h]
  exact this H1 (fun x hx => hx) hc
theorem putH_at {c : Nat} {o : Option Ob} (hc : get H1 c = some o) : putH (rnH r1 H1) g (rn r1 c) = some (rnOb r1 o) := by
  simp only [putH, get_rnH_at k.inj hc]
omit k in
theorem putH_off {n : Nat} (hn : ∀ c, hasN H1 c = true → rn r1 c ≠ n) : putH (rnH r1 H1) g n = g n := by
  simp only [putH, get_rnH hn]
omit k in
theorem has_of {c : Nat} {o : Option Ob} (hc : get H1 c = some o) : hasN H1 c = true := by unfold hasN; rw [hc]
variable (ok : HeapOK h g φ) (hH : subH fz r g H0 H0) (ok1 : HeapOK h' (get H1) φ1) (t : Turn h (get H0) (ph r H0 g φ out) h' (get H1) φ1)
include ok hH ok1 t
omit hH ok1 in
theorem off_keep {X : Place} {hd : Hd} (hX : φ X = some hd) (hn : ∀ c, hasN H1 c = true → rn r1 c ≠ X.1) : ¬ Own0 φ1 hd.b ∧ h'[hd.b]? = h[hd.b]? := by
  refine t.blk0 hd.b (ok.lt X hd hX) ?_
  rintro ⟨Y, hd2, hY, hb⟩
  obtain ⟨h1, ob', h2⟩ := ph_some hY
  have := ok.inj _ _ _ _ h1 hX hb
  have h0 : hasN H0 Y.1 = true := by unfold hasN; rw [h2]
  exact hn Y.1 (k.dom _ h0) (by rw [k.same _ h0]; exact congrArg Prod.fst this)
omit ok ok1 in
theorem turnC : Turn h g φ h' (putH (rnH r1 H1) g) (phC r1 H1 φ φ1) := by
  refine ⟨rfl, fun b hb hO => ?_, fun n hn => ?_, fun n ob hn => ?_⟩
  · have hOc : ¬ Own0 (ph r H0 g φ out) b := by
      rintro ⟨X, hd, hX, rfl⟩
      exact hO ⟨_, hd, (ph_some hX).1, rfl⟩
    obtain ⟨h1, h2⟩ := t.blk0 b hb hOc
    refine ⟨?_, h2⟩
    rintro ⟨X, hd, hX, rfl⟩
    rcases phC_some k hX with ⟨c, ob, _, _, h5⟩ | ⟨_, h5⟩
    · exact h1 ⟨_, hd, h5, rfl⟩
    · exact hO ⟨_, hd, h5, rfl⟩
  · by_cases hc : ∃ c, hasN H1 c = true ∧ rn r1 c = n
    · obtain ⟨c, h1, rfl⟩ := hc
      have h0 : hasN H0 c = true := by
        cases h0 : hasN H0 c with
        | true => rfl
        | false => rw [k.fresh c h1 h0] at hn; cases hn
      rw [k.same c h0] at hn
      have hd0 : get H0 c = some none := by
        rcases ref_told hH h0 with h2 | ⟨ob', ob, h2, h3, _⟩ | ⟨ob', h2, h3, _⟩
        · exact h2
        · rw [hn] at h3; cases h3
        · rw [hn] at h3; cases h3
      have := t.dead c hd0
      rw [putH_at k this]; rfl
    · rw [putH_off fun c h1 h2 => hc ⟨c, h1, h2⟩]; exact hn
  · by_cases hc : ∃ c, hasN H1 c = true ∧ rn r1 c = n
    · obtain ⟨c, h1, rfl⟩ := hc
      have h0 : hasN H0 c = true := by
        cases h0 : hasN H0 c with
        | true => rfl
        | false => rw [k.fresh c h1 h0] at hn; cases hn
      rcases ref_told hH h0 with h2 | ⟨ob', ob2, h2, h3, h4, h5, h6, _⟩ | ⟨ob', h2, h3, _⟩
      · have := t.dead c h2
        exact .inl (by rw [putH_at k this]; rfl)
      · rw [← k.same c h0, hn] at h3
        cases h3
        rcases t.live c ob' h2 with hd | ⟨ob'', g1, g2, g3, g4⟩
        · exact .inl (by rw [putH_at k hd]; rfl)
        · refine .inr ⟨_, (putH_at k g1).trans rfl, ?_, g3.trans h4.symm, ?_⟩
          · rw [phC_at k h1, g1]
            dsimp only
            rw [g2, ph_live h2 (by rw [← k.same c h0]; exact hn), k.same c h0]
          · dsimp only
            rw [rnR_map, List.length_map, tlR_len h6]
            exact g4
      · rw [← k.same c h0, hn] at h3; cases h3
    · have hne : ∀ c, hasN H1 c = true → rn r1 c ≠ n := fun c h1 h2 => hc ⟨c, h1, h2⟩
      exact .inr ⟨ob, (putH_off hne).trans hn, phC_ne hne, rfl, Nat.le_refl _⟩
variable (hout : φ1.out = out)
include hout
omit ok hH ok1 t in
theorem own_phC (hfz : fz = false) {b : Nat} (h : Own (phC r1 H1 φ φ1) b) : Own φ1 b := by
  rcases h with h | ⟨X, hd, hX, rfl⟩
  · exact .inl (by rw [hout]; exact k.outs b h)
  · rcases phC_some k hX with ⟨c, ob, _, _, h5⟩ | ⟨h4, h5⟩
    · exact .inr ⟨_, hd, h5, rfl⟩
    · refine .inl ?_
      rw [hout]
      refine k.rest hfz X hd h5 fun n ob hn e => ?_
      have h0 : hasN H0 n = true := by unfold hasN; rw [hn]
      exact h4 n (k.dom n h0) (by rw [k.same n h0]; exact e)
omit ok hH ok1 t in
theorem repL_C {x : L} {u : Value} (hp : fz = true → plA (.f x)) (rx : RepL h' (Own φ1) x u) : RepL h' (Own (phC r1 H1 φ φ1)) x u := by
  cases fz with
  | false => exact rx.less fun b hb => own_phC k hout rfl hb
  | true =>
    have := hp rfl
    cases rx with
    | v _ hx => exact .v _ hx
    | nil wd a cap => exact .nil wd a cap
    | sl wd es b off cap c ty fr hw he =>
      cases es with
      | nil => exact absurd rfl he
      | cons e es => exact this.elim
    | pv => exact this.elim
    | cl => exact this.elim
omit ok hH ok1 t in
theorem repE_C : ∀ {x : A} {u : Value}, RepE h' (get H1) φ1 x u → inA H1 x = true → (fz = true → plA x) → RepE h' (putH (rnH r1 H1) g) (phC r1 H1 φ φ1) (rnA r1 x) u := by
  intro x u rx
  induction rx with
  | f x u rx => exact fun _ hp => .f _ _ (repL_C k hout hp rx)
  | nl a => exact fun _ _ => .nl a
  | un m u h1 h2 => exact fun _ _ => .un m u h1 h2
  | row n lo hi u rr =>
    intro hi' _
    refine .row _ _ _ _ ⟨rr.1, ?_⟩
    have r2 := rr.2
    simp only [inA] at hi'
    unfold hasN at hi'
    split at hi'
    · rename_i o ho
      rw [putH_at k ho]
      rw [ho] at r2
      cases o with
      | none => trivial
      | some ob =>
        dsimp only [rnOb, Option.map_some] at r2 ⊢
        obtain ⟨a1, a2, a3⟩ := r2
        refine ⟨a1, by rw [rnR_map, List.length_map]; exact a2, ?_⟩
        rw [phC_at k (has_of ho), ho]; exact a3
    · cases hi'
  | pt n i off u rr =>
    intro hi' _
    refine .pt _ _ _ _ ⟨rr.1, ?_⟩
    have r2 := rr.2
    simp only [inA] at hi'
    unfold hasN at hi'
    split at hi'
    · rename_i o ho
      rw [putH_at k ho]
      rw [ho] at r2
      cases o with
      | none => trivial
      | some ob =>
        dsimp only [rnOb, Option.map_some] at r2 ⊢
        obtain ⟨hd, a1, a2⟩ := r2
        refine ⟨hd, ?_, a2⟩
        rw [phC_at k (has_of ho), ho]; exact a1
    · cases hi'
  | mp n u rr =>
    intro hi' _
    refine .mp _ _ ⟨rr.1, ?_⟩
    have r2 := rr.2
    simp only [inA] at hi'
    unfold hasN at hi'
    split at hi'
    · rename_i o ho
      rw [putH_at k ho]
      rw [ho] at r2
      cases o with
      | none => trivial
      | some ob =>
        dsimp only [rnOb, Option.map_some] at r2 ⊢
        obtain ⟨hd, a1, a2⟩ := r2
        refine ⟨hd, ?_, a2⟩
        rw [phC_at k (has_of ho), ho]; exact a1
    · cases hi'
  | cl f caps cap hs hw hr ih =>
    intro hi' hp
    simp only [inA] at hi'
    have hfz : fz = false := by
      cases fz with
      | false => rfl
      | true => exact (hp rfl).elim
    refine .cl f (rnP r1 caps) cap (by rw [rnP_map]; simpa using hs) (fun i x hx => ?_) fun i x j y hx hy => ?_
    · rw [rnP_map, List.getElem?_map] at hx
      cases hq : caps[i]? with
      | none => rw [hq] at hx; cases hx
      | some x0 => rw [hq] at hx; cases hx; simpa using hw i x0 hq
    · rw [rnP_map, List.getElem?_map] at hx
      cases hq : caps[i]? with
      | none => rw [hq] at hx; cases hx
      | some x0 =>
        rw [hq] at hx
        cases hx
        rw [List.getElem?_map] at hy
        cases hq2 : x0.2[j]? with
        | none => rw [hq2] at hy; cases hy
        | some y0 =>
          rw [hq2] at hy
          cases hy
          exact ih i x0 j y0 hq hq2 (inC_all H1 (inP_all H1 hi' x0 (List.mem_of_getElem? hq)) y0 (List.mem_of_getElem? hq2)) fun h => by rw [hfz] at h; cases h
omit ok hH ok1 t in
theorem repA_C {c : Nat} {ob0 : Ob} (hc : get H1 c = some (some ob0)) : ∀ {X : Place} {x : A} {u : Value}, RepA h' (get H1) φ1 X x u → X.1 = c → inA H1 x = true → (fz = true → plA x) → RepA h' (putH (rnH r1 H1) g) (phC r1 H1 φ φ1) (rn r1 c, X.2) (rnA r1 x) u := by
  have hat : ∀ q, (phC r1 H1 φ φ1) (rn r1 c, q) = φ1 (c, q) := fun q => by rw [phC_at k (has_of hc), hc]
  intro X x u rx
  induction rx with
  | e X x u rx => exact fun _ hi hp => .e _ _ _ (repE_C k hout rx hi hp)
  | nilo X wd a hw hX => exact fun hX1 _ _ => .nilo _ wd a hw (by rw [hat, ← hX1]; exact hX)
  | ow X wd es hd cc ty hX hb okr hr ih =>
    intro hX1 hi hp
    simp only [inA] at hi
    have e1 : (rnR r1 es).length = es.length := by rw [rnR_map]; simp
    rw [← e1]
    refine .ow _ wd (rnR r1 es) hd cc ty (by rw [hat, ← hX1]; exact hX) hb ⟨okr.wd0, fun e he => ?_, by rw [e1]; exact okr.le, okr.cap, okr.size, okr.one⟩ fun i e j x hi' hj => ?_
    · rw [rnR_map] at he
      obtain ⟨e0, he0, rfl⟩ := List.mem_map.1 he
      simpa using okr.len e0 he0
    · rw [rnR_map, List.getElem?_map] at hi'
      cases hq : es[i]? with
      | none => rw [hq] at hi'; cases hi'
      | some e0 =>
        rw [hq] at hi'
        cases hi'
        rw [List.getElem?_map] at hj
        cases hq2 : e0[j]? with
        | none => rw [hq2] at hj; cases hj
        | some x0 =>
          rw [hq2] at hj
          cases hj
          exact ih i e0 j x0 hq hq2 hX1 (inC_all H1 (inR_all H1 hi e0 (List.mem_of_getElem? hq)) x0 (List.mem_of_getElem? hq2)) fun h => plC_at (plR_at (hp h) (List.mem_of_getElem? hq)) (List.mem_of_getElem? hq2)
theorem heapC (hin : H1.all (fun x => inO H1 x.2) = true) (hcl : ClH H1) (hp : fz = true → plH H1) : HeapOK h' (putH (rnH r1 H1) g) (phC r1 H1 φ φ1) := by
  have tC := turnC k hH t
  have hsz : h.size ≤ h'.size ∨ True := .inr trivial
  refine ⟨fun n ob hn => ?_, fun X hd hX => ?_, fun X hd hX ho => ?_, fun b hb => ?_, fun X Y hd1 hd2 hX hY hb => ?_⟩
  · by_cases hc : ∃ c, hasN H1 c = true ∧ rn r1 c = n
    · obtain ⟨c, h1, rfl⟩ := hc
      unfold hasN at h1
      split at h1
      · rename_i o ho
        rw [putH_at k ho] at hn
        cases o with
        | none => cases hn
        | some ob1 =>
          cases hn
          have hat : ∀ q, (phC r1 H1 φ φ1) (rn r1 c, q) = φ1 (c, q) := fun q => by rw [phC_at k (has_of ho), ho]
          have hin1 : inR H1 ob1.es = true := by
            have := List.all_eq_true.1 hin _ (get_mem ho)
            simp only [inO] at this
            cases hb : Nat.beq ob1.fl 3
            · exact inR_cl H1 (hcl c ob1 (get_mem ho) hb)
            · rw [hb] at this; exact this
          have hob := ok1.ob c ob1 ho
          have e1 : (rnR r1 ob1.es).length = ob1.es.length := by rw [rnR_map]; simp
          refine ⟨hob.1, fun h4 => ?_, fun h4 => ?_⟩
          rotate_left
          · obtain ⟨hd, es, ck, l, b1, b2, b3, b4⟩ := hob.2.2 h4
            exact ⟨hd, es, ck, l, (hat _).trans b1, b2, by dsimp only; rw [b3]; exact rnR_cl r1 (cl_mp l), b4⟩
          rcases (hob.row h4) with ⟨a1, a2⟩ | ⟨hd, cc, ty, a1, a2, a3, a4, a5⟩
          · exact .inl ⟨List.eq_nil_of_length_eq_zero (by dsimp only; rw [e1, a1]; rfl), (hat _).trans a2⟩
          · refine .inr ⟨hd, cc, ty, (hat _).trans a1, a2, ⟨a3.wd0, fun e he => ?_, by dsimp only; rw [e1]; exact a3.le, a3.cap, a3.size, a3.one⟩, fun hf => by dsimp only; rw [e1]; exact a4 hf, fun i e j x hi' hj => ?_⟩
            · dsimp only at he
              rw [rnR_map] at he
              obtain ⟨e0, he0, rfl⟩ := List.mem_map.1 he
              simpa using a3.len e0 he0
            · dsimp only at hi'
              rw [rnR_map, List.getElem?_map] at hi'
              cases hq : ob1.es[i]? with
              | none => rw [hq] at hi'; cases hi'
              | some e0 =>
                rw [hq] at hi'
                cases hi'
                rw [List.getElem?_map] at hj
                cases hq2 : e0[j]? with
                | none => rw [hq2] at hj; cases hj
                | some x0 =>
                  rw [hq2] at hj
                  cases hj
                  exact repA_C k hout ho (a5 i e0 j x0 hq hq2) rfl (inC_all H1 (inR_all H1 hin1 e0 (List.mem_of_getElem? hq)) x0 (List.mem_of_getElem? hq2)) fun h => plC_at (plR_at (plH_at (hp h) (get_mem ho)) (List.mem_of_getElem? hq)) (List.mem_of_getElem? hq2)
      · cases h1
    · have hne : ∀ c, hasN H1 c = true → rn r1 c ≠ n := fun c h1 h2 => hc ⟨c, h1, h2⟩
      rw [putH_off hne] at hn
      exact (ok.ob n ob hn).keep (fun _ _ r => r.turn tC) (fun q => phC_ne hne) fun q hd hq => (off_keep k ok t hq hne).2
  · rcases phC_some k hX with ⟨c, ob, _, _, h5⟩ | ⟨h4, h5⟩
    · exact ok1.lt _ hd h5
    · exact lt_of_same (ok.lt X hd h5) (off_keep k ok t h5 h4).2
  · rcases phC_some k hX with ⟨c, ob, _, _, h5⟩ | ⟨h4, h5⟩
    · exact ok1.apart _ hd h5 (by rw [hout]; exact k.outs _ ho)
    · exact ok.apart _ hd h5 ho
  · have hO0 : ¬ Own0 (ph r H0 g φ out) b := by
      rintro ⟨X, hd, hX, rfl⟩
      exact ok.apart _ hd (ph_some hX).1 hb
    exact lt_of_same (ok.old b hb) (t.blk0 b (ok.old b hb) hO0).2
  · rcases phC_some k hX with ⟨c, ob, g1, g2, g3⟩ | ⟨g2, g3⟩ <;> rcases phC_some k hY with ⟨c', ob', g1', g2', g3'⟩ | ⟨g2', g3'⟩
    · have := ok1.inj _ _ _ _ g3 g3' hb
      simp only [Prod.mk.injEq] at this
      refine Prod.ext ?_ this.2
      rw [← g2, ← g2', this.1]
    · exact absurd ⟨_, hd1, g3, hb⟩ (off_keep k ok t g3' g2').1
    · exact absurd ⟨_, hd2, g3', hb.symm⟩ (off_keep k ok t g3 g2).1
    · exact ok.inj _ _ _ _ g3 g3' hb
end
end Go.Proofs.YtecnmodeggnjoaaGreat.Ac
set_option linter.unusedVariables false
set_option linter.unusedSimpArgs false
namespace Go.Proofs.YtecnmodeggnjoaaGreat.Ac
open Go.RowKit
def rdAll : List Nat → Hs → (Hs → Out) → Out
  | [], acc, κ => κ acc
  | n :: l, acc, κ => .rd n fun o => match o with
    | some o => rdAll l ((n, o) :: acc) κ
    | none => rdAll l acc κ
theorem rdAll_elim {sq : Bool} {g : Hp} {q : Eff → Prop} {κ : Hs → Out} : ∀ (l : List Nat) (acc : Hs) (rs : List Nat), (∀ n, get acc n = none ∨ get acc n = g n) → (rdAll l acc κ).K sq g rs q →
    ∃ loc rs', (κ loc).K sq g rs' q ∧ (∀ n, get loc n = none ∨ get loc n = g n) ∧ (∀ n, get acc n ≠ none → get loc n ≠ none) ∧ ∀ n ∈ l, get loc n = g n
  | [], acc, rs, ha, h => ⟨acc, rs, h, ha, fun _ h => h, fun n hn => by cases hn⟩
  | n :: l, acc, rs, ha, h => by
    simp only [rdAll, Out.K] at h
    split at h
    · rename_i o ho
      have ha' : ∀ m, get ((n, o) :: acc) m = none ∨ get ((n, o) :: acc) m = g m := fun m => by
        simp only [get]
        cases hb : Nat.beq n m
        · exact ha m
        · rw [← Nat.eq_of_beq_eq_true hb, ho]; exact .inr rfl
      obtain ⟨loc, rs', h1, h2, h3, h4⟩ := rdAll_elim l _ _ ha' h
      refine ⟨loc, rs', h1, h2, fun m hm => h3 m ?_, fun m hm => ?_⟩
      · simp only [get]
        cases hb : Nat.beq n m
        · exact hm
        · simp
      · rcases List.mem_cons.1 hm with rfl | hm
        · have : get loc m ≠ none := h3 m (by simp [get])
          exact (h2 m).resolve_left this
        · exact h4 m hm
    · rename_i ho
      obtain ⟨loc, rs', h1, h2, h3, h4⟩ := rdAll_elim l _ _ ha h
      refine ⟨loc, rs', h1, h2, h3, fun m hm => ?_⟩
      rcases List.mem_cons.1 hm with rfl | hm
      · rcases h2 m with h | h
        · rw [h, ho]
        · exact h
      · exact h4 m hm
section
variable {fz : Bool} {r : List (Nat × Nat)} {g1 g : Hp} {hs' : Hs} (hg : ∀ n, g1 n = none ∨ g1 n = g n) (hr : ∀ n, hasN hs' n = true → g1 (rn r n) = g (rn r n))
include hg
theorem up_some {n : Nat} {o : Option Ob} (h : g1 n = some o) : g n = some o := by
  rcases hg n with h' | h'
  · rw [h'] at h; cases h
  · rw [← h']; exact h
theorem gone_up {m : Nat} {ob : Ob} (h : gone r g1 hs' m ob) : gone r g hs' m ob := ⟨up_some hg h.1, h.2⟩
omit hg in
theorem Frz.imp {K K' : Nat → Ob → Prop} (hK : ∀ m ob, K m ob → K' m ob) {x : A} {y : L} (h : Frz K x y) : Frz K' x y := by
  induction h with
  | f x => exact .f x
  | nl wd => exact .nl wd
  | ow wd es ls hlen hl hh ih => exact .ow wd es ls hlen hl ih
  | row m lo hi ob ls hm hlen hl hh ih => exact .row m lo hi ob ls (hK _ _ hm) hlen hl ih
  | pt n i off ob e ls hn hne he hlen hh ih => exact .pt n i off ob e ls (hK _ _ hn) hne he hlen ih
omit hg in
theorem frzC.imp {K K' : Nat → Ob → Prop} (hK : ∀ m ob, K m ob → K' m ob) : ∀ {xs : List A} {ys : List L}, frzC K xs ys → frzC K' xs ys
  | _, [], _ => by unfold frzC; trivial
  | x :: xs, y :: ys, h => ⟨h.1.imp hK, frzC.imp hK h.2⟩
  | [], _ :: _, h => h.elim
theorem FrzN_up {m lo hi wd : Nat} {ls : List (List L)} (h : FrzN r g1 hs' m lo hi wd ls) : FrzN r g hs' m lo hi wd ls := by
  unfold FrzN at h ⊢
  split at h
  · rename_i ob hn
    rw [up_some hg hn]
    obtain ⟨h1, h2, h3, h4⟩ := h
    exact ⟨h1, h2, ⟨h3.1, h3.2.1, fun i e l j x y a b c d => (h3.2.2 i e l j x y a b c d).imp fun m ob => gone_up hg⟩, h4⟩
  · exact h.elim
theorem FrzP_up {n i off : Nat} {ls : List L} (h : FrzP r g1 hs' n i off ls) : FrzP r g hs' n i off ls := by
  unfold FrzP at h ⊢
  split at h
  · rename_i ob hn
    rw [up_some hg hn]
    obtain ⟨h1, h2, ⟨e, h3, h4⟩, h5⟩ := h
    exact ⟨h1, h2, ⟨e, h3, h4.imp fun m ob => gone_up hg⟩, h5⟩
  · exact h.elim
theorem bzA_up {x : A} {l : L} (h : bzA r g1 hs' x l) : bzA r g hs' x l := by
  unfold bzA at h ⊢
  split at h
  · exact h
  · exact h
  · exact FrzN_up hg h
  · exact FrzP_up hg h
  · exact h.elim
theorem bzC_up : ∀ {xs : List A} {ls : List L}, bzC r g1 hs' xs ls → bzC r g hs' xs ls
  | [], [], _ => trivial
  | _ :: _, _ :: _, h => ⟨bzA_up hg h.1, bzC_up h.2⟩
  | [], _ :: _, h => h.elim
  | _ :: _, [], h => h.elim
theorem bzP_up : ∀ {xs : List (Bool × List A)} {ls : List (Bool × List L)}, bzP r g1 hs' xs ls → bzP r g hs' xs ls
  | [], [], _ => trivial
  | _ :: _, _ :: _, h => ⟨h.1, bzC_up hg h.2.1, bzP_up h.2.2⟩
  | [], _ :: _, h => h.elim
  | _ :: _, [], h => h.elim
include hr
theorem tlA_up {x y : A} (hi : inA hs' y = true) (h : tlA fz r g1 hs' x y) : tlA fz r g hs' x y := by
  have cz : ∀ {p q : Prop}, (p → q) → cond fz p False → cond fz q False := fun {p q} hpq hp => by
    cases fz
    · exact hp
    · exact hpq hp
  unfold tlA at h ⊢
  split at h
  · trivial
  · exact h
  · exact cz (fun h => ⟨h.1, bzP_up hg h.2⟩) h
  · exact cz (bzA_up hg) h
  · obtain ⟨h1, h2, h3⟩ := h
    exact ⟨h1, h2, (hr _ (by simpa [inA] using hi)).symm.trans h3⟩
  · obtain ⟨h1, h2⟩ := h
    refine ⟨h1, ?_⟩
    split at h2
    · rename_i ob hn; rw [up_some hg hn]; trivial
    · exact h2.elim
  · exact h
theorem tlC_up : ∀ {xs ys : List A}, inC hs' ys = true → tlC fz r g1 hs' xs ys → tlC fz r g hs' xs ys
  | [], [], _, _ => trivial
  | x :: xs, y :: ys, hi, h => by
    simp only [inC, Bool.and_eq_true] at hi
    exact ⟨tlA_up hg hr hi.1 h.1, tlC_up hi.2 h.2⟩
  | [], _ :: _, _, h => h.elim
  | _ :: _, [], _, h => h.elim
theorem tlR_up : ∀ {xs ys : List (List A)}, inR hs' ys = true → tlR fz r g1 hs' xs ys → tlR fz r g hs' xs ys
  | [], [], _, _ => trivial
  | x :: xs, y :: ys, hi, h => by
    simp only [inR, Bool.and_eq_true] at hi
    exact ⟨tlC_up hg hr hi.1 h.1, tlR_up hi.2 h.2⟩
  | [], _ :: _, _, h => h.elim
  | _ :: _, [], _, h => h.elim
theorem tlO_up {n : Nat} {o : Option Ob} (hn : hasN hs' n = true) (hi : inO hs' o = true) (h : tlO fz r g1 hs' n o) : tlO fz r g hs' n o := by
  unfold tlO at h ⊢
  cases o with
  | none => trivial
  | some ob' =>
    dsimp only at h ⊢
    rw [← hr n hn]
    split at h
    · rename_i ob hg'
      refine ⟨h.1, h.2.1, ?_⟩
      have h2 := h.2.2
      dsimp only [inO] at hi
      cases hb : Nat.beq ob'.fl 3
      · rw [hb] at h2; exact h2
      · rw [hb] at h2 hi; exact tlR_up hg hr hi h2
    · exact h.elim
    · exact h
theorem subH_up (hO : hs'.all (fun x => inO hs' x.2) = true) : ∀ (l : Hs), (∀ x ∈ l, x ∈ hs') → subH fz r g1 hs' l → subH fz r g hs' l
  | [], _, _ => trivial
  | (n, o) :: l, hl, h => by
    refine ⟨?_, subH_up hO l (fun x hx => hl x (List.mem_cons_of_mem _ hx)) h.2⟩
    have hm := hl _ List.mem_cons_self
    refine tlO_up hg hr ?_ (List.all_eq_true.1 hO _ hm) h.1
    unfold hasN
    cases hgt : get hs' n with
    | some _ => rfl
    | none =>
      exfalso
      have : ∀ (l : Hs), (n, o) ∈ l → get l n ≠ none := by
        intro l
        induction l with
        | nil => intro h; cases h
        | cons y l ih =>
          intro h
          simp only [get]
          cases hb : Nat.beq y.1 n
          · rcases List.mem_cons.1 h with rfl | h
            · simp at hb
            · exact ih h
          · simp
      exact this hs' hm hgt
end
def tlTs (fz : Bool) (r : List (Nat × Nat)) (g : Hp) (hs' : Hs) : List T → List (Bool × List A) → Prop
  | [], [] => True
  | .val ag cs :: xs, y :: ys => ag = y.1 ∧ tlC fz r g hs' cs y.2 ∧ tlTs fz r g hs' xs ys
  | _, _ => False
structure CallD where
  fz : Bool
  r : List (Nat × Nat)
  H0 : Hs
  args : List (Bool × List A)
  H1 : Hs
  res : List (Bool × List A)
def nmL (d : Nat) (H0 : Hs) (r : List (Nat × Nat)) (H1 : Hs) : List (Nat × Nat) := H1.map fun x => (x.1, cond (hasN H0 x.1) (rn r x.1) (16 * (d + 1) + (x.1 - 1000)))
def frK : List Nat → Out → Out
  | [], o => o
  | n :: l, o => .rd n fun x => match x with
    | none => frK l o
    | some _ => .no
def natK (n : Nat) (κ : Nat → Out) : Out := match n with
  | 0 => κ 0
  | m + 1 => κ (m + 1)
theorem natK_eq {n : Nat} {κ : Nat → Out} : natK n κ = κ n := by cases n <;> rfl
def nmK : List (Nat × Nat) → (List (Nat × Nat) → Out) → Out
  | [], κ => κ []
  | (a, b) :: l, κ => natK a fun a => natK b fun b => nmK l fun l => κ ((a, b) :: l)
theorem nmK_eq : ∀ {l : List (Nat × Nat)} {κ : List (Nat × Nat) → Out}, nmK l κ = κ l
  | [], κ => rfl
  | (a, b) :: l, κ => by rw [nmK, natK_eq, natK_eq, nmK_eq]
mutual
def rnAK {β : Type} (r : List (Nat × Nat)) : A → (A → Out) → Out
  | .f x, κ => κ (.f x)
  | .nl, κ => κ .nl
  | .un k, κ => κ (.un k)
  | .row n lo hi, κ => natK (rn r n) fun n => κ (.row n lo hi)
  | .pt n i off, κ => natK (rn r n) fun n => κ (.pt n i off)
  | .mp n, κ => natK (rn r n) fun n => κ (.mp n)
  | .ow wd es, κ => κ (.ow wd (rnR r es))
  | .cl f caps, κ => κ (.cl f (rnP r caps))
end
def rnCK (r : List (Nat × Nat)) : List A → (List A → Out) → Out
  | [], κ => κ []
  | x :: l, κ => rnAK (β := Unit) r x fun y => rnCK r l fun ys => κ (y :: ys)
def rnVK (r : List (Nat × Nat)) : List (Bool × List A) → (List (Bool × List A) → Out) → Out
  | [], κ => κ []
  | (ag, cs) :: l, κ => rnCK r cs fun cs => rnVK r l fun l => κ ((ag, cs) :: l)
def rnHK (r : List (Nat × Nat)) : Hs → (Hs → Out) → Out
  | [], κ => κ []
  | (n, none) :: l, κ => natK (rn r n) fun n => rnHK r l fun l => κ ((n, none) :: l)
  | (n, some ⟨fl, wd, es⟩) :: l, κ => natK (rn r n) fun n => cond (Nat.beq fl 3) (match es with
    | [e] => rnCK r e fun e => rnHK r l fun l => κ ((n, some ⟨fl, wd, [e]⟩) :: l)
    | _ => .no) (rnHK r l fun l => κ ((n, some ⟨fl, wd, es⟩) :: l))
def resO (d : Nat) (H0 : Hs) (r : List (Nat × Nat)) (H1 : Hs) (res : List (Bool × List A)) : Out := cond (nodupB ((nmL d H0 r H1).map (·.2))) (frK ((H1.filter fun x => !hasN H0 x.1).map fun x => 16 * (d + 1) + (x.1 - 1000)) (nmK (nmL d H0 r H1) fun ns => rnVK ns res fun res => rnHK ns H1 fun u => .ok (resT res) u)) .no
def nmA : A → List Nat
  | .row n _ _ => [n]
  | .pt n _ _ => [n]
  | .mp n => [n]
  | .cl _ caps => go caps
  | _ => []
where
  go : List (Bool × List A) → List Nat
    | [] => []
    | (_, cs) :: l => goC cs ++ go l
  goC : List A → List Nat
    | [] => []
    | .row n _ _ :: l => n :: goC l
    | .pt n _ _ :: l => n :: goC l
    | .mp n :: l => n :: goC l
    | _ :: l => goC l
def nmTs : List T → List Nat
  | [] => []
  | .val _ cs :: l => cs.flatMap nmA ++ nmTs l
  | _ :: l => nmTs l
def fzCO : List A → Option (List L)
  | [] => some []
  | .f x :: l => match fzCO l with
    | some r => some (x :: r)
    | none => none
  | _ :: _ => none
def fzTs : List T → Option (List (Bool × List L))
  | [] => some []
  | .val ag cs :: l => match fzCO cs, fzTs l with
    | some c, some r => some ((ag, c) :: r)
    | _, _ => none
  | _ :: _ => none
def nestN : Hs → List Nat
  | [] => []
  | (_, some ⟨fl, _, es⟩) :: l => cond (Nat.beq fl 3) (match es with
    | [e] => e.flatMap nmA ++ nestN l
    | _ => nestN l) (nestN l)
  | (_, none) :: l => nestN l
def callO (P : Program) (f : FuncId) (d : Nat) (vals : List T) : Out := match fzTs vals with
  | some args => .ex (α := Hs × List (Bool × List A)) (fun x => FC P f args x.1 x.2) fun x => resO d [] [] x.1 x.2
  | none => .ex (α := CallD) (fun c => GCalls P f c.H0 c.args c.H1 c.res) fun c => match c with
    | ⟨fz, r, H0, args, H1, res⟩ => cond (inP H0 args && H0.all (fun x => inO H0 x.2) && nodupB (H0.map fun x => rn r x.1)) (rdAll (nmTs vals ++ H0.map fun x => rn r x.1) [] fun loc1 => rdAll (nestN loc1) loc1 fun loc =>
      .con (tlTs fz r (get loc) H0 vals args ∧ subH fz r (get loc) H0 H0 ∧ cond fz (plVs res ∧ plH H1) True) (resO d H0 r H1 res)) .no
end Go.Proofs.YtecnmodeggnjoaaGreat.Ac
