/- Several of our texts, one behind the other, without what this claim does not need: AcS, AcT. -/
import Derived.Test.YtecnmodeggnjoaaGreatZ3927bc65
set_option linter.unusedVariables false
set_option linter.unusedSimpArgs false
namespace Go.Proofs.YtecnmodeggnjoaaGreat.Ac
open Go.RowKit
section
variable {fz : Bool} {r : List (Nat × Nat)} {hs' : Hs} {h : Array Obj} {g : Hp} {φ : Phi} {out : Nat → Prop}
structure OutOK (fz : Bool) (r : List (Nat × Nat)) (hs' : Hs) (g : Hp) (φ : Phi) (out : Nat → Prop) : Prop where
  own : ∀ b, out b → Own φ b
  no : ∀ n ob' q hd, get hs' n = some (some ob') → φ (rn r n, q) = some hd → ¬ out hd.b
  fr : fz = true → ∀ X hd, φ X = some hd → ¬ out hd.b
theorem kept_no {m n : Nat} {o : Option Ob} (hk : kept r hs' m = false) (hm : (n, o) ∈ hs') : rn r n ≠ m := by
  intro e
  have : kept r hs' m = true := List.any_eq_true.2 ⟨_, hm, by rw [e]; simp⟩
  rw [this] at hk; cases hk
theorem not_own (ok : HeapOK h g φ) (o : OutOK fz r hs' g φ out) (hfz : fz = true) {m : Nat} (hk : kept r hs' m = false) {q : List (Nat × Nat)} {hd : Hd} (hq : φ (m, q) = some hd) : ¬ Own (ph r hs' g φ out) hd.b := by
  rintro (ho | ⟨X, hd', hX, hb⟩)
  · exact o.fr hfz _ _ hq ho
  · obtain ⟨h1, ob', h2⟩ := ph_some hX
    have := ok.inj _ _ _ _ h1 hq hb
    exact kept_no hk (get_mem h2) (congrArg Prod.fst this)
theorem frzC_at {K : Nat → Ob → Prop} : ∀ {xs : List A} {ls : List L}, frzC K xs ls → ls.length ≤ xs.length ∧ ∀ {j : Nat} {x : A} {l : L}, xs[j]? = some x → ls[j]? = some l → Frz K x l
  | xs, [], _ => ⟨Nat.zero_le _, fun _ h => by simp at h⟩
  | x :: xs, y :: ys, h => by
    obtain ⟨h1, h2⟩ := frzC_at h.2
    refine ⟨Nat.succ_le_succ h1, fun {j} {a} {l} ha hl => ?_⟩
    cases j with
    | zero => cases ha; cases hl; exact h.1
    | succ j => exact h2 ha hl
  | [], _ :: _, h => h.elim
theorem gone_ok (ok : HeapOK h g φ) (o : OutOK fz r hs' g φ out) (hfz : fz = true) (m : Nat) (ob : Ob) (hm : gone r g hs' m ob) : g m = some (some ob) ∧ ob.fl ≠ 4 ∧ ∀ q hd, φ (m, q) = some hd → ¬ Own (ph r hs' g φ out) hd.b :=
  ⟨hm.1, (fun e => by have := hm.2.2; rw [e] at this; cases this), fun q hd hq => not_own ok o hfz hm.2.1 hq⟩
theorem bzA_ok (ok : HeapOK h g φ) (o : OutOK fz r hs' g φ out) (hfz : fz = true) {x : A} {l : L} {u : Value} (hx : bzA r g hs' x l) (rx : RepE h g φ x u) : RepL h (Own (ph r hs' g φ out)) l u := by
  unfold bzA at hx
  split at hx
  · subst hx
    cases rx with
    | f _ _ rx => exact rx.less fun b hb => own_ph o.own hb
  · subst hx
    cases rx; exact .nil _ _ _
  · rename_i m lo hi wd ls
    unfold FrzN at hx
    split at hx
    · rename_i ob hn
      obtain ⟨fl, wd', es⟩ := ob
      obtain ⟨hw, hf4, hf, hk⟩ := hx
      dsimp only at hw hf
      subst hw
      have r2 : RefRow g φ m lo hi u := by cases rx; assumption
      exact frzR_ok ok (fun b hb => own_ph o.own hb) (gone_ok ok o hfz) hn (fun e => by rw [e] at hf4; cases hf4) hf r2 fun q hd hq => not_own ok o hfz hk hq
    · exact hx.elim
  · rename_i n i off ls
    unfold FrzP at hx
    split at hx
    · rename_i ob hn
      obtain ⟨fl, wd, es⟩ := ob
      obtain ⟨hne, hf4, ⟨e, he, hf⟩, hk⟩ := hx
      dsimp only at he
      obtain ⟨hlen, hfr⟩ := frzC_at hf
      exact frzPt_core ok hn (fun e => by rw [e] at hf4; cases hf4) hne he hlen (fun j x y h1 h2 => frz_ok ok (fun b hb => own_ph o.own hb) (gone_ok ok o hfz) (hfr h1 h2)) rx fun q hd hq => not_own ok o hfz hk hq
    · exact hx.elim
  · exact hx.elim
theorem bzC_at : ∀ {xs : List A} {ls : List L}, bzC r g hs' xs ls → xs.length = ls.length ∧ ∀ {j : Nat} {l : L}, ls[j]? = some l → ∃ x, xs[j]? = some x ∧ bzA r g hs' x l
  | [], [], _ => ⟨rfl, fun h => by simp at h⟩
  | x :: xs, y :: ys, h => by
    obtain ⟨h1, h2⟩ := bzC_at h.2
    refine ⟨by simp [h1], fun {j} {l} hl => ?_⟩
    cases j with
    | zero => cases hl; exact ⟨x, rfl, h.1⟩
    | succ j => exact h2 hl
  | [], _ :: _, h => h.elim
  | _ :: _, [], h => h.elim
theorem bzP_at : ∀ {xs : List (Bool × List A)} {ls : List (Bool × List L)}, bzP r g hs' xs ls → xs.length = ls.length ∧ ∀ {i : Nat} {l : Bool × List L}, ls[i]? = some l → ∃ x, xs[i]? = some x ∧ x.1 = l.1 ∧ bzC r g hs' x.2 l.2
  | [], [], _ => ⟨rfl, fun h => by simp at h⟩
  | x :: xs, y :: ys, h => by
    obtain ⟨h1, h2⟩ := bzP_at h.2.2
    refine ⟨by simp [h1], fun {i} {l} hl => ?_⟩
    cases i with
    | zero => cases hl; exact ⟨x, rfl, h.1, h.2.1⟩
    | succ i => exact h2 hl
  | [], _ :: _, h => h.elim
  | _ :: _, [], h => h.elim
mutual
theorem tl_cl : ∀ {x : A}, clA x → tlA fz r g hs' x x
  | .f _, _ => rfl
  | .nl, _ => rfl
  | .un none, _ => trivial
  | .un (some k), _ => rfl
  | .ow wd es, h => (rn_cl r (x := .ow wd es) h).symm
  | .row _ _ _, h => h.elim
  | .pt _ _ _, h => h.elim
  | .mp _, h => h.elim
  | .cl _ _, h => h.elim
theorem tlC_cl : ∀ {l : List A}, clC l → tlC fz r g hs' l l
  | [], _ => trivial
  | x :: l, h => ⟨tl_cl h.1, tlC_cl h.2⟩
theorem tlR_cl : ∀ {l : List (List A)}, clR l → tlR fz r g hs' l l
  | [], _ => trivial
  | e :: l, h => ⟨tlC_cl h.1, tlR_cl h.2⟩
end
theorem tlO_R {ob ob' : Ob} (h : cond (Nat.beq ob'.fl 3) (tlR fz r g hs' ob.es ob'.es) (ob.es = ob'.es ∧ clR ob'.es)) : tlR fz r g hs' ob.es ob'.es := by
  cases hb : Nat.beq ob'.fl 3
  · rw [hb] at h
    obtain ⟨h1, h2⟩ := h
    rw [h1]; exact tlR_cl h2
  · rw [hb] at h; exact h
theorem inO_R {ob ob' : Ob} (hi : inO hs' (some ob') = true) (h : cond (Nat.beq ob'.fl 3) (tlR fz r g hs' ob.es ob'.es) (ob.es = ob'.es ∧ clR ob'.es)) : inR hs' ob'.es = true := by
  dsimp only [inO] at hi
  cases hb : Nat.beq ob'.fl 3
  · rw [hb] at h
    exact inR_cl hs' h.2
  · rw [hb] at hi; exact hi
variable (hH : subH fz r g hs' hs')
include hH
theorem ref_told {n : Nat} (hn : hasN hs' n = true) : (get hs' n = some none ∨ (∃ ob' ob, get hs' n = some (some ob') ∧ g (rn r n) = some (some ob) ∧ ob.wd = ob'.wd ∧ (ob'.fl = 0 ∧ Nat.beq ob.fl 4 = false ∨ ob'.fl = ob.fl) ∧ tlR fz r g hs' ob.es ob'.es ∧ (inO hs' (some ob') = true → inR hs' ob'.es = true) ∧ (ob'.fl = 4 → ob.es = ob'.es)) ∨ ∃ ob', get hs' n = some (some ob') ∧ g (rn r n) = none ∧ ob'.es = [] ∧ ob'.fl = 0 ∧ 0 < ob'.wd) := by
  unfold hasN at hn
  split at hn
  · rename_i o ho
    cases o with
    | none => exact .inl ho
    | some ob' =>
      have := subH_get hH (get_mem ho)
      unfold tlO at this
      dsimp only at this
      split at this
      · rename_i ob hg; exact .inr (.inl ⟨ob', ob, ho, hg, this.1, this.2.1, tlO_R this.2.2, fun h => inO_R h this.2.2, fun h => by have := this.2.2; rw [h] at this; exact this.1⟩)
      · exact this.elim
      · rename_i hg; exact .inr (.inr ⟨ob', ho, hg, this⟩)
  · cases hn
omit hH in
theorem tlR_len : ∀ {xs ys : List (List A)}, tlR fz r g hs' xs ys → xs.length = ys.length
  | [], [], _ => rfl
  | _ :: _, _ :: _, h => congrArg (· + 1) (tlR_len h.2)
  | [], _ :: _, h => h.elim
  | _ :: _, [], h => h.elim
omit hH in
theorem tlR_at : ∀ {xs ys : List (List A)}, tlR fz r g hs' xs ys → ∀ {i : Nat} {y : List A}, ys[i]? = some y → ∃ x, xs[i]? = some x ∧ tlC fz r g hs' x y
  | x :: xs, y :: ys, h, 0, _, hy => by cases hy; exact ⟨x, rfl, h.1⟩
  | x :: xs, y :: ys, h, i + 1, _, hy => tlR_at h.2 (i := i) hy
  | [], [], _, _, _, hy => by simp at hy
  | [], _ :: _, h, _, _, _ => h.elim
  | _ :: _, [], h, _, _, _ => h.elim
omit hH in
theorem tlC_at : ∀ {xs ys : List A}, tlC fz r g hs' xs ys → xs.length = ys.length ∧ ∀ {i : Nat} {y : A}, ys[i]? = some y → ∃ x, xs[i]? = some x ∧ tlA fz r g hs' x y
  | [], [], _ => ⟨rfl, fun h => by simp at h⟩
  | x :: xs, y :: ys, h => by
    obtain ⟨h1, h2⟩ := tlC_at h.2
    refine ⟨by simp [h1], fun {i} {l} hl => ?_⟩
    cases i with
    | zero => cases hl; exact ⟨x, rfl, h.1⟩
    | succ i => exact h2 hl
  | [], _ :: _, h => h.elim
  | _ :: _, [], h => h.elim
theorem refRow_told {n lo hi : Nat} {u : Value} (hn : hasN hs' n = true) (rr : RefRow g φ (rn r n) lo hi u) : RefRow (get hs') (ph r hs' g φ out) n lo hi u := by
  refine ⟨rr.1, ?_⟩
  have r2 := rr.2
  rcases ref_told hH hn with h0 | ⟨ob', ob, h1, h2, h3, h4, h5, _⟩ | ⟨ob', h1, h2, h3⟩
  · rw [h0]; trivial
  · rw [h1]
    rw [h2] at r2
    obtain ⟨a1, a2, a3⟩ := r2
    dsimp only at a3 ⊢
    refine ⟨a1, by rw [← tlR_len h5]; exact a2, ?_⟩
    rw [ph_live h1 h2, ← h3]; exact a3
  · rw [h2] at r2; exact r2.elim
theorem refPt_told {n i off : Nat} {u : Value} (hn : hasN hs' n = true) (rr : RefPt g φ (rn r n) i off u) : RefPt (get hs') (ph r hs' g φ out) n i off u := by
  refine ⟨rr.1, ?_⟩
  have r2 := rr.2
  rcases ref_told hH hn with h0 | ⟨ob', ob, h1, h2, h3, h4, h5, _⟩ | ⟨ob', h1, h2, h3⟩
  · rw [h0]; trivial
  · rw [h1]
    rw [h2] at r2
    obtain ⟨hd, a1, a2⟩ := r2
    dsimp only
    exact ⟨hd, (ph_live h1 h2 _).trans a1, by rw [← h3]; exact a2⟩
  · rw [h2] at r2; exact r2.elim
theorem refMp_told {n : Nat} {u : Value} (hn : hasN hs' n = true) (rr : RefMp g φ (rn r n) u) : RefMp (get hs') (ph r hs' g φ out) n u := by
  refine ⟨rr.1, ?_⟩
  have r2 := rr.2
  rcases ref_told hH hn with h0 | ⟨ob', ob, h1, h2, h3, h4, h5, _⟩ | ⟨ob', h1, h2, h3⟩
  · rw [h0]; trivial
  · rw [h1]
    rw [h2] at r2
    obtain ⟨hd, a1, a2⟩ := r2
    exact ⟨hd, (ph_live h1 h2 _).trans a1, a2⟩
  · rw [h2] at r2; exact r2.elim
theorem repE_rn (o : OutOK fz r hs' g φ out) : ∀ {x' : A} {u : Value}, RepE h g φ x' u → ∀ {y : A}, x' = rnA r y → inA hs' y = true → RepE h (get hs') (ph r hs' g φ out) y u := by
  intro x' u rx
  induction rx with
  | f x u rx =>
    intro y hy hi
    cases y <;> simp only [rnA] at hy <;> cases hy
    exact .f _ _ (rx.less fun b hb => own_ph o.own hb)
  | nl a => intro y hy hi; cases y <;> simp only [rnA] at hy <;> cases hy; exact .nl a
  | un k u h1 h2 => intro y hy hi; cases y <;> simp only [rnA] at hy <;> cases hy; exact .un k u h1 h2
  | row n lo hi u rr =>
    intro y hy hi
    cases y <;> simp only [rnA] at hy <;> cases hy
    exact .row _ _ _ _ (refRow_told hH (by simpa [inA] using hi) rr)
  | pt n i off u rr =>
    intro y hy hi
    cases y <;> simp only [rnA] at hy <;> cases hy
    exact .pt _ _ _ _ (refPt_told hH (by simpa [inA] using hi) rr)
  | mp n u rr =>
    intro y hy hi
    cases y <;> simp only [rnA] at hy <;> cases hy
    exact .mp _ _ (refMp_told hH (by simpa [inA] using hi) rr)
  | cl f caps cap hs hw hr ih =>
    intro y hy hi
    cases y <;> simp only [rnA] at hy <;> cases hy
    rename_i caps'
    rw [rnP_map] at hs hw hr ih
    simp only [inA] at hi
    refine .cl f caps' cap (by simpa using hs) (fun i x hx => ?_) fun i x j y hx hy => ?_
    · have := hw i (x.1, x.2.map (rnA r)) (by rw [List.getElem?_map, hx]; rfl)
      simpa using this
    · exact ih i (x.1, x.2.map (rnA r)) j (rnA r y) (by rw [List.getElem?_map, hx]; rfl) (by rw [List.getElem?_map, hy]; rfl) rfl (inC_all hs' (inP_all hs' hi x (List.mem_of_getElem? hx)) y (List.mem_of_getElem? hy))
theorem repE_tl (ok : HeapOK h g φ) (o : OutOK fz r hs' g φ out) {x y : A} {u : Value} (hx : tlA fz r g hs' x y) (hi : inA hs' y = true) (rx : RepE h g φ x u) : RepE h (get hs') (ph r hs' g φ out) y u := by
  have cz : ∀ {p : Prop}, cond fz p False → fz = true ∧ p := fun {p} hp => by
    cases fz
    · exact hp.elim
    · exact ⟨rfl, hp⟩
  unfold tlA at hx
  split at hx
  · exact .un _ _ rx.one fun n h => by cases h
  · subst hx
    cases rx with
    | f _ _ rx => exact .f _ _ (rx.less fun b hb => own_ph o.own hb)
  · obtain ⟨hfz, rfl, hp⟩ := cz hx
    cases rx with
    | cl _ _ cap hs hw hr =>
      obtain ⟨h1, h2⟩ := bzP_at hp
      refine .f _ _ (.cl _ _ cap (by rw [hs, h1]) (fun i l hl => ?_) fun i l j y hl hy => ?_)
      · obtain ⟨x, hx, h3, h4⟩ := h2 hl
        have := hw i x hx
        rw [h3, (bzC_at h4).1] at this
        exact this
      · obtain ⟨x, hx, h3, h4⟩ := h2 hl
        obtain ⟨z, hz, h5⟩ := (bzC_at h4).2 hy
        have := hr i x j z hx hz
        rw [h3] at this
        exact bzA_ok ok o hfz h5 this
  · obtain ⟨hfz, hp⟩ := cz hx
    exact .f _ _ (bzA_ok ok o hfz hp rx)
  · rename_i n lo hi2
    obtain ⟨rfl, rfl, hg⟩ := hx
    cases rx with
    | nl a =>
      refine .row _ _ _ _ ⟨rfl, ?_⟩
      rcases ref_told hH (by simpa [inA] using hi) with h0 | ⟨ob', ob, h1, h2, _⟩ | ⟨ob', h1, h2, h3⟩
      · rw [h0]; trivial
      · rw [hg] at h2; cases h2
      · rw [h1]
        refine ⟨Nat.le_refl _, Nat.zero_le _, ?_⟩
        have : (ph r hs' g φ out) (n, []) = none := by simp [ph, h1, h2]
        rw [this]; exact ⟨a, rfl⟩
  · obtain ⟨rfl, hm⟩ := hx
    split at hm
    · rename_i ob hn
      cases rx with
      | row _ _ _ _ rr =>
        obtain ⟨fl, wd, es⟩ := ob
        obtain ⟨_, _, a, cap, rfl⟩ := row_len ok hn (fun e => by rw [e] at hm; cases hm) rr
        exact .un _ _ rfl fun k hk => by cases hk; exact ⟨a, cap, rfl⟩
    · exact hm.elim
  · exact repE_rn hH o rx hx hi
theorem repA_rn (o : OutOK fz r hs' g φ out) (ok : HeapOK h g φ) {n' : Nat} {ob' ob : Ob} (h1 : get hs' n' = some (some ob')) (h2 : g (rn r n') = some (some ob)) : ∀ {X : Place} {x' : A} {u : Value}, RepA h g φ X x' u → X.1 = rn r n' → ∀ {y : A}, x' = rnA r y → inA hs' y = true →
    RepA h (get hs') (ph r hs' g φ out) (n', X.2) y u := by
  intro X x' u rx
  induction rx with
  | e X x u rx => exact fun hX y hy hi => .e _ _ _ (repE_rn hH o rx hy hi)
  | nilo X wd a hw hX0 =>
    intro hX y hy hi
    cases y <;> simp only [rnA, A.ow.injEq, reduceCtorEq] at hy
    rename_i es'
    obtain ⟨rfl, hes⟩ := hy
    have : es' = [] := by rw [rnR_map] at hes; simpa using hes
    subst this
    refine .nilo _ wd a hw ?_
    rw [ph_live h1 h2, ← hX]; exact hX0
  | ow X wd es hd c ty hX0 hb okr hr ih =>
    intro hX y hy hi
    cases y <;> simp only [rnA] at hy <;> cases hy
    rename_i es'
    rw [rnR_map] at okr hr ih
    simp only [inA] at hi
    have e1 : (es'.map (·.map (rnA r))).length = es'.length := by simp
    rw [rnR_map, e1]
    refine .ow _ wd es' hd c ty ?_ hb ⟨okr.wd0, fun e he => ?_, by rw [← e1]; exact okr.le, okr.cap, okr.size, okr.one⟩ fun i e j x hi' hj => ?_
    · rw [ph_live h1 h2, ← hX]; exact hX0
    · have := okr.len (e.map (rnA r)) (List.mem_map.2 ⟨e, he, rfl⟩)
      simpa using this
    · exact ih i (e.map (rnA r)) j (rnA r x) (by rw [List.getElem?_map, hi']; rfl) (by rw [List.getElem?_map, hj]; rfl) hX rfl (inC_all hs' (inR_all hs' hi e (List.mem_of_getElem? hi')) x (List.mem_of_getElem? hj))
theorem repA_tl (o : OutOK fz r hs' g φ out) (ok : HeapOK h g φ) {n' : Nat} {ob' ob : Ob} (h1 : get hs' n' = some (some ob')) (h2 : g (rn r n') = some (some ob)) {q : List (Nat × Nat)} {x y : A} {u : Value} (hx : tlA fz r g hs' x y) (hi : inA hs' y = true) (rx : RepA h g φ (rn r n', q) x u) :
    RepA h (get hs') (ph r hs' g φ out) (n', q) y u := by
  by_cases how : isOw x = true
  · cases x with
    | ow wd es =>
      unfold tlA at hx
      split at hx
      · exact .e _ _ _ (.un _ _ rx.one fun n h => by cases h)
      · rename_i heq; cases heq
      · rename_i heq; cases heq
      · rename_i l
        exfalso
        cases fz <;> exact hx.elim
      · rename_i heq; cases heq
      · rename_i heq; cases heq
      · exact repA_rn hH o ok h1 h2 rx rfl hx hi
    | _ => cases how
  · exact .e _ _ _ (repE_tl hH ok o hx hi (rx.toE (by simpa using how)))
theorem ob_tl (o : OutOK fz r hs' g φ out) (ok : HeapOK h g φ) (hO : hs'.all (fun x => inO hs' x.2) = true) {n' : Nat} {ob' : Ob} (h1 : get hs' n' = some (some ob')) : ObOK h (get hs') (ph r hs' g φ out) n' ob' := by
  rcases ref_told hH (show hasN hs' n' = true by unfold hasN; rw [h1]) with h0 | ⟨ob2, ob, g1, g2, g3, g4, g5, g6⟩ | ⟨ob2, g1, g2, g3, g4, g5⟩
  · rw [h1] at h0; cases h0
  · rw [h1] at g1
    cases g1
    have hin := List.all_eq_true.1 hO _ (get_mem h1)
    have hlen := tlR_len g5
    have a0 := (ok.ob _ _ g2).1
    obtain ⟨g6, g7⟩ := g6
    by_cases h4 : ob.fl = 4
    · have h4' : ob'.fl = 4 := by
        rcases g4 with h | h
        · rw [h4] at h; exact absurd h.2 (by decide)
        · rw [h, h4]
      obtain ⟨hd, es, ck, l, b1, b2, b3⟩ := (ok.ob _ _ g2).2.2 h4
      exact ⟨by rw [← g3]; exact a0, fun h => absurd h4' h, fun _ => ⟨hd, es, ck, l, (ph_live h1 g2 _).trans b1, b2, by rw [← g7 h4']; exact b3⟩⟩
    have h4' : ob'.fl ≠ 4 := by
      rcases g4 with h | h
      · rw [h.1]; decide
      · rw [h]; exact h4
    have g4 : ob'.fl = 0 ∨ ob'.fl = ob.fl := g4.imp (fun h => h.1) id
    have hin := g6 hin
    rcases ((ok.ob _ _ g2).row h4) with ⟨a1, a2⟩ | ⟨hd, c, ty, a1, a2, a3, a4, a5⟩
    · exact obRow (by rw [← g3]; exact a0) h4' (.inl ⟨List.eq_nil_of_length_eq_zero (by rw [← hlen, a1]; rfl), (ph_live h1 g2 _).trans a2⟩)
    · refine obRow (by rw [← g3]; exact a3.wd0) h4' (.inr ⟨hd, c, ty, (ph_live h1 g2 _).trans a1, a2, ⟨by rw [← g3]; exact a3.wd0, fun e he => ?_, by rw [← hlen]; exact a3.le, a3.cap, by rw [← g3]; exact a3.size, a3.one⟩, fun hf => ?_, fun i e j x hi hj => ?_⟩)
      · obtain ⟨i, hi, rfl⟩ := List.mem_iff_getElem.1 he
        obtain ⟨x, hx, h6⟩ := tlR_at g5 (List.getElem?_eq_getElem hi)
        rw [← (tlC_at h6).1, a3.len x (List.mem_of_getElem? hx), g3]
      · rw [← hlen]
        refine a4 ?_
        rcases g4 with h | h
        · exact absurd h hf
        · rw [← h]; exact hf
      · obtain ⟨e0, he0, h6⟩ := tlR_at g5 hi
        obtain ⟨x0, hx0, h7⟩ := (tlC_at h6).2 hj
        rw [← g3]
        exact repA_tl hH o ok h1 g2 h7 (inC_all hs' (inR_all hs' hin e (List.mem_of_getElem? hi)) x (List.mem_of_getElem? hj)) (a5 i e0 j x0 he0 hx0)
  · rw [h1] at g1
    cases g1
    exact obRow g5 (by rw [g4]; decide) (.inl ⟨g3, by simp [ph, h1, g2]⟩)
theorem heap_tl (o : OutOK fz r hs' g φ out) (ok : HeapOK h g φ) (hO : hs'.all (fun x => inO hs' x.2) = true) (hd : nodupB (hs'.map fun x => rn r x.1) = true) : HeapOK h (get hs') (ph r hs' g φ out) := by
  refine ⟨fun n ob hn => ob_tl hH o ok hO hn, fun X hd hX => ok.lt _ _ (ph_some hX).1, fun X hd hX ho => ?_, fun b hb => ok.own_lt (o.own b hb), fun X Y hd1 hd2 hX hY hb => ?_⟩
  · obtain ⟨h1, ob', h2⟩ := ph_some hX
    exact o.no X.1 ob' X.2 hd h2 h1 ho
  · obtain ⟨h1, ob1, h2⟩ := ph_some hX
    obtain ⟨h3, ob2, h4⟩ := ph_some hY
    have := ok.inj _ _ _ _ h1 h3 hb
    simp only [Prod.mk.injEq] at this
    have := nodupB_inj hd (get_mem h2) (get_mem h4) this.1
    exact Prod.ext this (by simp_all)
theorem repC_tl (o : OutOK fz r hs' g φ out) (ok : HeapOK h g φ) : ∀ {xs ys : List A} {us : List Value}, tlC fz r g hs' xs ys → inC hs' ys = true → RepC h g φ xs us → RepC h (get hs') (ph r hs' g φ out) ys us
  | [], [], [], _, _, _ => trivial
  | x :: xs, y :: ys, u :: us, ht, hi, hr => by
    simp only [inC, Bool.and_eq_true] at hi
    exact ⟨repE_tl hH ok o ht.1 hi.1 hr.1, repC_tl o ok ht.2 hi.2 hr.2⟩
  | [], [], _ :: _, _, _, hr => hr.elim
  | _ :: _, _ :: _, [], _, _, hr => hr.elim
  | [], _ :: _, _, ht, _, _ => ht.elim
  | _ :: _, [], _, ht, _, _ => ht.elim
theorem repV_tl (o : OutOK fz r hs' g φ out) (ok : HeapOK h g φ) {ag : Bool} {xs ys : List A} {u : Value} (ht : tlC fz r g hs' xs ys) (hi : inC hs' ys = true) (hr : RepV h g φ ag xs u) : RepV h (get hs') (ph r hs' g φ out) ag ys u := by
  cases ag with
  | true => obtain ⟨c, rfl, hc⟩ := hr; exact ⟨c, rfl, repC_tl hH o ok ht hi hc⟩
  | false =>
    obtain ⟨x, rfl, hx⟩ := hr
    match ys, ht with
    | [y], ht =>
      simp only [inC, Bool.and_true] at hi
      exact ⟨y, rfl, repE_tl hH ok o ht.1 hi hx⟩
    | [], ht => exact ht.elim
    | _ :: _ :: _, ht => exact ht.2.elim
theorem repVs_tl (o : OutOK fz r hs' g φ out) (ok : HeapOK h g φ) : ∀ {xs ys : List (Bool × List A)} {us : List Value}, tlVs fz r g hs' xs ys → inP hs' ys = true → RepVs h g φ xs us → RepVs h (get hs') (ph r hs' g φ out) ys us
  | [], [], [], _, _, _ => trivial
  | x :: xs, (ag, cs) :: ys, u :: us, ht, hi, hr => by
    simp only [inP, Bool.and_eq_true] at hi
    refine ⟨?_, repVs_tl o ok ht.2.2 hi.2 hr.2⟩
    have := repV_tl hH o ok ht.2.1 hi.1 hr.1
    rw [ht.1] at this
    exact this
  | [], [], _ :: _, _, _, hr => hr.elim
  | _ :: _, _ :: _, [], _, _, hr => hr.elim
  | [], _ :: _, _, ht, _, _ => ht.elim
  | _ :: _, [], _, ht, _, _ => ht.elim
theorem repT_tl (o : OutOK fz r hs' g φ out) (ok : HeapOK h g φ) {x y : T} {u : Value} (ht : tlT fz r g hs' x y) (hi : inT hs' y = true) (hr : RepT h g φ x u) : RepT h (get hs') (ph r hs' g φ out) y u := by
  unfold tlT at ht
  split at ht
  · trivial
  · obtain ⟨rfl, ht⟩ := ht
    exact repV_tl hH o ok ht hi hr
  · obtain ⟨us, rfl, hr⟩ := hr
    exact ⟨us, rfl, repVs_tl hH o ok ht hi hr⟩
  · exact ht.elim
end
end Go.Proofs.YtecnmodeggnjoaaGreat.Ac
set_option linter.unusedVariables false
set_option linter.unusedSimpArgs false
namespace Go.Proofs.YtecnmodeggnjoaaGreat.Ac
open Go.RowKit
section
variable {P : Program} {w₀ : World} {H₀ : Hp} {φ₀ : Phi} {N : Nat} {a : Act} {w : World} {fp : List Nat}
theorem SimS.tell {r : List (Nat × Nat)} {es' : Es} {hs' : Hs} {e : Env} {g : Hp} (q : Sub fp r es' hs' e g) (hfp : ∀ n x, H₀ n = some x → n ∈ fp) (s : SimS w₀ H₀ φ₀ N e g a w) : SimS w₀ H₀ φ₀ N (get es') (get hs') a w := by
  obtain ⟨φ, s⟩ := s
  obtain ⟨q1, q2, q3⟩ := q
  simp only [subB, Bool.and_eq_true] at q1
  obtain ⟨⟨⟨a1, a2⟩, a3⟩, a4⟩ := q1
  have o : OutOK true r hs' g φ φ.out := ⟨fun b hb => .inl hb, fun n ob' q hd _ h => s.ok.apart _ hd h, fun _ X hd h => s.ok.apart X hd h⟩
  have hE : ∀ {l : Es}, subE true r g hs' e l → ∀ {t : Nat} {y : T}, (t, y) ∈ l → ∃ x, e t = some x ∧ tlT true r g hs' x y := by
    intro l
    induction l with
    | nil => intro _ t y hm; cases hm
    | cons z l ih =>
      intro hs t y hm
      rcases List.mem_cons.1 hm with rfl | hm
      · have := hs.1
        split at this
        · rename_i x hx; exact ⟨x, hx, this⟩
        · exact this.elim
      · exact ih hs.2 hm
  have fpk : ∀ n x, H₀ n = some x → hasN hs' n = true ∧ rn r n = n := fun n x hx => by
    have := List.all_eq_true.1 a4 n (hfp n x hx)
    simp only [Bool.and_eq_true] at this
    exact ⟨this.1, Nat.eq_of_beq_eq_true this.2⟩
  refine ⟨ph r hs' g φ φ.out, fun t y hy => ?_, s.sz, s.dfr, heap_tl q3 o s.ok a2 a3, ⟨s.turn.out, fun b hb hO => ?_, fun n hn => ?_, fun n ob hn => ?_⟩, s.os, s.tape, s.output, s.size⟩
  · obtain ⟨x, hx, ht⟩ := hE q2 (get_mem hy)
    exact repT_tl q3 o s.ok ht (List.all_eq_true.1 a1 _ (get_mem hy)) (s.env t x hx)
  · obtain ⟨h1, h2⟩ := s.turn.blk0 b hb hO
    refine ⟨?_, h2⟩
    rintro ⟨X, hd, hX, rfl⟩
    exact h1 ⟨_, hd, (ph_some hX).1, rfl⟩
  · have hg := s.turn.dead n hn
    obtain ⟨k1, k2⟩ := fpk n _ hn
    rcases ref_told q3 k1 with h0 | ⟨ob', ob, h1, h2, _⟩ | ⟨ob', h1, h2, _⟩
    · exact h0
    · rw [k2, hg] at h2; cases h2
    · rw [k2, hg] at h2; cases h2
  · obtain ⟨k1, k2⟩ := fpk n _ hn
    rcases ref_told q3 k1 with h0 | ⟨ob', ob2, h1, h2, h3, h4, h5, _⟩ | ⟨ob', h1, h2, _⟩
    · exact .inl h0
    · rcases s.turn.live n ob hn with hd | ⟨ob3, g1, g2, g3, g4⟩
      · rw [k2, hd] at h2; cases h2
      · rw [k2, g1] at h2
        cases h2
        refine .inr ⟨ob', h1, ?_, h3.symm.trans g3, by rw [← tlR_len h5]; exact g4⟩
        have := ph_live (φ := φ) (out := φ.out) h1 (show g (rn r n) = some (some ob2) by rw [k2]; exact g1) []
        rw [this, k2]; exact g2
    · rcases s.turn.live n ob hn with hd | ⟨ob3, g1, _⟩
      · rw [k2, hd] at h2; cases h2
      · rw [k2, g1] at h2; cases h2
def impO (m n i j : Nat) : Out := aliveO n fun fl wd es => aliveO m fun _ wd' ys => elO fl es i fun e => segK e j 1 fun seg => match seg with
  | [.row m' lo len] => cond (Nat.beq m m' && !Nat.beq m n && Nat.beq lo 0) (.ex (fun ys' : List (List A) => ys.take len = ys') fun ys' => spliceK e j [.ow wd' ys'] fun e' => setO fl wd es i e' fun ob => .ok .bot [(n, some ob), (m, none)]) .no
  | _ => .no
def mvO (m n : Nat) : Out := aliveO m fun fl wd es => .rd n fun o => match o with
  | none => .ok .bot [(n, some ⟨fl, wd, es⟩), (m, none)]
  | some _ => .no
def ghO (m n i j : Nat) : Out := cond (Nat.beq j 1000) (mvO m n) (impO m n i j)
def ghK : List (Nat × Nat × Nat × Nat) → Hs → (Hs → Prop) → Prop
  | [], hs, k => k hs
  | (m, n, i, j) :: l, hs, k => (ghO m n i j).K true (get hs) [] fun ε => match ε with
    | ⟨_, _, u⟩ => ghK l (u ++ hs) k
theorem imp_step {e : Env} {g : Hp} {φ : Phi} {m n i j : Nat} {k : Eff → Prop} (s : Sim w₀ H₀ φ₀ N e g φ a w) (h : (impO m n i j).K true g [] k) : ∃ ε, k ε ∧ SimS w₀ H₀ φ₀ N e (putH ε.upd g) a w := by
  unfold impO at h
  obtain ⟨fl, wd, es, hn, hf4, h1⟩ := alive_elim h
  obtain ⟨fl', wd', ys, hm, hm4, h2⟩ := alive_elim h1
  obtain ⟨e0, he, h3, h4⟩ := el_elim h2
  obtain ⟨hj, h5⟩ := seg_elim h4
  clear h h1 h2 h4
  have hlt : j < e0.length := by omega
  have e1 : (e0.drop j).take 1 = [e0[j]] := by rw [List.drop_eq_getElem_cons hlt]; rfl
  rw [e1] at h5
  split at h5
  · rename_i m' lo len heq
    have hx : e0[j] = .row m' lo len := by simpa using heq
    obtain ⟨hb, h6⟩ := cond_K h5
    simp only [Bool.and_eq_true, Bool.not_eq_true'] at hb
    have em := Nat.eq_of_beq_eq_true hb.1.1
    have el := Nat.eq_of_beq_eq_true hb.2
    subst em el
    have hmn : n ≠ m := fun e => by subst e; simp at hb
    obtain ⟨ys', rfl, h7⟩ := h6
    obtain ⟨_, h8⟩ := splice_elim h7
    have h9 := set_elim h3 h8
    have ej : e0.take j ++ [.ow wd' (ys.take len)] ++ e0.drop (j + [A.ow wd' (ys.take len)].length) = e0.set j (.ow wd' (ys.take len)) := by
      rw [List.set_eq_take_append_cons_drop, if_pos hlt]; simp
    rw [ej] at h9
    obtain ⟨φ', ok', t', _⟩ := imp_ok s.ok hn hf4 hm hm4 hmn he (show e0[j]? = some (.row m 0 len) by rw [List.getElem?_eq_getElem hlt, hx])
    refine ⟨_, h9, φ', ?_⟩
    dsimp only
    rw [putH_cons, putH_one]
    exact ⟨fun t x hx => (s.env t x hx).mono fun _ _ r => r.turn t', s.sz, s.dfr, ok', s.turn.trans t', s.os, s.tape, s.output, s.size⟩
  · exact h5.elim
theorem mv_step {e : Env} {g : Hp} {φ : Phi} {m n : Nat} {k : Eff → Prop} (s : Sim w₀ H₀ φ₀ N e g φ a w) (h : (mvO m n).K true g [] k) : ∃ ε, k ε ∧ SimS w₀ H₀ φ₀ N e (putH ε.upd g) a w := by
  unfold mvO at h
  obtain ⟨fl, wd, es, hm, hm4, h1⟩ := alive_elim h
  simp only [Out.K] at h1
  split at h1
  · rename_i hn
    have key : ∃ φ', HeapOK w.heap (put1 (put1 g m none) n (some ⟨fl, wd, es⟩)) φ' ∧ Turn w.heap g φ w.heap (put1 (put1 g m none) n (some ⟨fl, wd, es⟩)) φ' := by
      have hob := s.ok.ob m _ hm
      rcases hob.row hm4 with ⟨h0, hp⟩ | ⟨hd, c, ty, g1, g2, g3, g4, g5⟩
      · have hnm : n ≠ m := fun e => by subst e; rw [hn] at hm; cases hm
        dsimp only at h0
        subst h0
        obtain ⟨k1, t1⟩ := kill_ok s.ok hm
        obtain ⟨k2, t2⟩ := virt_ok k1 (n := n) (wd := wd) (fl := fl) ((put1_ne _ hnm).trans hn) hm4 hob.1
        exact ⟨_, k2, t1.trans t2⟩
      · obtain ⟨φ', k1, t1, _⟩ := shift_ok s.ok (ob' := ⟨fl, wd, es⟩) hm4 hm hn (Nat.le_refl _) (fun _ _ _ => rfl) (.inr ⟨hd, g1, rfl⟩) g2 g3 g4 g5
        exact ⟨φ', k1, t1⟩
    obtain ⟨φ', ok', t'⟩ := key
    refine ⟨_, h1, φ', ?_⟩
    dsimp only
    rw [putH_cons, putH_one]
    exact ⟨fun t x hx => (s.env t x hx).mono fun _ _ r => r.turn t', s.sz, s.dfr, ok', s.turn.trans t', s.os, s.tape, s.output, s.size⟩
  · exact h1.elim
theorem gh_step {e : Env} {g : Hp} {φ : Phi} {m n i j : Nat} {k : Eff → Prop} (s : Sim w₀ H₀ φ₀ N e g φ a w) (h : (ghO m n i j).K true g [] k) : ∃ ε, k ε ∧ SimS w₀ H₀ φ₀ N e (putH ε.upd g) a w := by
  unfold ghO at h
  cases hb : Nat.beq j 1000 <;> rw [hb] at h
  · exact imp_step s h
  · exact mv_step s h
theorem gh_ok {e : Env} : ∀ {l : List (Nat × Nat × Nat × Nat)} {hs : Hs} {k : Hs → Prop}, ghK l hs k → SimS w₀ H₀ φ₀ N e (get hs) a w → ∃ hs', k hs' ∧ SimS w₀ H₀ φ₀ N e (get hs') a w
  | [], hs, k, h, s => ⟨hs, h, s⟩
  | (m, n, i, j) :: l, hs, k, h, ⟨φ, s⟩ => by
    obtain ⟨⟨v, rd, u⟩, h1, s1⟩ := gh_step s h
    dsimp only at h1 s1
    rw [putH_get] at s1
    exact gh_ok h1 s1
def Tell (fp : List Nat) (gl : List (Nat × Nat × Nat × Nat)) (r : List (Nat × Nat)) (es' : Es) (hs' : Hs) (es : Es) (hs : Hs) : Prop := ghK gl hs fun hs1 => Sub fp r es' hs' (get es) (get hs1)
theorem SimS.told {gl : List (Nat × Nat × Nat × Nat)} {r : List (Nat × Nat)} {es es' : Es} {hs hs' : Hs} (q : Tell fp gl r es' hs' es hs) (hfp : ∀ n x, H₀ n = some x → n ∈ fp) (s : SimS w₀ H₀ φ₀ N (get es) (get hs) a w) : SimS w₀ H₀ φ₀ N (get es') (get hs') a w := by
  obtain ⟨hs1, h1, s1⟩ := gh_ok q s
  exact s1.tell h1 hfp
end
def RepR (h : Array Obj) (H : Hp) (φ : Phi) : List (Bool × List A) → Value → Prop
  | [x], u => RepV h H φ x.1 x.2 u
  | xs, u => ∃ us, u = .tuple us ∧ RepVs h H φ xs us.toList
def resT : List (Bool × List A) → T
  | [x] => .val x.1 x.2
  | xs => .tu xs
theorem RepR.t {h : Array Obj} {H : Hp} {φ : Phi} : ∀ {xs : List (Bool × List A)} {u : Value}, RepR h H φ xs u → RepT h H φ (resT xs) u
  | [], _, r => r
  | [x], _, r => r
  | _ :: _ :: _, _, r => r
def ClH (hs : Hs) : Prop := ∀ n ob, (n, some ob) ∈ hs → Nat.beq ob.fl 3 = false → clR ob.es
def IsFn (P : Program) (f : FuncId) : Prop := ∃ fn, P.funcs[f]? = some fn ∧ (fn.name == "runtime.NumGoroutine") = false ∧ fn.body.isNone = false
def CallsX (P : Program) (f : FuncId) (us : Array Value) (w : World) (Q : Ending → World → Prop) : Prop := (IsFn P f ∧ Calls P f us w Q) ∨ ∃ v w', (callFunc f us).run P w = .ok (.value v) w' ∧ Q (.returned v) w'
theorem CallsX.mono {P : Program} {f : FuncId} {us : Array Value} {w : World} {Q Q' : Ending → World → Prop} (h : CallsX P f us w Q) (hq : ∀ e w', Q e w' → Q' e w') : CallsX P f us w Q' :=
  h.imp (fun h => ⟨h.1, h.2.mono hq⟩) fun ⟨v, w', h1, h2⟩ => ⟨v, w', h1, hq _ _ h2⟩
theorem CallsX.body {P : Program} {f : FuncId} {us : Array Value} {w : World} {Q : Ending → World → Prop} (h : CallsX P f us w Q) (hf : IsFn P f) : Calls P f us w Q := by
  rcases h with h | ⟨v, w', h1, _⟩
  · exact h.2
  · obtain ⟨fn, f1, f2, f3⟩ := hf
    unfold callFunc at h1
    simp only [Sem.run_bind, run_program, Result.andThen_ok, f1, f2, f3] at h1
    simp at h1
structure GCalls (P : Program) (f : FuncId) (H0 : Hs) (args : List (Bool × List A)) (H1 : Hs) (res : List (Bool × List A)) : Prop where
  cl : ClH H1
  dom : ∀ n, hasN H0 n = true → hasN H1 n = true
  inn : inP H1 res = true ∧ H1.all (fun x => inO H1 x.2) = true
  calls : ∀ (φ : Phi) (w : World) (us : List Value), HeapOK w.heap (get H0) φ → RepVs w.heap (get H0) φ args us → CallsX P f us.toArray w fun e w' => ∃ v φ', e = .returned v ∧ RepR w'.heap (get H1) φ' res v ∧ HeapOK w'.heap (get H1) φ' ∧
    Turn w.heap (get H0) φ w'.heap (get H1) φ' ∧ w'.os = w.os ∧ w'.tape = w.tape ∧ w'.output = w.output ∧ w.heap.size ≤ w'.heap.size
def fzL (args : List (Bool × List L)) : List (Bool × List A) := args.map fun x => (x.1, x.2.map .f)
def FC (P : Program) (f : FuncId) (args : List (Bool × List L)) (H1 : Hs) (res : List (Bool × List A)) : Prop := GCalls P f [] (fzL args) H1 res
end Go.Proofs.YtecnmodeggnjoaaGreat.Ac
