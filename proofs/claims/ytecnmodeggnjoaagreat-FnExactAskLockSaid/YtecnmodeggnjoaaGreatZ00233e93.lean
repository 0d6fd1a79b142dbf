/- Several of our texts, one behind the other, without what this claim does not need: AcS. -/
import Derived.Test.YtecnmodeggnjoaaGreatZ339affe7
set_option linter.unusedVariables false
set_option linter.unusedSimpArgs false
namespace Go.Proofs.YtecnmodeggnjoaaGreat.Ac
open Go.RowKit
section
variable {fz : Bool} {r : List (Nat × Nat)} {hs' : Hs} {h : Array Obj} {g : Hp} {φ : Phi} {out : Nat → Prop}
structure OutOK (fz : Bool) (r : List (Nat × Nat)) (hs' : Hs) (g : Hp) (φ : Phi) (out : Nat → Prop) : Prop where
  own : ∀ b, out b → Own φ b
  no : ∀ n ob' q hd, get hs' n = some (some ob') → φ (rn r n, q) = some hd → ¬ out hd.b
  fr : fz = true → ∀ X hd, φ X = some hd → ¬ out hd.b
theorem kept_no {m n : Nat} {o : Option Ob} (hk : kept r hs' m = false) (hm : (n, o) ∈ hs') : rn r n ≠ m := by
  intro e
  have : kept r hs' m = true := List.any_eq_true.2 ⟨_, hm, by rw [e]; simp⟩
  rw [this] at hk; cases hk
theorem not_own (ok : HeapOK h g φ) (o : OutOK fz r hs' g φ out) (hfz : fz = true) {m : Nat} (hk : kept r hs' m = false) {q : List (Nat × Nat)} {hd : Hd} (hq : φ (m, q) = some hd) : ¬ Own (ph r hs' g φ out) hd.b := by
  rintro (ho | ⟨X, hd', hX, hb⟩)
  · exact o.fr hfz _ _ hq ho
  · obtain ⟨h1, ob', h2⟩ := ph_some hX
    have := ok.inj _ _ _ _ h1 hq hb
    exact kept_no hk (get_mem h2) (congrArg Prod.fst this)
theorem frzC_at {K : Nat → Ob → Prop} : ∀ {xs : List A} {ls : List L}, frzC K xs ls → ls.length ≤ xs.length ∧ ∀ {j : Nat} {x : A} {l : L}, xs[j]? = some x → ls[j]? = some l → Frz K x l
  | xs, [], _ => ⟨Nat.zero_le _, fun _ h => by simp at h⟩
  | x :: xs, y :: ys, h => by
    obtain ⟨h1, h2⟩ := frzC_at h.2
    refine ⟨Nat.succ_le_succ h1, fun {j} {a} {l} ha hl => ?_⟩
    cases j with
    | zero => cases ha; cases hl; exact h.1
    | succ j => exact h2 ha hl
  | [], _ :: _, h => h.elim
theorem gone_ok (ok : HeapOK h g φ) (o : OutOK fz r hs' g φ out) (hfz : fz = true) (m : Nat) (ob : Ob) (hm : gone r g hs' m ob) : g m = some (some ob) ∧ ob.fl ≠ 4 ∧ ∀ q hd, φ (m, q) = some hd → ¬ Own (ph r hs' g φ out) hd.b :=
  ⟨hm.1, (fun e => by have := hm.2.2; rw [e] at this; cases this), fun q hd hq => not_own ok o hfz hm.2.1 hq⟩
theorem bzA_ok (ok : HeapOK h g φ) (o : OutOK fz r hs' g φ out) (hfz : fz = true) {x : A} {l : L} {u : Value} (hx : bzA r g hs' x l) (rx : RepE h g φ x u) : RepL h (Own (ph r hs' g φ out)) l u := by
  unfold bzA at hx
  split at hx
  · subst hx
    cases rx with
    | f _ _ rx => exact rx.less fun b hb => own_ph o.own hb
  · subst hx
    cases rx; exact .nil _ _ _
  · rename_i m lo hi wd ls
    unfold FrzN at hx
    split at hx
    · rename_i ob hn
      obtain ⟨fl, wd', es⟩ := ob
      obtain ⟨hw, hf4, hf, hk⟩ := hx
      dsimp only at hw hf
      subst hw
      have r2 : RefRow g φ m lo hi u := by cases rx; assumption
      exact frzR_ok ok (fun b hb => own_ph o.own hb) (gone_ok ok o hfz) hn (fun e => by rw [e] at hf4; cases hf4) hf r2 fun q hd hq => not_own ok o hfz hk hq
    · exact hx.elim
  · rename_i n i off ls
    unfold FrzP at hx
    split at hx
    · rename_i ob hn
      obtain ⟨fl, wd, es⟩ := ob
      obtain ⟨hne, hf4, ⟨e, he, hf⟩, hk⟩ := hx
      dsimp only at he
      obtain ⟨hlen, hfr⟩ := frzC_at hf
      exact frzPt_core ok hn (fun e => by rw [e] at hf4; cases hf4) hne he hlen (fun j x y h1 h2 => frz_ok ok (fun b hb => own_ph o.own hb) (gone_ok ok o hfz) (hfr h1 h2)) rx fun q hd hq => not_own ok o hfz hk hq
    · exact hx.elim
  · exact hx.elim
theorem bzC_at : ∀ {xs : List A} {ls : List L}, bzC r g hs' xs ls → xs.length = ls.length ∧ ∀ {j : Nat} {l : L}, ls[j]? = some l → ∃ x, xs[j]? = some x ∧ bzA r g hs' x l
  | [], [], _ => ⟨rfl, fun h => by simp at h⟩
  | x :: xs, y :: ys, h => by
    obtain ⟨h1, h2⟩ := bzC_at h.2
    refine ⟨by simp [h1], fun {j} {l} hl => ?_⟩
    cases j with
    | zero => cases hl; exact ⟨x, rfl, h.1⟩
    | succ j => exact h2 hl
  | [], _ :: _, h => h.elim
  | _ :: _, [], h => h.elim
theorem bzP_at : ∀ {xs : List (Bool × List A)} {ls : List (Bool × List L)}, bzP r g hs' xs ls → xs.length = ls.length ∧ ∀ {i : Nat} {l : Bool × List L}, ls[i]? = some l → ∃ x, xs[i]? = some x ∧ x.1 = l.1 ∧ bzC r g hs' x.2 l.2
  | [], [], _ => ⟨rfl, fun h => by simp at h⟩
  | x :: xs, y :: ys, h => by
    obtain ⟨h1, h2⟩ := bzP_at h.2.2
    refine ⟨by simp [h1], fun {i} {l} hl => ?_⟩
    cases i with
    | zero => cases hl; exact ⟨x, rfl, h.1, h.2.1⟩
    | succ i => exact h2 hl
  | [], _ :: _, h => h.elim
  | _ :: _, [], h => h.elim
mutual
theorem tl_cl : ∀ {x : A}, clA x → tlA fz r g hs' x x
  | .f _, _ => rfl
  | .nl, _ => rfl
  | .un none, _ => trivial
  | .un (some k), _ => rfl
  | .ow wd es, h => (rn_cl r (x := .ow wd es) h).symm
  | .row _ _ _, h => h.elim
  | .pt _ _ _, h => h.elim
  | .mp _, h => h.elim
  | .cl _ _, h => h.elim
theorem tlC_cl : ∀ {l : List A}, clC l → tlC fz r g hs' l l
  | [], _ => trivial
  | x :: l, h => ⟨tl_cl h.1, tlC_cl h.2⟩
theorem tlR_cl : ∀ {l : List (List A)}, clR l → tlR fz r g hs' l l
  | [], _ => trivial
  | e :: l, h => ⟨tlC_cl h.1, tlR_cl h.2⟩
end
theorem tlO_R {ob ob' : Ob} (h : cond (Nat.beq ob'.fl 3) (tlR fz r g hs' ob.es ob'.es) (ob.es = ob'.es ∧ clR ob'.es)) : tlR fz r g hs' ob.es ob'.es := by
  cases hb : Nat.beq ob'.fl 3
  · rw [hb] at h
    obtain ⟨h1, h2⟩ := h
    rw [h1]; exact tlR_cl h2
  · rw [hb] at h; exact h
theorem inO_R {ob ob' : Ob} (hi : inO hs' (some ob') = true) (h : cond (Nat.beq ob'.fl 3) (tlR fz r g hs' ob.es ob'.es) (ob.es = ob'.es ∧ clR ob'.es)) : inR hs' ob'.es = true := by
  dsimp only [inO] at hi
  cases hb : Nat.beq ob'.fl 3
  · rw [hb] at h
    exact inR_cl hs' h.2
  · rw [hb] at hi; exact hi
variable (hH : subH fz r g hs' hs')
include hH
theorem ref_told {n : Nat} (hn : hasN hs' n = true) : (get hs' n = some none ∨ (∃ ob' ob, get hs' n = some (some ob') ∧ g (rn r n) = some (some ob) ∧ ob.wd = ob'.wd ∧ (ob'.fl = 0 ∧ Nat.beq ob.fl 4 = false ∨ ob'.fl = ob.fl) ∧ tlR fz r g hs' ob.es ob'.es ∧ (inO hs' (some ob') = true → inR hs' ob'.es = true) ∧ (ob'.fl = 4 → ob.es = ob'.es)) ∨ ∃ ob', get hs' n = some (some ob') ∧ g (rn r n) = none ∧ ob'.es = [] ∧ ob'.fl = 0 ∧ 0 < ob'.wd) := by
  unfold hasN at hn
  split at hn
  · rename_i o ho
    cases o with
    | none => exact .inl ho
    | some ob' =>
      have := subH_get hH (get_mem ho)
      unfold tlO at this
      dsimp only at this
      split at this
      · rename_i ob hg; exact .inr (.inl ⟨ob', ob, ho, hg, this.1, this.2.1, tlO_R this.2.2, fun h => inO_R h this.2.2, fun h => by have := this.2.2; rw [h] at this; exact this.1⟩)
      · exact this.elim
      · rename_i hg; exact .inr (.inr ⟨ob', ho, hg, this⟩)
  · cases hn
omit hH in
theorem tlR_len : ∀ {xs ys : List (List A)}, tlR fz r g hs' xs ys → xs.length = ys.length
  | [], [], _ => rfl
  | _ :: _, _ :: _, h => congrArg (· + 1) (tlR_len h.2)
  | [], _ :: _, h => h.elim
  | _ :: _, [], h => h.elim
omit hH in
theorem tlR_at : ∀ {xs ys : List (List A)}, tlR fz r g hs' xs ys → ∀ {i : Nat} {y : List A}, ys[i]? = some y → ∃ x, xs[i]? = some x ∧ tlC fz r g hs' x y
  | x :: xs, y :: ys, h, 0, _, hy => by cases hy; exact ⟨x, rfl, h.1⟩
  | x :: xs, y :: ys, h, i + 1, _, hy => tlR_at h.2 (i := i) hy
  | [], [], _, _, _, hy => by simp at hy
  | [], _ :: _, h, _, _, _ => h.elim
  | _ :: _, [], h, _, _, _ => h.elim
omit hH in
theorem tlC_at : ∀ {xs ys : List A}, tlC fz r g hs' xs ys → xs.length = ys.length ∧ ∀ {i : Nat} {y : A}, ys[i]? = some y → ∃ x, xs[i]? = some x ∧ tlA fz r g hs' x y
  | [], [], _ => ⟨rfl, fun h => by simp at h⟩
  | x :: xs, y :: ys, h => by
    obtain ⟨h1, h2⟩ := tlC_at h.2
    refine ⟨by simp [h1], fun {i} {l} hl => ?_⟩
    cases i with
    | zero => cases hl; exact ⟨x, rfl, h.1⟩
    | succ i => exact h2 hl
  | [], _ :: _, h => h.elim
  | _ :: _, [], h => h.elim
theorem refRow_told {n lo hi : Nat} {u : Value} (hn : hasN hs' n = true) (rr : RefRow g φ (rn r n) lo hi u) : RefRow (get hs') (ph r hs' g φ out) n lo hi u := by
  refine ⟨rr.1, ?_⟩
  have r2 := rr.2
  rcases ref_told hH hn with h0 | ⟨ob', ob, h1, h2, h3, h4, h5, _⟩ | ⟨ob', h1, h2, h3⟩
  · rw [h0]; trivial
  · rw [h1]
    rw [h2] at r2
    obtain ⟨a1, a2, a3⟩ := r2
    dsimp only at a3 ⊢
    refine ⟨a1, by rw [← tlR_len h5]; exact a2, ?_⟩
    rw [ph_live h1 h2, ← h3]; exact a3
  · rw [h2] at r2; exact r2.elim
theorem refPt_told {n i off : Nat} {u : Value} (hn : hasN hs' n = true) (rr : RefPt g φ (rn r n) i off u) : RefPt (get hs') (ph r hs' g φ out) n i off u := by
  refine ⟨rr.1, ?_⟩
  have r2 := rr.2
  rcases ref_told hH hn with h0 | ⟨ob', ob, h1, h2, h3, h4, h5, _⟩ | ⟨ob', h1, h2, h3⟩
  · rw [h0]; trivial
  · rw [h1]
    rw [h2] at r2
    obtain ⟨hd, a1, a2⟩ := r2
    dsimp only
    exact ⟨hd, (ph_live h1 h2 _).trans a1, by rw [← h3]; exact a2⟩
  · rw [h2] at r2; exact r2.elim
theorem refMp_told {n : Nat} {u : Value} (hn : hasN hs' n = true) (rr : RefMp g φ (rn r n) u) : RefMp (get hs') (ph r hs' g φ out) n u := by
  refine ⟨rr.1, ?_⟩
  have r2 := rr.2
  rcases ref_told hH hn with h0 | ⟨ob', ob, h1, h2, h3, h4, h5, _⟩ | ⟨ob', h1, h2, h3⟩
  · rw [h0]; trivial
  · rw [h1]
    rw [h2] at r2
    obtain ⟨hd, a1, a2⟩ := r2
    exact ⟨hd, (ph_live h1 h2 _).trans a1, a2⟩
  · rw [h2] at r2; exact r2.elim
theorem repE_rn (o : OutOK fz r hs' g φ out) : ∀ {x' : A} {u : Value}, RepE h g φ x' u → ∀ {y : A}, x' = rnA r y → inA hs' y = true → RepE h (get hs') (ph r hs' g φ out) y u := by
  intro x' u rx
  induction rx with
  | f x u rx =>
    intro y hy hi
    cases y <;> simp only [rnA] at hy <;> cases hy
    exact .f _ _ (rx.less fun b hb => own_ph o.own hb)
  | nl a => intro y hy hi; cases y <;> simp only [rnA] at hy <;> cases hy; exact .nl a
  | un k u h1 h2 => intro y hy hi; cases y <;> simp only [rnA] at hy <;> cases hy; exact .un k u h1 h2
  | row n lo hi u rr =>
    intro y hy hi
    cases y <;> simp only [rnA] at hy <;> cases hy
    exact .row _ _ _ _ (refRow_told hH (by simpa [inA] using hi) rr)
  | pt n i off u rr =>
    intro y hy hi
    cases y <;> simp only [rnA] at hy <;> cases hy
    exact .pt _ _ _ _ (refPt_told hH (by simpa [inA] using hi) rr)
  | mp n u rr =>
    intro y hy hi
    cases y <;> simp only [rnA] at hy <;> cases hy
    exact .mp _ _ (refMp_told hH (by simpa [inA] using hi) rr)
  | cl f caps cap hs hw hr ih =>
    intro y hy hi
    cases y <;> simp only [rnA] at hy <;> cases hy
    rename_i caps'
    rw [rnP_map] at hs hw hr ih
    simp only [inA] at hi
    refine .cl f caps' cap (by simpa using hs) (fun i x hx => ?_) fun i x j y hx hy => ?_
    · have := hw i (x.1, x.2.map (rnA r)) (by rw [List.getElem?_map, hx]; rfl)
      simpa using this
    · exact ih i (x.1, x.2.map (rnA r)) j (rnA r y) (by rw [List.getElem?_map, hx]; rfl) (by rw [List.getElem?_map, hy]; rfl) rfl (inC_all hs' (inP_all hs' hi x (List.mem_of_getElem? hx)) y (List.mem_of_getElem? hy))
theorem repE_tl (ok : HeapOK h g φ) (o : OutOK fz r hs' g φ out) {x y : A} {u : Value} (hx : tlA fz r g hs' x y) (hi : inA hs' y = true) (rx : RepE h g φ x u) : RepE h (get hs') (ph r hs' g φ out) y u := by
  have cz : ∀ {p : Prop}, cond fz p False → fz = true ∧ p := fun {p} hp => by
    cases fz
    · exact hp.elim
    · exact ⟨rfl, hp⟩
  unfold tlA at hx
  split at hx
  · exact .un _ _ rx.one fun n h => by cases h
  · subst hx
    cases rx with
    | f _ _ rx => exact .f _ _ (rx.less fun b hb => own_ph o.own hb)
  · obtain ⟨hfz, rfl, hp⟩ := cz hx
    cases rx with
    | cl _ _ cap hs hw hr =>
      obtain ⟨h1, h2⟩ := bzP_at hp
      refine .f _ _ (.cl _ _ cap (by rw [hs, h1]) (fun i l hl => ?_) fun i l j y hl hy => ?_)
      · obtain ⟨x, hx, h3, h4⟩ := h2 hl
        have := hw i x hx
        rw [h3, (bzC_at h4).1] at this
        exact this
      · obtain ⟨x, hx, h3, h4⟩ := h2 hl
        obtain ⟨z, hz, h5⟩ := (bzC_at h4).2 hy
        have := hr i x j z hx hz
        rw [h3] at this
        exact bzA_ok ok o hfz h5 this
  · obtain ⟨hfz, hp⟩ := cz hx
    exact .f _ _ (bzA_ok ok o hfz hp rx)
  · rename_i n lo hi2
    obtain ⟨rfl, rfl, hg⟩ := hx
    cases rx with
    | nl a =>
      refine .row _ _ _ _ ⟨rfl, ?_⟩
      rcases ref_told hH (by simpa [inA] using hi) with h0 | ⟨ob', ob, h1, h2, _⟩ | ⟨ob', h1, h2, h3⟩
      · rw [h0]; trivial
      · rw [hg] at h2; cases h2
      · rw [h1]
        refine ⟨Nat.le_refl _, Nat.zero_le _, ?_⟩
        have : (ph r hs' g φ out) (n, []) = none := by simp [ph, h1, h2]
        rw [this]; exact ⟨a, rfl⟩
  · obtain ⟨rfl, hm⟩ := hx
    split at hm
    · rename_i ob hn
      cases rx with
      | row _ _ _ _ rr =>
        obtain ⟨fl, wd, es⟩ := ob
        obtain ⟨_, _, a, cap, rfl⟩ := row_len ok hn (fun e => by rw [e] at hm; cases hm) rr
        exact .un _ _ rfl fun k hk => by cases hk; exact ⟨a, cap, rfl⟩
    · exact hm.elim
  · exact repE_rn hH o rx hx hi
theorem repA_rn (o : OutOK fz r hs' g φ out) (ok : HeapOK h g φ) {n' : Nat} {ob' ob : Ob} (h1 : get hs' n' = some (some ob')) (h2 : g (rn r n') = some (some ob)) : ∀ {X : Place} {x' : A} {u : Value}, RepA h g φ X x' u → X.1 = rn r n' → ∀ {y : A}, x' = rnA r y → inA hs' y = true →
    RepA h (get hs') (ph r hs' g φ out) (n', X.2) y u := by
  intro X x' u rx
  induction rx with
  | e X x u rx => exact fun hX y hy hi => .e _ _ _ (repE_rn hH o rx hy hi)
  | nilo X wd a hw hX0 =>
    intro hX y hy hi
    cases y <;> simp only [rnA, A.ow.injEq, reduceCtorEq] at hy
    rename_i es'
    obtain ⟨rfl, hes⟩ := hy
    have : es' = [] := by rw [rnR_map] at hes; simpa using hes
    subst this
    refine .nilo _ wd a hw ?_
    rw [ph_live h1 h2, ← hX]; exact hX0
  | ow X wd es hd c ty hX0 hb okr hr ih =>
    intro hX y hy hi
    cases y <;> simp only [rnA] at hy <;> cases hy
    rename_i es'
    rw [rnR_map] at okr hr ih
    simp only [inA] at hi
    have e1 : (es'.map (·.map (rnA r))).length = es'.length := by simp
    rw [rnR_map, e1]
    refine .ow _ wd es' hd c ty ?_ hb ⟨okr.wd0, fun e he => ?_, by rw [← e1]; exact okr.le, okr.cap, okr.size, okr.one⟩ fun i e j x hi' hj => ?_
    · rw [ph_live h1 h2, ← hX]; exact hX0
    · have := okr.len (e.map (rnA r)) (List.mem_map.2 ⟨e, he, rfl⟩)
      simpa using this
    · exact ih i (e.map (rnA r)) j (rnA r x) (by rw [List.getElem?_map, hi']; rfl) (by rw [List.getElem?_map, hj]; rfl) hX rfl (inC_all hs' (inR_all hs' hi e (List.mem_of_getElem? hi')) x (List.mem_of_getElem? hj))
theorem repA_tl (o : OutOK fz r hs' g φ out) (ok : HeapOK h g φ) {n' : Nat} {ob' ob : Ob} (h1 : get hs' n' = some (some ob')) (h2 : g (rn r n') = some (some ob)) {q : List (Nat × Nat)} {x y : A} {u : Value} (hx : tlA fz r g hs' x y) (hi : inA hs' y = true) (rx : RepA h g φ (rn r n', q) x u) :
    RepA h (get hs') (ph r hs' g φ out) (n', q) y u := by
  by_cases how : isOw x = true
  · cases x with
    | ow wd es =>
      unfold tlA at hx
      split at hx
      · exact .e _ _ _ (.un _ _ rx.one fun n h => by cases h)
      · rename_i heq; cases heq
      · rename_i heq; cases heq
      · rename_i l
        exfalso
        cases fz <;> exact hx.elim
      · rename_i heq; cases heq
      · rename_i heq; cases heq
      · exact repA_rn hH o ok h1 h2 rx rfl hx hi
    | _ => cases how
  · exact .e _ _ _ (repE_tl hH ok o hx hi (rx.toE (by simpa using how)))
theorem ob_tl (o : OutOK fz r hs' g φ out) (ok : HeapOK h g φ) (hO : hs'.all (fun x => inO hs' x.2) = true) {n' : Nat} {ob' : Ob} (h1 : get hs' n' = some (some ob')) : ObOK h (get hs') (ph r hs' g φ out) n' ob' := by
  rcases ref_told hH (show hasN hs' n' = true by unfold hasN; rw [h1]) with h0 | ⟨ob2, ob, g1, g2, g3, g4, g5, g6⟩ | ⟨ob2, g1, g2, g3, g4, g5⟩
  · rw [h1] at h0; cases h0
  · rw [h1] at g1
    cases g1
    have hin := List.all_eq_true.1 hO _ (get_mem h1)
    have hlen := tlR_len g5
    have a0 := (ok.ob _ _ g2).1
    obtain ⟨g6, g7⟩ := g6
    by_cases h4 : ob.fl = 4
    · have h4' : ob'.fl = 4 := by
        rcases g4 with h | h
        · rw [h4] at h; exact absurd h.2 (by decide)
        · rw [h, h4]
      obtain ⟨hd, es, ck, l, b1, b2, b3⟩ := (ok.ob _ _ g2).2.2 h4
      exact ⟨by rw [← g3]; exact a0, fun h => absurd h4' h, fun _ => ⟨hd, es, ck, l, (ph_live h1 g2 _).trans b1, b2, by rw [← g7 h4']; exact b3⟩⟩
    have h4' : ob'.fl ≠ 4 := by
      rcases g4 with h | h
      · rw [h.1]; decide
      · rw [h]; exact h4
    have g4 : ob'.fl = 0 ∨ ob'.fl = ob.fl := g4.imp (fun h => h.1) id
    have hin := g6 hin
    rcases ((ok.ob _ _ g2).row h4) with ⟨a1, a2⟩ | ⟨hd, c, ty, a1, a2, a3, a4, a5⟩
    · exact obRow (by rw [← g3]; exact a0) h4' (.inl ⟨List.eq_nil_of_length_eq_zero (by rw [← hlen, a1]; rfl), (ph_live h1 g2 _).trans a2⟩)
    · refine obRow (by rw [← g3]; exact a3.wd0) h4' (.inr ⟨hd, c, ty, (ph_live h1 g2 _).trans a1, a2, ⟨by rw [← g3]; exact a3.wd0, fun e he => ?_, by rw [← hlen]; exact a3.le, a3.cap, by rw [← g3]; exact a3.size, a3.one⟩, fun hf => ?_, fun i e j x hi hj => ?_⟩)
      · obtain ⟨i, hi, rfl⟩ := List.mem_iff_getElem.1 he
        obtain ⟨x, hx, h6⟩ := tlR_at g5 (List.getElem?_eq_getElem hi)
        rw [← (tlC_at h6).1, a3.len x (List.mem_of_getElem? hx), g3]
      · rw [← hlen]
        refine a4 ?_
        rcases g4 with h | h
        · exact absurd h hf
        · rw [← h]; exact hf
      · obtain ⟨e0, he0, h6⟩ := tlR_at g5 hi
        obtain ⟨x0, hx0, h7⟩ := (tlC_at h6).2 hj
        rw [← g3]
        exact repA_tl hH o ok h1 g2 h7 (inC_all hs' (inR_all hs' hin e (List.mem_of_getElem? hi)) x (List.mem_of_getElem? hj)) (a5 i e0 j x0 he0 hx0)
  · rw [h1] at g1
    cases g1
    exact obRow g5 (by rw [g4]; decide) (.inl ⟨g3, by simp [ph, h1, g2]⟩)
theorem heap_tl (o : OutOK fz r hs' g φ out) (ok : HeapOK h g φ) (hO : hs'.all (fun x => inO hs' x.2) = true) (hd : nodupB ((liveH hs').map fun x => rn r x.1) = true) : HeapOK h (get hs') (ph r hs' g φ out) := by
  refine ⟨fun n ob hn => ob_tl hH o ok hO hn, fun X hd hX => ok.lt _ _ (ph_some hX).1, fun X hd hX ho => ?_, fun b hb => ok.own_lt (o.own b hb), fun X Y hd1 hd2 hX hY hb => ?_⟩
  · obtain ⟨h1, ob', h2⟩ := ph_some hX
    exact o.no X.1 ob' X.2 hd h2 h1 ho
  · obtain ⟨h1, ob1, h2⟩ := ph_some hX
    obtain ⟨h3, ob2, h4⟩ := ph_some hY
    have := ok.inj _ _ _ _ h1 h3 hb
    simp only [Prod.mk.injEq] at this
    have := nodupB_inj hd (List.mem_filter.2 ⟨get_mem h2, rfl⟩) (List.mem_filter.2 ⟨get_mem h4, rfl⟩) this.1
    exact Prod.ext this (by simp_all)
theorem repC_tl (o : OutOK fz r hs' g φ out) (ok : HeapOK h g φ) : ∀ {xs ys : List A} {us : List Value}, tlC fz r g hs' xs ys → inC hs' ys = true → RepC h g φ xs us → RepC h (get hs') (ph r hs' g φ out) ys us
  | [], [], [], _, _, _ => trivial
  | x :: xs, y :: ys, u :: us, ht, hi, hr => by
    simp only [inC, Bool.and_eq_true] at hi
    exact ⟨repE_tl hH ok o ht.1 hi.1 hr.1, repC_tl o ok ht.2 hi.2 hr.2⟩
  | [], [], _ :: _, _, _, hr => hr.elim
  | _ :: _, _ :: _, [], _, _, hr => hr.elim
  | [], _ :: _, _, ht, _, _ => ht.elim
  | _ :: _, [], _, ht, _, _ => ht.elim
theorem repV_tl (o : OutOK fz r hs' g φ out) (ok : HeapOK h g φ) {ag : Bool} {xs ys : List A} {u : Value} (ht : tlC fz r g hs' xs ys) (hi : inC hs' ys = true) (hr : RepV h g φ ag xs u) : RepV h (get hs') (ph r hs' g φ out) ag ys u := by
  cases ag with
  | true => obtain ⟨c, rfl, hc⟩ := hr; exact ⟨c, rfl, repC_tl hH o ok ht hi hc⟩
  | false =>
    obtain ⟨x, rfl, hx⟩ := hr
    match ys, ht with
    | [y], ht =>
      simp only [inC, Bool.and_true] at hi
      exact ⟨y, rfl, repE_tl hH ok o ht.1 hi hx⟩
    | [], ht => exact ht.elim
    | _ :: _ :: _, ht => exact ht.2.elim
theorem repVs_tl (o : OutOK fz r hs' g φ out) (ok : HeapOK h g φ) : ∀ {xs ys : List (Bool × List A)} {us : List Value}, tlVs fz r g hs' xs ys → inP hs' ys = true → RepVs h g φ xs us → RepVs h (get hs') (ph r hs' g φ out) ys us
  | [], [], [], _, _, _ => trivial
  | x :: xs, (ag, cs) :: ys, u :: us, ht, hi, hr => by
    simp only [inP, Bool.and_eq_true] at hi
    refine ⟨?_, repVs_tl o ok ht.2.2 hi.2 hr.2⟩
    have := repV_tl hH o ok ht.2.1 hi.1 hr.1
    rw [ht.1] at this
    exact this
  | [], [], _ :: _, _, _, hr => hr.elim
  | _ :: _, _ :: _, [], _, _, hr => hr.elim
  | [], _ :: _, _, ht, _, _ => ht.elim
  | _ :: _, [], _, ht, _, _ => ht.elim
theorem repT_tl (o : OutOK fz r hs' g φ out) (ok : HeapOK h g φ) {x y : T} {u : Value} (ht : tlT fz r g hs' x y) (hi : inT hs' y = true) (hr : RepT h g φ x u) : RepT h (get hs') (ph r hs' g φ out) y u := by
  unfold tlT at ht
  split at ht
  · trivial
  · obtain ⟨rfl, ht⟩ := ht
    exact repV_tl hH o ok ht hi hr
  · obtain ⟨us, rfl, hr⟩ := hr
    exact ⟨us, rfl, repVs_tl hH o ok ht hi hr⟩
  · exact ht.elim
end
end Go.Proofs.YtecnmodeggnjoaaGreat.Ac
