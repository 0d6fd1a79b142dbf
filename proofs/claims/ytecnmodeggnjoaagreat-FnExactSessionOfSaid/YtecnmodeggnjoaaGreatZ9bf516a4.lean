/- Several of our texts, one behind the other, without what this claim does not need: AcD, AcE. -/
import Derived.Test.YtecnmodeggnjoaaGreatZ0b19c351
set_option linter.unusedVariables false
set_option linter.unusedSimpArgs false
namespace Go.Proofs.YtecnmodeggnjoaaGreat.Ac
open Go.RowKit
section
variable {h h' : Array Obj} {H H' : Hp} {φ φ' : Phi}
theorem getLast_app (q : List (Nat × Nat)) (s : Nat × Nat) : (q ++ [s]).getLast? = some s := by simp
theorem of_getLast {q : List (Nat × Nat)} {s : Nat × Nat} (hq : q.getLast? = some s) : q.dropLast ++ [s] = q := by
  obtain ⟨hne, hs⟩ := List.getLast?_eq_some_iff.1 hq
  rw [hs]; simp
theorem set_get {es : List (List A)} {i j : Nat} {e : List A} {y : A} (he : es[i]? = some e) {i' j' : Nat} {e' : List A} {x : A} (h1 : (es.set i (e.set j y))[i']? = some e') (h2 : e'[j']? = some x) :
    (i' = i ∧ j' = j ∧ x = y) ∨ (¬ (i' = i ∧ j' = j) ∧ ∃ e0, es[i']? = some e0 ∧ e0[j']? = some x) := by
  have hi := (List.getElem?_eq_some_iff.1 he).1
  by_cases hii : i = i'
  · subst hii
    rw [List.getElem?_set_self hi] at h1
    cases h1
    by_cases hjj : j = j'
    · subst hjj
      have : j < (e.set j y).length := (List.getElem?_eq_some_iff.1 h2).1
      rw [List.getElem?_set_self (by simpa using this)] at h2
      cases h2
      exact .inl ⟨rfl, rfl, rfl⟩
    · rw [List.getElem?_set_ne hjj] at h2
      exact .inr ⟨fun h => hjj h.2.symm, e, he, h2⟩
  · rw [List.getElem?_set_ne hii] at h1
    exact .inr ⟨fun h => hii h.1.symm, e', h1, h2⟩
theorem RowOK.set {wd : Nat} {es : List (List A)} {hd : Hd} {c : Array Value} (ok : RowOK wd es hd c) {i j : Nat} {e : List A} {y : A} (he : es[i]? = some e) : RowOK wd (es.set i (e.set j y)) hd c :=
  ⟨ok.wd0, fun e' he' => by
    rcases List.mem_or_eq_of_mem_set he' with h | rfl
    · exact ok.len e' h
    · simpa using ok.len e (List.mem_of_getElem? he), by simpa using ok.le, ok.cap, ok.size, ok.one⟩
theorem xpl_ok (k : HeapOK h H φ) {n m : Nat} {ob : Ob} {i j : Nat} {e : List A} {wd : Nat} {ys : List (List A)} (hn : H n = some (some ob)) (hf4 : ob.fl ≠ 4) (hm : H m = none) (he : ob.es[i]? = some e) (hj : e[j]? = some (.ow wd ys)) :
    ∃ φ', HeapOK h (put1 (put1 H n (some ⟨ob.fl, ob.wd, ob.es.set i (e.set j (.row m 0 ys.length))⟩)) m (some ⟨0, wd, ys⟩)) φ' ∧
      Turn h H φ h (put1 (put1 H n (some ⟨ob.fl, ob.wd, ob.es.set i (e.set j (.row m 0 ys.length))⟩)) m (some ⟨0, wd, ys⟩)) φ' := by
  have hnm : n ≠ m := fun e => by rw [e, hm] at hn; cases hn
  let φ' : Phi := (φ.set n fun q => if q.getLast? = some (i, j) then none else φ (n, q)).set m fun q => φ (n, q ++ [(i, j)])
  have pm : ∀ q, φ' (m, q) = φ (n, q ++ [(i, j)]) := fun q => set_self _ _ _
  have pn : ∀ q, φ' (n, q) = if q.getLast? = some (i, j) then none else φ (n, q) := fun q => (set_ne _ hnm).trans (set_self _ _ _)
  have po : ∀ X : Place, X.1 ≠ m → X.1 ≠ n → φ' X = φ X := fun X h1 h2 => (set_ne _ h1).trans (set_ne _ h2)
  have own : ∀ X hd, φ' X = some hd → (∃ q, X = (m, q) ∧ φ (n, q ++ [(i, j)]) = some hd) ∨ (X.1 ≠ m ∧ (∀ q, X = (n, q) → q.getLast? ≠ some (i, j)) ∧ φ X = some hd) := by
    rintro ⟨l, q⟩ hd hX
    by_cases e1 : l = m
    · subst e1; rw [pm] at hX; exact .inl ⟨q, rfl, hX⟩
    · by_cases e2 : l = n
      · subst e2
        rw [pn] at hX
        by_cases e3 : q.getLast? = some (i, j)
        · rw [if_pos e3] at hX; cases hX
        · rw [if_neg e3] at hX
          refine .inr ⟨e1, fun q' hq' => ?_, hX⟩
          cases hq'; exact e3
      · rw [po _ e1 e2] at hX
        exact .inr ⟨e1, fun q' hq' => absurd (congrArg Prod.fst hq') e2, hX⟩
  have own' : ∀ X hd, φ' X = some hd → ∃ Y, φ Y = some hd := fun X hd hX => by
    rcases own X hd hX with ⟨q, _, hq⟩ | ⟨_, _, hq⟩
    · exact ⟨_, hq⟩
    · exact ⟨_, hq⟩
  have hphn : φ' (n, []) = φ (n, []) := by rw [pn]; simp
  have t : Turn h H φ h (put1 (put1 H n (some ⟨ob.fl, ob.wd, ob.es.set i (e.set j (.row m 0 ys.length))⟩)) m (some ⟨0, wd, ys⟩)) φ' := by
    refine ⟨rfl, fun b hb hO => ⟨?_, rfl⟩, fun l hl => ?_, fun l x hl => .inr ?_⟩
    · rintro ⟨X, hd, hX, rfl⟩
      obtain ⟨Y, hY⟩ := own' X hd hX
      exact hO ⟨Y, hd, hY, rfl⟩
    · have e1 : l ≠ m := fun e => by rw [e, hm] at hl; cases hl
      have e2 : l ≠ n := fun e => by rw [e, hn] at hl; cases hl
      rw [put1_ne _ e1, put1_ne _ e2]; exact hl
    · have e1 : l ≠ m := fun e => by rw [e, hm] at hl; cases hl
      rw [put1_ne _ e1]
      by_cases e2 : l = n
      · subst e2
        rw [hn] at hl
        cases hl
        exact ⟨_, put1_self _ _, hphn, rfl, by simp⟩
      · exact ⟨x, (put1_ne _ e2).trans hl, po _ e1 e2, rfl, Nat.le_refl _⟩
  have hobn := k.ob n ob hn
  refine ⟨φ', all_ob (fun l x hl => ?_) (fun X hd hX => ?_) (fun X hd hX ho => ?_) k.old (fun X Y hd1 hd2 hX hY hb => ?_), t⟩
  · by_cases e1 : l = m
    · subst e1
      rw [put1_self] at hl
      cases hl
      rcases (hobn.row hf4) with ⟨h0, _⟩ | ⟨hd, c, ty, h1, h2, h3, h4, h5⟩
      · rw [h0] at he; cases he
      · have r := h5 i e j _ he hj
        generalize c.getD (hd.off + i * ob.wd + j) undef = u at r
        cases r with
        | e _ _ _ r => cases r
        | nilo _ _ a hw hX => exact obRow hw (fun h => by cases h) (.inl ⟨rfl, by rw [pm]; exact hX⟩)
        | ow _ _ _ hd2 c2 ty2 hX hb ok hr =>
          refine obRow ok.wd0 (fun h => by cases h) (.inr ⟨hd2, c2, ty2, by rw [pm]; exact hX, hb, ok, fun h => absurd rfl h, fun i2 e2 j2 x2 hi2 hj2 => (hr i2 e2 j2 x2 hi2 hj2).keep (fun _ _ r => r.turn t) _ (fun q => ?_) fun _ _ _ => rfl⟩)
          rw [pm]; simp
    · rw [put1_ne _ e1] at hl
      by_cases e2 : l = n
      · subst e2
        rw [put1_self] at hl
        cases hl
        refine obRow hobn.1 hf4 ?_
        rcases (hobn.row hf4) with ⟨h0, _⟩ | ⟨hd, c, ty, h1, h2, h3, h4, h5⟩
        · rw [h0] at he; cases he
        · refine .inr ⟨hd, c, ty, hphn.trans h1, h2, h3.set he, by simpa using h4, fun i2 e2 j2 x2 hi2 hj2 => ?_⟩
          rcases set_get he hi2 hj2 with ⟨rfl, rfl, rfl⟩ | ⟨hne, e0, g1, g2⟩
          · refine .e _ _ _ (.row _ _ _ _ ?_)
            have r := h5 i2 e j2 _ he hj
            dsimp only
            generalize c.getD (hd.off + i2 * ob.wd + j2) undef = u at r ⊢
            refine ⟨r.one, ?_⟩
            rw [put1_self]
            dsimp only
            refine ⟨Nat.zero_le _, Nat.le_refl _, ?_⟩
            rw [pm]
            cases r with
            | e _ _ _ r => cases r
            | nilo _ _ a hw hX => rw [List.nil_append, hX]; exact ⟨a, rfl⟩
            | ow _ _ _ hd2 c2 ty2 hX hb ok hr => rw [List.nil_append, hX]; exact ⟨_, rfl, fun _ => by simp⟩
          · refine (h5 i2 e0 j2 x2 g1 g2).keep (fun _ _ r => r.turn t) _ (fun q => ?_) fun _ _ _ => rfl
            rw [pn, getLast_app, if_neg]
            intro h; cases h; exact hne ⟨rfl, rfl⟩
      · rw [put1_ne _ e2] at hl
        exact (k.ob l x hl).keep (fun _ _ r => r.turn t) (fun q => po _ e1 e2) fun _ _ _ => rfl
  · obtain ⟨Y, hY⟩ := own' X hd hX; exact k.lt Y hd hY
  · obtain ⟨Y, hY⟩ := own' X hd hX; exact k.apart Y hd hY ho
  · rcases own X hd1 hX with ⟨q, rfl, hq⟩ | ⟨a1, a2, hq⟩ <;> rcases own Y hd2 hY with ⟨q', rfl, hq'⟩ | ⟨a1', a2', hq'⟩
    · have := k.inj _ _ _ _ hq hq' hb
      simp only [Prod.mk.injEq, true_and, List.append_cancel_right_eq] at this
      rw [this]
    · have := k.inj _ _ _ _ hq hq' hb
      exact absurd (getLast_app q (i, j)) (a2' _ this.symm)
    · have := k.inj _ _ _ _ hq hq' hb
      exact absurd (getLast_app q' (i, j)) (a2 _ this)
    · exact k.inj _ _ _ _ hq hq' hb
theorem imp_ok (k : HeapOK h H φ) {n m : Nat} {ob mob : Ob} {i j len : Nat} {e : List A} (hn : H n = some (some ob)) (hf4 : ob.fl ≠ 4) (hm : H m = some (some mob)) (hm4 : mob.fl ≠ 4) (hnm : n ≠ m) (he : ob.es[i]? = some e) (hj : e[j]? = some (.row m 0 len)) :
    ∃ φ', HeapOK h (put1 (put1 H m none) n (some ⟨ob.fl, ob.wd, ob.es.set i (e.set j (.ow mob.wd (mob.es.take len)))⟩)) φ' ∧
      Turn h H φ h (put1 (put1 H m none) n (some ⟨ob.fl, ob.wd, ob.es.set i (e.set j (.ow mob.wd (mob.es.take len)))⟩)) φ' ∧ (∀ p, φ p = none → (∀ q, p ≠ (n, q)) → φ' p = none) ∧ φ' (n, []) = φ (n, []) ∧ ∀ q, φ' (m, q) = none := by
  let φ' : Phi := (φ.set n fun q => if q.getLast? = some (i, j) then φ (m, q.dropLast) else φ (n, q)).set m fun _ => none
  have pm : ∀ q, φ' (m, q) = none := fun q => set_self _ _ _
  have pn : ∀ q, φ' (n, q) = if q.getLast? = some (i, j) then φ (m, q.dropLast) else φ (n, q) := fun q => (set_ne _ hnm).trans (set_self _ _ _)
  have pn' : ∀ q, φ' (n, q ++ [(i, j)]) = φ (m, q) := fun q => by rw [pn, getLast_app, if_pos rfl, List.dropLast_concat]
  have po : ∀ X : Place, X.1 ≠ m → X.1 ≠ n → φ' X = φ X := fun X h1 h2 => (set_ne _ h1).trans (set_ne _ h2)
  have own : ∀ X hd, φ' X = some hd → (∃ q, X = (n, q ++ [(i, j)]) ∧ φ (m, q) = some hd) ∨ (X.1 ≠ m ∧ φ X = some hd ∧ ∀ q, X ≠ (n, q ++ [(i, j)])) := by
    rintro ⟨l, q⟩ hd hX
    by_cases e1 : l = m
    · subst e1; rw [pm] at hX; cases hX
    · by_cases e2 : l = n
      · subst e2
        rw [pn] at hX
        by_cases e3 : q.getLast? = some (i, j)
        · rw [if_pos e3] at hX
          exact .inl ⟨q.dropLast, by rw [of_getLast e3], hX⟩
        · rw [if_neg e3] at hX
          refine .inr ⟨e1, hX, fun q' hq' => ?_⟩
          cases hq'; exact e3 (getLast_app _ _)
      · rw [po _ e1 e2] at hX
        exact .inr ⟨e1, hX, fun q' hq' => e2 (congrArg Prod.fst hq')⟩
  have own' : ∀ X hd, φ' X = some hd → ∃ Y, φ Y = some hd := fun X hd hX => by
    rcases own X hd hX with ⟨q, _, hq⟩ | ⟨_, hq, _⟩
    · exact ⟨_, hq⟩
    · exact ⟨_, hq⟩
  have hphn : φ' (n, []) = φ (n, []) := by rw [pn]; simp
  have t : Turn h H φ h (put1 (put1 H m none) n (some ⟨ob.fl, ob.wd, ob.es.set i (e.set j (.ow mob.wd (mob.es.take len)))⟩)) φ' := by
    refine ⟨rfl, fun b hb hO => ⟨?_, rfl⟩, fun l hl => ?_, fun l x hl => ?_⟩
    · rintro ⟨X, hd, hX, rfl⟩
      obtain ⟨Y, hY⟩ := own' X hd hX
      exact hO ⟨Y, hd, hY, rfl⟩
    · have e1 : l ≠ m := fun e => by rw [e, hm] at hl; cases hl
      have e2 : l ≠ n := fun e => by rw [e, hn] at hl; cases hl
      rw [put1_ne _ e2, put1_ne _ e1]; exact hl
    · by_cases e2 : l = n
      · subst e2
        rw [hn] at hl
        cases hl
        exact .inr ⟨_, put1_self _ _, hphn, rfl, by simp⟩
      · rw [put1_ne _ e2]
        by_cases e1 : l = m
        · subst e1; exact .inl (put1_self _ _)
        · exact .inr ⟨x, (put1_ne _ e1).trans hl, po _ e1 e2, rfl, Nat.le_refl _⟩
  have hobn := k.ob n ob hn
  have hobm := k.ob m mob hm
  refine ⟨φ', all_ob (fun l x hl => ?_) (fun X hd hX => ?_) (fun X hd hX ho => ?_) k.old (fun X Y hd1 hd2 hX hY hb => ?_), t, fun p hp hp2 => ?_, hphn, pm⟩
  · by_cases e2 : l = n
    · subst e2
      rw [put1_self] at hl
      cases hl
      refine obRow hobn.1 hf4 ?_
      rcases (hobn.row hf4) with ⟨h0, _⟩ | ⟨hd, c, ty, h1, h2, h3, h4, h5⟩
      · rw [h0] at he; cases he
      · refine .inr ⟨hd, c, ty, hphn.trans h1, h2, h3.set he, by simpa using h4, fun i2 e2 j2 x2 hi2 hj2 => ?_⟩
        rcases set_get he hi2 hj2 with ⟨rfl, rfl, rfl⟩ | ⟨hne, e0, g1, g2⟩
        · have r := h5 i2 e j2 _ he hj
          dsimp only
          generalize c.getD (hd.off + i2 * ob.wd + j2) undef = u at r ⊢
          cases r with
          | e _ _ _ r =>
            cases r with
            | row _ _ _ _ r =>
              have r2 := r.2
              rw [hm] at r2
              dsimp only at r2
              obtain ⟨_, hle, r3⟩ := r2
              rcases (hobm.row hm4) with ⟨g0, g1⟩ | ⟨hd2, c2, ty2, g1, g2, g3, g4, g5⟩
              · rw [g1] at r3
                obtain ⟨a, rfl⟩ := r3
                rw [g0]
                simp only [List.take_nil]
                exact .nilo _ _ a hobm.1 ((pn' []).trans g1)
              · rw [g1] at r3
                obtain ⟨a, rfl, ha⟩ := r3
                rw [ha (.inl rfl)]
                have hl2 : (mob.es.take len).length = len := by simp; omega
                simp only [Nat.zero_mul, Nat.add_zero, Nat.sub_zero]
                have := RepA.ow (h := h) (H := put1 (put1 H m none) l (some ⟨ob.fl, ob.wd, ob.es.set i2 (e.set j2 (.ow mob.wd (mob.es.take len)))⟩)) (φ := φ') (l, [(i2, j2)]) mob.wd (mob.es.take len) hd2 c2 ty2 ((pn' []).trans g1) g2
                  ⟨g3.wd0, fun e he => g3.len e (List.mem_of_mem_take he), by rw [hl2]; exact Nat.le_trans hle g3.le, g3.cap, g3.size, g3.one⟩ (fun i3 e3 j3 x3 hi3 hj3 => ?_)
                · rw [hl2] at this; exact this
                · rw [List.getElem?_take] at hi3
                  split at hi3
                  · refine (g5 i3 e3 j3 x3 hi3 hj3).keep (fun _ _ r => r.turn t) _ (fun q => ?_) fun _ _ _ => rfl
                    have := pn' (q ++ [(i3, j3)])
                    simpa using this
                  · cases hi3
        · refine (h5 i2 e0 j2 x2 g1 g2).keep (fun _ _ r => r.turn t) _ (fun q => ?_) fun _ _ _ => rfl
          rw [pn, getLast_app, if_neg]
          intro h; cases h; exact hne ⟨rfl, rfl⟩
    · rw [put1_ne _ e2] at hl
      have e1 : l ≠ m := fun e => by rw [e, put1_self] at hl; cases hl
      rw [put1_ne _ e1] at hl
      exact (k.ob l x hl).keep (fun _ _ r => r.turn t) (fun q => po _ e1 e2) fun _ _ _ => rfl
  · obtain ⟨Y, hY⟩ := own' X hd hX; exact k.lt Y hd hY
  · obtain ⟨Y, hY⟩ := own' X hd hX; exact k.apart Y hd hY ho
  · rcases own X hd1 hX with ⟨q, rfl, hq⟩ | ⟨a1, hq, a2⟩ <;> rcases own Y hd2 hY with ⟨q', rfl, hq'⟩ | ⟨a1', hq', a2'⟩
    · have := k.inj _ _ _ _ hq hq' hb
      simp only [Prod.mk.injEq, true_and] at this
      rw [this]
    · have := k.inj _ _ _ _ hq hq' hb
      exact absurd (congrArg Prod.fst this).symm a1'
    · have := k.inj _ _ _ _ hq hq' hb
      exact absurd (congrArg Prod.fst this) a1
    · exact k.inj _ _ _ _ hq hq' hb
  · by_cases e1 : p.1 = m
    · have := pm p.2; rwa [← e1] at this
    · have e2 : p.1 ≠ n := fun e => hp2 p.2 (by rw [← e])
      rw [po _ e1 e2]; exact hp
end
end Go.Proofs.YtecnmodeggnjoaaGreat.Ac
set_option linter.unusedVariables false
set_option linter.unusedSimpArgs false
namespace Go.Proofs.YtecnmodeggnjoaaGreat.Ac
open Go.RowKit
inductive Out : Type 1 where
  | no
  | ok (v : T) (u : List (Nat × Option Ob))
  | rd (n : Nat) (k : Option (Option Ob) → Out)
  | spl (c : Prop) (a b : Out)
  | con (c : Prop) (a : Out)
  | ex {α : Type} (p : α → Prop) (f : α → Out)
  | all {α : Type} (p : α → Prop) (f : α → Out)
def Out.K (sq : Bool) (g : Hp) : Out → List Nat → (Eff → Prop) → Prop
  | .no, _, _ => False
  | .ok v u, rs, k => k ⟨v, rs, u⟩
  | .rd n f, rs, k => (f (g n)).K sq g (n :: rs) k
  | .spl c a b, rs, k => (c → a.K sq g rs k) ∧ (¬ c → b.K sq g rs k)
  | .con c a, rs, k => c ∧ a.K sq g rs k
  | .ex p f, rs, k => ∃ x, p x ∧ (f x).K sq g rs k
  | .all p f, rs, k => match sq with
    | true => ∀ x, p x → (f x).K sq g rs k
    | false => False
section
variable {g g' : Hp} {ε : Eff} {k k' : Eff → Prop}
theorem Out.mono (hk : ∀ ε, k ε → k' ε) {sq : Bool} : ∀ (o : Out) (rs : List Nat), o.K sq g rs k → o.K sq g rs k'
  | .no, _, h => h
  | .ok v u, rs, h => hk _ h
  | .rd n f, rs, h => Out.mono hk (f (g n)) _ h
  | .spl c a b, rs, h => ⟨fun hc => Out.mono hk a rs (h.1 hc), fun hc => Out.mono hk b rs (h.2 hc)⟩
  | .con c a, rs, h => ⟨h.1, Out.mono hk a rs h.2⟩
  | .ex p f, rs, ⟨x, hx, h⟩ => ⟨x, hx, Out.mono hk (f x) rs h⟩
  | .all p f, rs, h => by
    cases sq with
    | true => exact fun x hx => Out.mono hk (f x) rs (h x hx)
    | false => exact h
theorem Out.seq : ∀ (o : Out) (rs : List Nat), o.K false g rs k → o.K true g rs k
  | .no, _, h => h
  | .ok v u, rs, h => h
  | .rd n f, rs, h => Out.seq (f (g n)) _ h
  | .spl c a b, rs, h => ⟨fun hc => Out.seq a rs (h.1 hc), fun hc => Out.seq b rs (h.2 hc)⟩
  | .con c a, rs, h => ⟨h.1, Out.seq a rs h.2⟩
  | .ex p f, rs, ⟨x, hx, h⟩ => ⟨x, hx, Out.seq (f x) rs h⟩
  | .all p f, rs, h => h.elim
theorem Out.elim : ∀ (o : Out) (rs : List Nat), o.K false g rs k → ∃ ε, o.K false g rs (fun ε' => ε' = ε) ∧ k ε
  | .no, _, h => h.elim
  | .ok v u, rs, h => ⟨_, rfl, h⟩
  | .rd n f, rs, h => Out.elim (f (g n)) _ h
  | .spl c a b, rs, h => by
    by_cases hc : c
    · obtain ⟨ε, h1, h2⟩ := Out.elim a rs (h.1 hc)
      exact ⟨ε, ⟨fun _ => h1, fun h => absurd hc h⟩, h2⟩
    · obtain ⟨ε, h1, h2⟩ := Out.elim b rs (h.2 hc)
      exact ⟨ε, ⟨fun h => absurd h hc, fun _ => h1⟩, h2⟩
  | .con c a, rs, h => by
    obtain ⟨ε, h1, h2⟩ := Out.elim a rs h.2
    exact ⟨ε, ⟨h.1, h1⟩, h2⟩
  | .ex p f, rs, ⟨x, hx, h⟩ => by
    obtain ⟨ε, h1, h2⟩ := Out.elim (f x) rs h
    exact ⟨ε, ⟨x, hx, h1⟩, h2⟩
  | .all p f, rs, h => h.elim
theorem Out.reads : ∀ (o : Out) (rs : List Nat), o.K false g rs (fun ε' => ε' = ε) → ∀ n ∈ rs, n ∈ ε.rdn
  | .no, _, h => h.elim
  | .ok v u, rs, h => by cases h; exact fun n hn => hn
  | .rd n f, rs, h => fun m hm => Out.reads (f (g n)) _ h m (List.mem_cons_of_mem _ hm)
  | .spl c a b, rs, h => by
    by_cases hc : c
    · exact Out.reads a rs (h.1 hc)
    · exact Out.reads b rs (h.2 hc)
  | .con c a, rs, h => Out.reads a rs h.2
  | .ex p f, rs, ⟨x, _, h⟩ => Out.reads (f x) rs h
  | .all p f, rs, h => h.elim
theorem Out.local (hg : ∀ n ∈ names ε, g' n = g n) : ∀ (o : Out) (rs : List Nat), o.K false g rs (fun ε' => ε' = ε) → o.K false g' rs (fun ε' => ε' = ε)
  | .no, _, h => h
  | .ok v u, rs, h => h
  | .rd n f, rs, h => by
    have hn : n ∈ ε.rdn := Out.reads (f (g n)) _ h n List.mem_cons_self
    show (f (g' n)).K false g' (n :: rs) _
    rw [hg n (List.mem_append_left _ hn)]
    exact Out.local hg (f (g n)) _ h
  | .spl c a b, rs, h => ⟨fun hc => Out.local hg a rs (h.1 hc), fun hc => Out.local hg b rs (h.2 hc)⟩
  | .con c a, rs, h => ⟨h.1, Out.local hg a rs h.2⟩
  | .ex p f, rs, ⟨x, hx, h⟩ => ⟨x, hx, Out.local hg (f x) rs h⟩
  | .all p f, rs, h => h.elim
end
structure Sim (w₀ : World) (H₀ : Hp) (φ₀ : Phi) (N : Nat) (e : Env) (g : Hp) (φ : Phi) (a : Act) (w : World) : Prop where
  env : ∀ t x, e t = some x → RepT w.heap g φ x (a.eval (.tmp t))
  sz : a.tmps.size = N
  dfr : a.defers = []
  ok : HeapOK w.heap g φ
  turn : Turn w₀.heap H₀ φ₀ w.heap g φ
  os : w.os = w₀.os
  tape : w.tape = w₀.tape
  output : w.output = w₀.output
  size : w₀.heap.size ≤ w.heap.size
section
variable {P : Program} {w₀ : World} {H₀ : Hp} {φ₀ : Phi} {N : Nat} {e : Env} {g g' : Hp} {φ φ' : Phi} {a : Act} {w w' : World} {K : Act → World → Prop} {Q : Exit → Act → World → Prop} {ε : Eff}
theorem eval_put {d t : Nat} {u : Value} (hd : d < a.tmps.size) : (a.put (some d) u).eval (.tmp t) = if d = t then u else a.eval (.tmp t) := by
  simp only [Act.put, Act.eval]
  by_cases h : d = t
  · subst h; simp [hd]
  · simp [h, Array.getElem?_setIfInBounds_ne h]
theorem Sim.next (s : Sim w₀ H₀ φ₀ N e g φ a w) (t : Turn w.heap g φ w'.heap g' φ') (ok' : HeapOK w'.heap g' φ') (hos : w'.os = w.os) (htape : w'.tape = w.tape) (hout : w'.output = w.output) (hsize : w.heap.size ≤ w'.heap.size)
    {d : Option Tmp} {v : T} {u : Value} (hd : ∀ x, d = some x → x < N) (hv : d ≠ none → RepT w'.heap g' φ' v u) : Sim w₀ H₀ φ₀ N (putE d v e) g' φ' (a.put d u) w' := by
  refine ⟨fun i x hx => ?_, ?_, ?_, ok', s.turn.trans t, hos.trans s.os, htape.trans s.tape, hout.trans s.output, Nat.le_trans s.size hsize⟩
  · cases d with
    | none => exact (s.env i x hx).mono fun _ _ r => r.turn t
    | some d =>
      rw [eval_put (by rw [s.sz]; exact hd d rfl)]
      by_cases hdi : d = i
      · subst hdi
        simp only [putE, Nat.beq_refl, cond_true, Option.some.injEq] at hx
        subst hx
        simpa using hv (by simp)
      · rw [putE_ne (by simpa using hdi)] at hx
        rw [if_neg hdi]
        exact (s.env i x hx).mono fun _ _ r => r.turn t
  · cases d with
    | none => exact s.sz
    | some d => simpa [Act.put] using s.sz
  · cases d <;> exact s.dfr
def Does (P : Program) (w : World) (g : Hp) (φ : Phi) (s : Sem Next) (ε : Eff) : Prop := ∃ n w' φ', s.run P w = .ok n w' ∧ (n = .skip ∨ ∃ u, n = .value u ∧ RepT w'.heap (putH ε.upd g) φ' ε.val u) ∧ (n = .skip → ε.val = .bot) ∧
  Turn w.heap g φ w'.heap (putH ε.upd g) φ' ∧ HeapOK w'.heap (putH ε.upd g) φ' ∧ w'.os = w.os ∧ w'.tape = w.tape ∧ w'.output = w.output ∧ w.heap.size ≤ w'.heap.size
def DoesO (P : Program) (w : World) (g : Hp) (φ : Phi) (s : Sem Next) (rs : List Nat) (o : Out) : Prop := ∀ k, o.K true g rs k → ∃ ε, k ε ∧ Does P w g φ s ε
theorem putH_one (n : Nat) (o : Option Ob) (g : Hp) : putH [(n, o)] g = put1 g n o := by
  funext m
  by_cases h : m = n
  · subst h; simp [putH, get, put1]
  · simp only [putH, put1, h, if_false]
    rw [get_cons_ne _ _ (Ne.symm h)]; rfl
theorem putH_cons (n : Nat) (o : Option Ob) (u : List (Nat × Option Ob)) (g : Hp) : putH ((n, o) :: u) g = put1 (putH u g) n o := by
  funext m
  by_cases h : m = n
  · subst h; simp [putH, get, put1]
  · simp only [putH, put1, h, if_false]
    rw [get_cons_ne _ _ (Ne.symm h)]
theorem Does.value {s : Sem Next} {v : T} {u : Value} {rd : List Nat} (ok : HeapOK w.heap g φ) (hrun : s.run P w = .ok (.value u) w) (hv : RepT w.heap g φ v u) : Does P w g φ s ⟨v, rd, []⟩ :=
  ⟨_, w, φ, hrun, .inr ⟨u, rfl, hv⟩, fun h => (by cases h), Turn.refl _ _ _, ok, rfl, rfl, rfl, Nat.le_refl _⟩
theorem Does.made {s : Sem Next} {v : T} {u : Value} {rd : List Nat} {us : List (Nat × Option Ob)} {w' : World} {φ' : Phi} (hrun : s.run P w = .ok (.value u) w') (ok : HeapOK w'.heap (putH us g) φ') (t : Turn w.heap g φ w'.heap (putH us g) φ')
    (hv : RepT w'.heap (putH us g) φ' v u) (h1 : w'.os = w.os) (h2 : w'.tape = w.tape) (h3 : w'.output = w.output) (h4 : w.heap.size ≤ w'.heap.size) : Does P w g φ s ⟨v, rd, us⟩ :=
  ⟨_, w', φ', hrun, .inr ⟨u, rfl, hv⟩, fun h => (by cases h), t, ok, h1, h2, h3, h4⟩
theorem Does.skip {s : Sem Next} {rd : List Nat} {us : List (Nat × Option Ob)} {w' : World} {φ' : Phi} (hrun : s.run P w = .ok .skip w') (ok : HeapOK w'.heap (putH us g) φ') (t : Turn w.heap g φ w'.heap (putH us g) φ')
    (h1 : w'.os = w.os) (h2 : w'.tape = w.tape) (h3 : w'.output = w.output) (h4 : w.heap.size ≤ w'.heap.size) : Does P w g φ s ⟨.bot, rd, us⟩ :=
  ⟨_, w', φ', hrun, .inl rfl, fun _ => rfl, t, ok, h1, h2, h3, h4⟩
theorem wp_ok {o : Oper} {v : Value} {w' : World} (hrun : (execOp a.eval o).run P w = .ok (.value v) w') (h : K (a.put o.dst v) w') : o.wp P a w K Q := by
  unfold Oper.wp
  rw [hrun]; exact h
theorem wp_skipped {o : Oper} {w' : World} (hrun : (execOp a.eval o).run P w = .ok .skip w') (h : K (a.put o.dst undef) w') : o.wp P a w K Q := by
  unfold Oper.wp
  rw [hrun]; exact h
def SimS (w₀ : World) (H₀ : Hp) (φ₀ : Phi) (N : Nat) (e : Env) (g : Hp) (a : Act) (w : World) : Prop := ∃ φ, Sim w₀ H₀ φ₀ N e g φ a w
theorem Does.wp {o : Oper} (s : Sim w₀ H₀ φ₀ N e g φ a w) (hd : ∀ x, o.dst = some x → x < N) (h : Does P w g φ (execOp a.eval o) ε)
    (hK : ∀ a' w', SimS w₀ H₀ φ₀ N (putE o.dst ε.val e) (putH ε.upd g) a' w' → K a' w') : o.wp P a w K Q := by
  obtain ⟨n, w', φ', hrun, hn, hb, ht, ok, h1, h2, h3, h4⟩ := h
  rcases hn with rfl | ⟨u, rfl, hu⟩
  · refine wp_skipped hrun (hK _ _ ⟨φ', s.next ht ok h1 h2 h3 h4 hd fun _ => ?_⟩)
    rw [hb rfl]; trivial
  · exact wp_ok hrun (hK _ _ ⟨φ', s.next ht ok h1 h2 h3 h4 hd fun _ => hu⟩)
end
inductive Lay where
  | w (d : TypeDesc) (z : A) (bt : Nat)
  | st (sz : Nat) (z : List A) (fs : List (Nat × Nat × Bool)) (bt : Nat)
def _root_.Go.TypeDesc.aggD : TypeDesc → Bool
  | .struct _ | .array _ _ => true
  | _ => false
def Lay.size : Lay → Nat
  | .w _ _ _ => 1
  | .st sz _ _ _ => sz
def Lay.zero : Lay → List A
  | .w _ z _ => [z]
  | .st _ z _ _ => z
def Lay.bt : Lay → Nat
  | .w _ _ b => b
  | .st _ _ _ b => b
abbrev Tab := Nat → Option Lay
def constA : Value → A
  | .slice none 0 0 => .nl
  | x => .f (.v x)
def constT : Value → T
  | .agg cs => .val true (cs.toList.map constA)
  | .tuple _ => .bot
  | x => .val false [constA x]
structure TabOK (P : Program) (tb : Tab) : Prop where
  w : ∀ i d z bt, tb i = some (.w d z bt) → P.underlying i = some d ∧ d.aggD = false ∧ ∃ inf zv, P.info? i = some inf ∧ inf.size = 1 ∧ inf.zero = some zv ∧ zv.oneCell' = true ∧ z = constA zv ∧ inf.bytes = bt
  st : ∀ i sz z fs bt, tb i = some (.st sz z fs bt) → ∃ inf fields zv, P.underlying i = some (.struct fields) ∧ P.info? i = some inf ∧ inf.size = sz ∧ inf.zero = some (.agg zv) ∧ z = zv.toList.map constA ∧
    zv.toList.all (·.oneCell') = true ∧ zv.size = sz ∧ inf.bytes = bt ∧ fs.length = fields.size ∧ ∀ (f : Nat) (x : Nat × Nat × Bool), fs[f]? = some x → ∃ fd inf', fields[f]? = some fd ∧ fd.offset = x.1 ∧ P.info? fd.type = some inf' ∧ inf'.size = x.2.1 ∧ x.2.1 ≠ 0 ∧ x.1 + x.2.1 ≤ sz ∧ ∃ d', P.underlying fd.type = some d' ∧ d'.aggD = x.2.2
def evT (e : Env) : Operand → T
  | .tmp t => (e t).getD .bot
  | .const v => constT v
  | .global _ => .bot
  | .func f => .val false [.f (.cl f [])]
section
variable {w₀ : World} {H₀ : Hp} {φ₀ : Phi} {N : Nat} {e : Env} {g : Hp} {φ : Phi} {a : Act} {w : World} {h : Array Obj} {H : Hp}
theorem constA_ok {v : Value} (hv : v.oneCell' = true) : RepE h H φ (constA v) v := by
  unfold constA
  split
  · exact .nl _
  · exact .f _ _ (.v v hv)
theorem constC_ok : ∀ {cs : List Value}, cs.all (·.oneCell') = true → RepC h H φ (cs.map constA) cs
  | [], _ => trivial
  | v :: cs, hc => by
    simp only [List.all_cons, Bool.and_eq_true] at hc
    exact ⟨constA_ok hc.1, constC_ok hc.2⟩
def constOK : Value → Bool
  | .agg cs => cs.toList.all (·.oneCell')
  | _ => true
def operOK : Operand → Bool
  | .const v => constOK v
  | _ => true
theorem ev_ok (s : Sim w₀ H₀ φ₀ N e g φ a w) {x : Operand} (hx : operOK x = true) : RepT w.heap g φ (evT e x) (a.eval x) := by
  cases x with
  | tmp t =>
    simp only [evT]
    cases ht : e t with
    | none => trivial
    | some v => exact s.env t v ht
  | const v =>
    simp only [evT, Act.eval]
    unfold constT
    split
    · rename_i cs
      exact ⟨cs, rfl, constC_ok (by simpa [operOK, constOK] using hx)⟩
    · trivial
    · rename_i h1 h2
      exact ⟨_, rfl, constA_ok (by cases v <;> first | rfl | exact absurd rfl (h1 _) | exact absurd rfl (h2 _))⟩
  | global n => trivial
  | func f => exact ⟨_, rfl, .f _ _ (.cl f [] #[] rfl (fun i x hi => by simp at hi) fun i x j y hi => by simp at hi)⟩
end
end Go.Proofs.YtecnmodeggnjoaaGreat.Ac
