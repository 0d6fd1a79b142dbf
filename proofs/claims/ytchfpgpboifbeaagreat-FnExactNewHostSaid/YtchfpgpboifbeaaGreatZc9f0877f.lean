/- Several of our texts, one behind the other, without what this claim does not need: AcD, AcE, AcF. -/
import Derived.Test.YtchfpgpboifbeaaGreatZ6514ee70
set_option linter.unusedVariables false
set_option linter.unusedSimpArgs false
namespace Go.Proofs.YtchfpgpboifbeaaGreat.Ac
open Go.RowKit
section
variable {h h' : Array Obj} {H H' : Hp} {φ φ' : Phi}
theorem getLast_app (q : List (Nat × Nat)) (s : Nat × Nat) : (q ++ [s]).getLast? = some s := by simp
theorem of_getLast {q : List (Nat × Nat)} {s : Nat × Nat} (hq : q.getLast? = some s) : q.dropLast ++ [s] = q := by
  obtain ⟨hne, hs⟩ := List.getLast?_eq_some_iff.1 hq
  rw [hs]; simp
theorem set_get {es : List (List A)} {i j : Nat} {e : List A} {y : A} (he : es[i]? = some e) {i' j' : Nat} {e' : List A} {x : A} (h1 : (es.set i (e.set j y))[i']? = some e') (h2 : e'[j']? = some x) :
    (i' = i ∧ j' = j ∧ x = y) ∨ (¬ (i' = i ∧ j' = j) ∧ ∃ e0, es[i']? = some e0 ∧ e0[j']? = some x) := by
  have hi := (List.getElem?_eq_some_iff.1 he).1
  by_cases hii : i = i'
  · subst hii
    rw [List.getElem?_set_self hi] at h1
    cases h1
    by_cases hjj : j = j'
    · subst hjj
      have : j < (e.set j y).length := (List.getElem?_eq_some_iff.1 h2).1
      rw [List.getElem?_set_self (by simpa using this)] at h2
      cases h2
      exact .inl ⟨rfl, rfl, rfl⟩
    · rw [List.getElem?_set_ne hjj] at h2
      exact .inr ⟨fun h => hjj h.2.symm, e, he, h2⟩
  · rw [List.getElem?_set_ne hii] at h1
    exact .inr ⟨fun h => hii h.1.symm, e', h1, h2⟩
theorem RowOK.set {wd : Nat} {es : List (List A)} {hd : Hd} {c : Array Value} (ok : RowOK wd es hd c) {i j : Nat} {e : List A} {y : A} (he : es[i]? = some e) : RowOK wd (es.set i (e.set j y)) hd c :=
  ⟨ok.wd0, fun e' he' => by
    rcases List.mem_or_eq_of_mem_set he' with h | rfl
    · exact ok.len e' h
    · simpa using ok.len e (List.mem_of_getElem? he), by simpa using ok.le, ok.cap, ok.size, ok.one⟩
theorem xpl_ok (k : HeapOK h H φ) {n m : Nat} {ob : Ob} {i j : Nat} {e : List A} {wd : Nat} {ys : List (List A)} (hn : H n = some (some ob)) (hf4 : ob.fl ≠ 4) (hm : H m = none) (he : ob.es[i]? = some e) (hj : e[j]? = some (.ow wd ys)) :
    ∃ φ', HeapOK h (put1 (put1 H n (some ⟨ob.fl, ob.wd, ob.es.set i (e.set j (.row m 0 ys.length))⟩)) m (some ⟨0, wd, ys⟩)) φ' ∧
      Turn h H φ h (put1 (put1 H n (some ⟨ob.fl, ob.wd, ob.es.set i (e.set j (.row m 0 ys.length))⟩)) m (some ⟨0, wd, ys⟩)) φ' := by
  have hnm : n ≠ m := fun e => by rw [e, hm] at hn; cases hn
  let φ' : Phi := (φ.set n fun q => if q.getLast? = some (i, j) then none else φ (n, q)).set m fun q => φ (n, q ++ [(i, j)])
  have pm : ∀ q, φ' (m, q) = φ (n, q ++ [(i, j)]) := fun q => set_self _ _ _
  have pn : ∀ q, φ' (n, q) = if q.getLast? = some (i, j) then none else φ (n, q) := fun q => (set_ne _ hnm).trans (set_self _ _ _)
  have po : ∀ X : Place, X.1 ≠ m → X.1 ≠ n → φ' X = φ X := fun X h1 h2 => (set_ne _ h1).trans (set_ne _ h2)
  have own : ∀ X hd, φ' X = some hd → (∃ q, X = (m, q) ∧ φ (n, q ++ [(i, j)]) = some hd) ∨ (X.1 ≠ m ∧ (∀ q, X = (n, q) → q.getLast? ≠ some (i, j)) ∧ φ X = some hd) := by
    rintro ⟨l, q⟩ hd hX
    by_cases e1 : l = m
    · subst e1; rw [pm] at hX; exact .inl ⟨q, rfl, hX⟩
    · by_cases e2 : l = n
      · subst e2
        rw [pn] at hX
        by_cases e3 : q.getLast? = some (i, j)
        · rw [if_pos e3] at hX; cases hX
        · rw [if_neg e3] at hX
          refine .inr ⟨e1, fun q' hq' => ?_, hX⟩
          cases hq'; exact e3
      · rw [po _ e1 e2] at hX
        exact .inr ⟨e1, fun q' hq' => absurd (congrArg Prod.fst hq') e2, hX⟩
  have own' : ∀ X hd, φ' X = some hd → ∃ Y, φ Y = some hd := fun X hd hX => by
    rcases own X hd hX with ⟨q, _, hq⟩ | ⟨_, _, hq⟩
    · exact ⟨_, hq⟩
    · exact ⟨_, hq⟩
  have hphn : φ' (n, []) = φ (n, []) := by rw [pn]; simp
  have t : Turn h H φ h (put1 (put1 H n (some ⟨ob.fl, ob.wd, ob.es.set i (e.set j (.row m 0 ys.length))⟩)) m (some ⟨0, wd, ys⟩)) φ' := by
    refine ⟨rfl, fun b hb hO => ⟨?_, rfl⟩, fun l hl => ?_, fun l x hl => .inr ?_⟩
    · rintro ⟨X, hd, hX, rfl⟩
      obtain ⟨Y, hY⟩ := own' X hd hX
      exact hO ⟨Y, hd, hY, rfl⟩
    · have e1 : l ≠ m := fun e => by rw [e, hm] at hl; cases hl
      have e2 : l ≠ n := fun e => by rw [e, hn] at hl; cases hl
      rw [put1_ne _ e1, put1_ne _ e2]; exact hl
    · have e1 : l ≠ m := fun e => by rw [e, hm] at hl; cases hl
      rw [put1_ne _ e1]
      by_cases e2 : l = n
      · subst e2
        rw [hn] at hl
        cases hl
        exact ⟨_, put1_self _ _, hphn, rfl, by simp⟩
      · exact ⟨x, (put1_ne _ e2).trans hl, po _ e1 e2, rfl, Nat.le_refl _⟩
  have hobn := k.ob n ob hn
  refine ⟨φ', all_ob (fun l x hl => ?_) (fun X hd hX => ?_) (fun X hd hX ho => ?_) k.old (fun X Y hd1 hd2 hX hY hb => ?_), t⟩
  · by_cases e1 : l = m
    · subst e1
      rw [put1_self] at hl
      cases hl
      rcases (hobn.row hf4) with ⟨h0, _⟩ | ⟨hd, c, ty, h1, h2, h3, h4, h5⟩
      · rw [h0] at he; cases he
      · have r := h5 i e j _ he hj
        generalize c.getD (hd.off + i * ob.wd + j) undef = u at r
        cases r with
        | e _ _ _ r => cases r
        | nilo _ _ a hw hX => exact obRow hw (fun h => by cases h) (.inl ⟨rfl, by rw [pm]; exact hX⟩)
        | ow _ _ _ hd2 c2 ty2 hX hb ok hr =>
          refine obRow ok.wd0 (fun h => by cases h) (.inr ⟨hd2, c2, ty2, by rw [pm]; exact hX, hb, ok, fun h => absurd rfl h, fun i2 e2 j2 x2 hi2 hj2 => (hr i2 e2 j2 x2 hi2 hj2).keep (fun _ _ r => r.turn t) _ (fun q => ?_) fun _ _ _ => rfl⟩)
          rw [pm]; simp
    · rw [put1_ne _ e1] at hl
      by_cases e2 : l = n
      · subst e2
        rw [put1_self] at hl
        cases hl
        refine obRow hobn.1 hf4 ?_
        rcases (hobn.row hf4) with ⟨h0, _⟩ | ⟨hd, c, ty, h1, h2, h3, h4, h5⟩
        · rw [h0] at he; cases he
        · refine .inr ⟨hd, c, ty, hphn.trans h1, h2, h3.set he, by simpa using h4, fun i2 e2 j2 x2 hi2 hj2 => ?_⟩
          rcases set_get he hi2 hj2 with ⟨rfl, rfl, rfl⟩ | ⟨hne, e0, g1, g2⟩
          · refine .e _ _ _ (.row _ _ _ _ ?_)
            have r := h5 i2 e j2 _ he hj
            dsimp only
            generalize c.getD (hd.off + i2 * ob.wd + j2) undef = u at r ⊢
            refine ⟨r.one, ?_⟩
            rw [put1_self]
            dsimp only
            refine ⟨Nat.zero_le _, Nat.le_refl _, ?_⟩
            rw [pm]
            cases r with
            | e _ _ _ r => cases r
            | nilo _ _ a hw hX => rw [List.nil_append, hX]; exact ⟨a, rfl⟩
            | ow _ _ _ hd2 c2 ty2 hX hb ok hr => rw [List.nil_append, hX]; exact ⟨_, rfl, fun _ => by simp⟩
          · refine (h5 i2 e0 j2 x2 g1 g2).keep (fun _ _ r => r.turn t) _ (fun q => ?_) fun _ _ _ => rfl
            rw [pn, getLast_app, if_neg]
            intro h; cases h; exact hne ⟨rfl, rfl⟩
      · rw [put1_ne _ e2] at hl
        exact (k.ob l x hl).keep (fun _ _ r => r.turn t) (fun q => po _ e1 e2) fun _ _ _ => rfl
  · obtain ⟨Y, hY⟩ := own' X hd hX; exact k.lt Y hd hY
  · obtain ⟨Y, hY⟩ := own' X hd hX; exact k.apart Y hd hY ho
  · rcases own X hd1 hX with ⟨q, rfl, hq⟩ | ⟨a1, a2, hq⟩ <;> rcases own Y hd2 hY with ⟨q', rfl, hq'⟩ | ⟨a1', a2', hq'⟩
    · have := k.inj _ _ _ _ hq hq' hb
      simp only [Prod.mk.injEq, true_and, List.append_cancel_right_eq] at this
      rw [this]
    · have := k.inj _ _ _ _ hq hq' hb
      exact absurd (getLast_app q (i, j)) (a2' _ this.symm)
    · have := k.inj _ _ _ _ hq hq' hb
      exact absurd (getLast_app q' (i, j)) (a2 _ this)
    · exact k.inj _ _ _ _ hq hq' hb
theorem imp_ok (k : HeapOK h H φ) {n m : Nat} {ob mob : Ob} {i j len : Nat} {e : List A} (hn : H n = some (some ob)) (hf4 : ob.fl ≠ 4) (hm : H m = some (some mob)) (hm4 : mob.fl ≠ 4) (hnm : n ≠ m) (he : ob.es[i]? = some e) (hj : e[j]? = some (.row m 0 len)) :
    ∃ φ', HeapOK h (put1 (put1 H m none) n (some ⟨ob.fl, ob.wd, ob.es.set i (e.set j (.ow mob.wd (mob.es.take len)))⟩)) φ' ∧
      Turn h H φ h (put1 (put1 H m none) n (some ⟨ob.fl, ob.wd, ob.es.set i (e.set j (.ow mob.wd (mob.es.take len)))⟩)) φ' ∧ (∀ p, φ p = none → (∀ q, p ≠ (n, q)) → φ' p = none) ∧ φ' (n, []) = φ (n, []) ∧ ∀ q, φ' (m, q) = none := by
  let φ' : Phi := (φ.set n fun q => if q.getLast? = some (i, j) then φ (m, q.dropLast) else φ (n, q)).set m fun _ => none
  have pm : ∀ q, φ' (m, q) = none := fun q => set_self _ _ _
  have pn : ∀ q, φ' (n, q) = if q.getLast? = some (i, j) then φ (m, q.dropLast) else φ (n, q) := fun q => (set_ne _ hnm).trans (set_self _ _ _)
  have pn' : ∀ q, φ' (n, q ++ [(i, j)]) = φ (m, q) := fun q => by rw [pn, getLast_app, if_pos rfl, List.dropLast_concat]
  have po : ∀ X : Place, X.1 ≠ m → X.1 ≠ n → φ' X = φ X := fun X h1 h2 => (set_ne _ h1).trans (set_ne _ h2)
  have own : ∀ X hd, φ' X = some hd → (∃ q, X = (n, q ++ [(i, j)]) ∧ φ (m, q) = some hd) ∨ (X.1 ≠ m ∧ φ X = some hd ∧ ∀ q, X ≠ (n, q ++ [(i, j)])) := by
    rintro ⟨l, q⟩ hd hX
    by_cases e1 : l = m
    · subst e1; rw [pm] at hX; cases hX
    · by_cases e2 : l = n
      · subst e2
        rw [pn] at hX
        by_cases e3 : q.getLast? = some (i, j)
        · rw [if_pos e3] at hX
          exact .inl ⟨q.dropLast, by rw [of_getLast e3], hX⟩
        · rw [if_neg e3] at hX
          refine .inr ⟨e1, hX, fun q' hq' => ?_⟩
          cases hq'; exact e3 (getLast_app _ _)
      · rw [po _ e1 e2] at hX
        exact .inr ⟨e1, hX, fun q' hq' => e2 (congrArg Prod.fst hq')⟩
  have own' : ∀ X hd, φ' X = some hd → ∃ Y, φ Y = some hd := fun X hd hX => by
    rcases own X hd hX with ⟨q, _, hq⟩ | ⟨_, hq, _⟩
    · exact ⟨_, hq⟩
    · exact ⟨_, hq⟩
  have hphn : φ' (n, []) = φ (n, []) := by rw [pn]; simp
  have t : Turn h H φ h (put1 (put1 H m none) n (some ⟨ob.fl, ob.wd, ob.es.set i (e.set j (.ow mob.wd (mob.es.take len)))⟩)) φ' := by
    refine ⟨rfl, fun b hb hO => ⟨?_, rfl⟩, fun l hl => ?_, fun l x hl => ?_⟩
    · rintro ⟨X, hd, hX, rfl⟩
      obtain ⟨Y, hY⟩ := own' X hd hX
      exact hO ⟨Y, hd, hY, rfl⟩
    · have e1 : l ≠ m := fun e => by rw [e, hm] at hl; cases hl
      have e2 : l ≠ n := fun e => by rw [e, hn] at hl; cases hl
      rw [put1_ne _ e2, put1_ne _ e1]; exact hl
    · by_cases e2 : l = n
      · subst e2
        rw [hn] at hl
        cases hl
        exact .inr ⟨_, put1_self _ _, hphn, rfl, by simp⟩
      · rw [put1_ne _ e2]
        by_cases e1 : l = m
        · subst e1; exact .inl (put1_self _ _)
        · exact .inr ⟨x, (put1_ne _ e1).trans hl, po _ e1 e2, rfl, Nat.le_refl _⟩
  have hobn := k.ob n ob hn
  have hobm := k.ob m mob hm
  refine ⟨φ', all_ob (fun l x hl => ?_) (fun X hd hX => ?_) (fun X hd hX ho => ?_) k.old (fun X Y hd1 hd2 hX hY hb => ?_), t, fun p hp hp2 => ?_, hphn, pm⟩
  · by_cases e2 : l = n
    · subst e2
      rw [put1_self] at hl
      cases hl
      refine obRow hobn.1 hf4 ?_
      rcases (hobn.row hf4) with ⟨h0, _⟩ | ⟨hd, c, ty, h1, h2, h3, h4, h5⟩
      · rw [h0] at he; cases he
      · refine .inr ⟨hd, c, ty, hphn.trans h1, h2, h3.set he, by simpa using h4, fun i2 e2 j2 x2 hi2 hj2 => ?_⟩
        rcases set_get he hi2 hj2 with ⟨rfl, rfl, rfl⟩ | ⟨hne, e0, g1, g2⟩
        · have r := h5 i2 e j2 _ he hj
          dsimp only
          generalize c.getD (hd.off + i2 * ob.wd + j2) undef = u at r ⊢
          cases r with
          | e _ _ _ r =>
            cases r with
            | row _ _ _ _ r =>
              have r2 := r.2
              rw [hm] at r2
              dsimp only at r2
              obtain ⟨_, hle, r3⟩ := r2
              rcases (hobm.row hm4) with ⟨g0, g1⟩ | ⟨hd2, c2, ty2, g1, g2, g3, g4, g5⟩
              · rw [g1] at r3
                obtain ⟨a, rfl⟩ := r3
                rw [g0]
                simp only [List.take_nil]
                exact .nilo _ _ a hobm.1 ((pn' []).trans g1)
              · rw [g1] at r3
                obtain ⟨a, rfl, ha⟩ := r3
                rw [ha (.inl rfl)]
                have hl2 : (mob.es.take len).length = len := by simp; omega
                simp only [Nat.zero_mul, Nat.add_zero, Nat.sub_zero]
                have := RepA.ow (h := h) (H := put1 (put1 H m none) l (some ⟨ob.fl, ob.wd, ob.es.set i2 (e.set j2 (.ow mob.wd (mob.es.take len)))⟩)) (φ := φ') (l, [(i2, j2)]) mob.wd (mob.es.take len) hd2 c2 ty2 ((pn' []).trans g1) g2
                  ⟨g3.wd0, fun e he => g3.len e (List.mem_of_mem_take he), by rw [hl2]; exact Nat.le_trans hle g3.le, g3.cap, g3.size, g3.one⟩ (fun i3 e3 j3 x3 hi3 hj3 => ?_)
                · rw [hl2] at this; exact this
                · rw [List.getElem?_take] at hi3
                  split at hi3
                  · refine (g5 i3 e3 j3 x3 hi3 hj3).keep (fun _ _ r => r.turn t) _ (fun q => ?_) fun _ _ _ => rfl
                    have := pn' (q ++ [(i3, j3)])
                    simpa using this
                  · cases hi3
        · refine (h5 i2 e0 j2 x2 g1 g2).keep (fun _ _ r => r.turn t) _ (fun q => ?_) fun _ _ _ => rfl
          rw [pn, getLast_app, if_neg]
          intro h; cases h; exact hne ⟨rfl, rfl⟩
    · rw [put1_ne _ e2] at hl
      have e1 : l ≠ m := fun e => by rw [e, put1_self] at hl; cases hl
      rw [put1_ne _ e1] at hl
      exact (k.ob l x hl).keep (fun _ _ r => r.turn t) (fun q => po _ e1 e2) fun _ _ _ => rfl
  · obtain ⟨Y, hY⟩ := own' X hd hX; exact k.lt Y hd hY
  · obtain ⟨Y, hY⟩ := own' X hd hX; exact k.apart Y hd hY ho
  · rcases own X hd1 hX with ⟨q, rfl, hq⟩ | ⟨a1, hq, a2⟩ <;> rcases own Y hd2 hY with ⟨q', rfl, hq'⟩ | ⟨a1', hq', a2'⟩
    · have := k.inj _ _ _ _ hq hq' hb
      simp only [Prod.mk.injEq, true_and] at this
      rw [this]
    · have := k.inj _ _ _ _ hq hq' hb
      exact absurd (congrArg Prod.fst this).symm a1'
    · have := k.inj _ _ _ _ hq hq' hb
      exact absurd (congrArg Prod.fst this) a1
    · exact k.inj _ _ _ _ hq hq' hb
  · by_cases e1 : p.1 = m
    · have := pm p.2; rwa [← e1] at this
    · have e2 : p.1 ≠ n := fun e => hp2 p.2 (by rw [← e])
      rw [po _ e1 e2]; exact hp
end
end Go.Proofs.YtchfpgpboifbeaaGreat.Ac
set_option linter.unusedVariables false
set_option linter.unusedSimpArgs false
namespace Go.Proofs.YtchfpgpboifbeaaGreat.Ac
open Go.RowKit
inductive Out : Type 1 where
  | no
  | ok (v : T) (u : List (Nat × Option Ob))
  | rd (n : Nat) (k : Option (Option Ob) → Out)
  | spl (c : Prop) (a b : Out)
  | con (c : Prop) (a : Out)
  | ex {α : Type} (p : α → Prop) (f : α → Out)
  | all {α : Type} (p : α → Prop) (f : α → Out)
def Out.K (sq : Bool) (g : Hp) : Out → List Nat → (Eff → Prop) → Prop
  | .no, _, _ => False
  | .ok v u, rs, k => k ⟨v, rs, u⟩
  | .rd n f, rs, k => (f (g n)).K sq g (n :: rs) k
  | .spl c a b, rs, k => (c → a.K sq g rs k) ∧ (¬ c → b.K sq g rs k)
  | .con c a, rs, k => c ∧ a.K sq g rs k
  | .ex p f, rs, k => ∃ x, p x ∧ (f x).K sq g rs k
  | .all p f, rs, k => match sq with
    | true => ∀ x, p x → (f x).K sq g rs k
    | false => False
section
variable {g g' : Hp} {ε : Eff} {k k' : Eff → Prop}
theorem Out.mono (hk : ∀ ε, k ε → k' ε) {sq : Bool} : ∀ (o : Out) (rs : List Nat), o.K sq g rs k → o.K sq g rs k'
  | .no, _, h => h
  | .ok v u, rs, h => hk _ h
  | .rd n f, rs, h => Out.mono hk (f (g n)) _ h
  | .spl c a b, rs, h => ⟨fun hc => Out.mono hk a rs (h.1 hc), fun hc => Out.mono hk b rs (h.2 hc)⟩
  | .con c a, rs, h => ⟨h.1, Out.mono hk a rs h.2⟩
  | .ex p f, rs, ⟨x, hx, h⟩ => ⟨x, hx, Out.mono hk (f x) rs h⟩
  | .all p f, rs, h => by
    cases sq with
    | true => exact fun x hx => Out.mono hk (f x) rs (h x hx)
    | false => exact h
theorem Out.seq : ∀ (o : Out) (rs : List Nat), o.K false g rs k → o.K true g rs k
  | .no, _, h => h
  | .ok v u, rs, h => h
  | .rd n f, rs, h => Out.seq (f (g n)) _ h
  | .spl c a b, rs, h => ⟨fun hc => Out.seq a rs (h.1 hc), fun hc => Out.seq b rs (h.2 hc)⟩
  | .con c a, rs, h => ⟨h.1, Out.seq a rs h.2⟩
  | .ex p f, rs, ⟨x, hx, h⟩ => ⟨x, hx, Out.seq (f x) rs h⟩
  | .all p f, rs, h => h.elim
theorem Out.elim : ∀ (o : Out) (rs : List Nat), o.K false g rs k → ∃ ε, o.K false g rs (fun ε' => ε' = ε) ∧ k ε
  | .no, _, h => h.elim
  | .ok v u, rs, h => ⟨_, rfl, h⟩
  | .rd n f, rs, h => Out.elim (f (g n)) _ h
  | .spl c a b, rs, h => by
    by_cases hc : c
    · obtain ⟨ε, h1, h2⟩ := Out.elim a rs (h.1 hc)
      exact ⟨ε, ⟨fun _ => h1, fun h => absurd hc h⟩, h2⟩
    · obtain ⟨ε, h1, h2⟩ := Out.elim b rs (h.2 hc)
      exact ⟨ε, ⟨fun h => absurd h hc, fun _ => h1⟩, h2⟩
  | .con c a, rs, h => by
    obtain ⟨ε, h1, h2⟩ := Out.elim a rs h.2
    exact ⟨ε, ⟨h.1, h1⟩, h2⟩
  | .ex p f, rs, ⟨x, hx, h⟩ => by
    obtain ⟨ε, h1, h2⟩ := Out.elim (f x) rs h
    exact ⟨ε, ⟨x, hx, h1⟩, h2⟩
  | .all p f, rs, h => h.elim
theorem Out.reads : ∀ (o : Out) (rs : List Nat), o.K false g rs (fun ε' => ε' = ε) → ∀ n ∈ rs, n ∈ ε.rdn
  | .no, _, h => h.elim
  | .ok v u, rs, h => by cases h; exact fun n hn => hn
  | .rd n f, rs, h => fun m hm => Out.reads (f (g n)) _ h m (List.mem_cons_of_mem _ hm)
  | .spl c a b, rs, h => by
    by_cases hc : c
    · exact Out.reads a rs (h.1 hc)
    · exact Out.reads b rs (h.2 hc)
  | .con c a, rs, h => Out.reads a rs h.2
  | .ex p f, rs, ⟨x, _, h⟩ => Out.reads (f x) rs h
  | .all p f, rs, h => h.elim
theorem Out.local (hg : ∀ n ∈ names ε, g' n = g n) : ∀ (o : Out) (rs : List Nat), o.K false g rs (fun ε' => ε' = ε) → o.K false g' rs (fun ε' => ε' = ε)
  | .no, _, h => h
  | .ok v u, rs, h => h
  | .rd n f, rs, h => by
    have hn : n ∈ ε.rdn := Out.reads (f (g n)) _ h n List.mem_cons_self
    show (f (g' n)).K false g' (n :: rs) _
    rw [hg n (List.mem_append_left _ hn)]
    exact Out.local hg (f (g n)) _ h
  | .spl c a b, rs, h => ⟨fun hc => Out.local hg a rs (h.1 hc), fun hc => Out.local hg b rs (h.2 hc)⟩
  | .con c a, rs, h => ⟨h.1, Out.local hg a rs h.2⟩
  | .ex p f, rs, ⟨x, hx, h⟩ => ⟨x, hx, Out.local hg (f x) rs h⟩
  | .all p f, rs, h => h.elim
end
structure Sim (w₀ : World) (H₀ : Hp) (φ₀ : Phi) (N : Nat) (e : Env) (g : Hp) (φ : Phi) (a : Act) (w : World) : Prop where
  env : ∀ t x, e t = some x → RepT w.heap g φ x (a.eval (.tmp t))
  sz : a.tmps.size = N
  dfr : a.defers = []
  ok : HeapOK w.heap g φ
  turn : Turn w₀.heap H₀ φ₀ w.heap g φ
  os : w.os = w₀.os
  tape : w.tape = w₀.tape
  output : w.output = w₀.output
  size : w₀.heap.size ≤ w.heap.size
section
variable {P : Program} {w₀ : World} {H₀ : Hp} {φ₀ : Phi} {N : Nat} {e : Env} {g g' : Hp} {φ φ' : Phi} {a : Act} {w w' : World} {K : Act → World → Prop} {Q : Exit → Act → World → Prop} {ε : Eff}
theorem eval_put {d t : Nat} {u : Value} (hd : d < a.tmps.size) : (a.put (some d) u).eval (.tmp t) = if d = t then u else a.eval (.tmp t) := by
  simp only [Act.put, Act.eval]
  by_cases h : d = t
  · subst h; simp [hd]
  · simp [h, Array.getElem?_setIfInBounds_ne h]
theorem Sim.next (s : Sim w₀ H₀ φ₀ N e g φ a w) (t : Turn w.heap g φ w'.heap g' φ') (ok' : HeapOK w'.heap g' φ') (hos : w'.os = w.os) (htape : w'.tape = w.tape) (hout : w'.output = w.output) (hsize : w.heap.size ≤ w'.heap.size)
    {d : Option Tmp} {v : T} {u : Value} (hd : ∀ x, d = some x → x < N) (hv : d ≠ none → RepT w'.heap g' φ' v u) : Sim w₀ H₀ φ₀ N (putE d v e) g' φ' (a.put d u) w' := by
  refine ⟨fun i x hx => ?_, ?_, ?_, ok', s.turn.trans t, hos.trans s.os, htape.trans s.tape, hout.trans s.output, Nat.le_trans s.size hsize⟩
  · cases d with
    | none => exact (s.env i x hx).mono fun _ _ r => r.turn t
    | some d =>
      rw [eval_put (by rw [s.sz]; exact hd d rfl)]
      by_cases hdi : d = i
      · subst hdi
        simp only [putE, Nat.beq_refl, cond_true, Option.some.injEq] at hx
        subst hx
        simpa using hv (by simp)
      · rw [putE_ne (by simpa using hdi)] at hx
        rw [if_neg hdi]
        exact (s.env i x hx).mono fun _ _ r => r.turn t
  · cases d with
    | none => exact s.sz
    | some d => simpa [Act.put] using s.sz
  · cases d <;> exact s.dfr
def Does (P : Program) (w : World) (g : Hp) (φ : Phi) (s : Sem Next) (ε : Eff) : Prop := ∃ n w' φ', s.run P w = .ok n w' ∧ (n = .skip ∨ ∃ u, n = .value u ∧ RepT w'.heap (putH ε.upd g) φ' ε.val u) ∧ (n = .skip → ε.val = .bot) ∧
  Turn w.heap g φ w'.heap (putH ε.upd g) φ' ∧ HeapOK w'.heap (putH ε.upd g) φ' ∧ w'.os = w.os ∧ w'.tape = w.tape ∧ w'.output = w.output ∧ w.heap.size ≤ w'.heap.size
def DoesO (P : Program) (w : World) (g : Hp) (φ : Phi) (s : Sem Next) (rs : List Nat) (o : Out) : Prop := ∀ k, o.K true g rs k → ∃ ε, k ε ∧ Does P w g φ s ε
theorem putH_one (n : Nat) (o : Option Ob) (g : Hp) : putH [(n, o)] g = put1 g n o := by
  funext m
  by_cases h : m = n
  · subst h; simp [putH, get, put1]
  · simp only [putH, put1, h, if_false]
    rw [get_cons_ne _ _ (Ne.symm h)]; rfl
theorem putH_cons (n : Nat) (o : Option Ob) (u : List (Nat × Option Ob)) (g : Hp) : putH ((n, o) :: u) g = put1 (putH u g) n o := by
  funext m
  by_cases h : m = n
  · subst h; simp [putH, get, put1]
  · simp only [putH, put1, h, if_false]
    rw [get_cons_ne _ _ (Ne.symm h)]
theorem Does.value {s : Sem Next} {v : T} {u : Value} {rd : List Nat} (ok : HeapOK w.heap g φ) (hrun : s.run P w = .ok (.value u) w) (hv : RepT w.heap g φ v u) : Does P w g φ s ⟨v, rd, []⟩ :=
  ⟨_, w, φ, hrun, .inr ⟨u, rfl, hv⟩, fun h => (by cases h), Turn.refl _ _ _, ok, rfl, rfl, rfl, Nat.le_refl _⟩
theorem Does.made {s : Sem Next} {v : T} {u : Value} {rd : List Nat} {us : List (Nat × Option Ob)} {w' : World} {φ' : Phi} (hrun : s.run P w = .ok (.value u) w') (ok : HeapOK w'.heap (putH us g) φ') (t : Turn w.heap g φ w'.heap (putH us g) φ')
    (hv : RepT w'.heap (putH us g) φ' v u) (h1 : w'.os = w.os) (h2 : w'.tape = w.tape) (h3 : w'.output = w.output) (h4 : w.heap.size ≤ w'.heap.size) : Does P w g φ s ⟨v, rd, us⟩ :=
  ⟨_, w', φ', hrun, .inr ⟨u, rfl, hv⟩, fun h => (by cases h), t, ok, h1, h2, h3, h4⟩
theorem Does.skip {s : Sem Next} {rd : List Nat} {us : List (Nat × Option Ob)} {w' : World} {φ' : Phi} (hrun : s.run P w = .ok .skip w') (ok : HeapOK w'.heap (putH us g) φ') (t : Turn w.heap g φ w'.heap (putH us g) φ')
    (h1 : w'.os = w.os) (h2 : w'.tape = w.tape) (h3 : w'.output = w.output) (h4 : w.heap.size ≤ w'.heap.size) : Does P w g φ s ⟨.bot, rd, us⟩ :=
  ⟨_, w', φ', hrun, .inl rfl, fun _ => rfl, t, ok, h1, h2, h3, h4⟩
theorem wp_ok {o : Oper} {v : Value} {w' : World} (hrun : (execOp a.eval o).run P w = .ok (.value v) w') (h : K (a.put o.dst v) w') : o.wp P a w K Q := by
  unfold Oper.wp
  rw [hrun]; exact h
theorem wp_skipped {o : Oper} {w' : World} (hrun : (execOp a.eval o).run P w = .ok .skip w') (h : K (a.put o.dst undef) w') : o.wp P a w K Q := by
  unfold Oper.wp
  rw [hrun]; exact h
def SimS (w₀ : World) (H₀ : Hp) (φ₀ : Phi) (N : Nat) (e : Env) (g : Hp) (a : Act) (w : World) : Prop := ∃ φ, Sim w₀ H₀ φ₀ N e g φ a w
theorem Does.wp {o : Oper} (s : Sim w₀ H₀ φ₀ N e g φ a w) (hd : ∀ x, o.dst = some x → x < N) (h : Does P w g φ (execOp a.eval o) ε)
    (hK : ∀ a' w', SimS w₀ H₀ φ₀ N (putE o.dst ε.val e) (putH ε.upd g) a' w' → K a' w') : o.wp P a w K Q := by
  obtain ⟨n, w', φ', hrun, hn, hb, ht, ok, h1, h2, h3, h4⟩ := h
  rcases hn with rfl | ⟨u, rfl, hu⟩
  · refine wp_skipped hrun (hK _ _ ⟨φ', s.next ht ok h1 h2 h3 h4 hd fun _ => ?_⟩)
    rw [hb rfl]; trivial
  · exact wp_ok hrun (hK _ _ ⟨φ', s.next ht ok h1 h2 h3 h4 hd fun _ => hu⟩)
end
inductive Lay where
  | w (d : TypeDesc) (z : A) (bt : Nat)
  | st (sz : Nat) (z : List A) (fs : List (Nat × Nat × Bool)) (bt : Nat)
def _root_.Go.TypeDesc.aggD : TypeDesc → Bool
  | .struct _ | .array _ _ => true
  | _ => false
def Lay.size : Lay → Nat
  | .w _ _ _ => 1
  | .st sz _ _ _ => sz
def Lay.zero : Lay → List A
  | .w _ z _ => [z]
  | .st _ z _ _ => z
def Lay.bt : Lay → Nat
  | .w _ _ b => b
  | .st _ _ _ b => b
abbrev Tab := Nat → Option Lay
def constA : Value → A
  | .slice none 0 0 => .nl
  | x => .f (.v x)
def constT : Value → T
  | .agg cs => .val true (cs.toList.map constA)
  | .tuple _ => .bot
  | x => .val false [constA x]
structure TabOK (P : Program) (tb : Tab) : Prop where
  w : ∀ i d z bt, tb i = some (.w d z bt) → P.underlying i = some d ∧ d.aggD = false ∧ ∃ inf zv, P.info? i = some inf ∧ inf.size = 1 ∧ inf.zero = some zv ∧ zv.oneCell' = true ∧ z = constA zv ∧ inf.bytes = bt
  st : ∀ i sz z fs bt, tb i = some (.st sz z fs bt) → ∃ inf fields zv, P.underlying i = some (.struct fields) ∧ P.info? i = some inf ∧ inf.size = sz ∧ inf.zero = some (.agg zv) ∧ z = zv.toList.map constA ∧
    zv.toList.all (·.oneCell') = true ∧ zv.size = sz ∧ inf.bytes = bt ∧ fs.length = fields.size ∧ ∀ (f : Nat) (x : Nat × Nat × Bool), fs[f]? = some x → ∃ fd inf', fields[f]? = some fd ∧ fd.offset = x.1 ∧ P.info? fd.type = some inf' ∧ inf'.size = x.2.1 ∧ x.2.1 ≠ 0 ∧ x.1 + x.2.1 ≤ sz ∧ ∃ d', P.underlying fd.type = some d' ∧ d'.aggD = x.2.2
def evT (e : Env) : Operand → T
  | .tmp t => (e t).getD .bot
  | .const v => constT v
  | .global _ => .bot
  | .func f => .val false [.f (.cl f [])]
section
variable {w₀ : World} {H₀ : Hp} {φ₀ : Phi} {N : Nat} {e : Env} {g : Hp} {φ : Phi} {a : Act} {w : World} {h : Array Obj} {H : Hp}
theorem constA_ok {v : Value} (hv : v.oneCell' = true) : RepE h H φ (constA v) v := by
  unfold constA
  split
  · exact .nl _
  · exact .f _ _ (.v v hv)
theorem constC_ok : ∀ {cs : List Value}, cs.all (·.oneCell') = true → RepC h H φ (cs.map constA) cs
  | [], _ => trivial
  | v :: cs, hc => by
    simp only [List.all_cons, Bool.and_eq_true] at hc
    exact ⟨constA_ok hc.1, constC_ok hc.2⟩
def constOK : Value → Bool
  | .agg cs => cs.toList.all (·.oneCell')
  | _ => true
def operOK : Operand → Bool
  | .const v => constOK v
  | _ => true
theorem ev_ok (s : Sim w₀ H₀ φ₀ N e g φ a w) {x : Operand} (hx : operOK x = true) : RepT w.heap g φ (evT e x) (a.eval x) := by
  cases x with
  | tmp t =>
    simp only [evT]
    cases ht : e t with
    | none => trivial
    | some v => exact s.env t v ht
  | const v =>
    simp only [evT, Act.eval]
    unfold constT
    split
    · rename_i cs
      exact ⟨cs, rfl, constC_ok (by simpa [operOK, constOK] using hx)⟩
    · trivial
    · rename_i h1 h2
      exact ⟨_, rfl, constA_ok (by cases v <;> first | rfl | exact absurd rfl (h1 _) | exact absurd rfl (h2 _))⟩
  | global n => trivial
  | func f => exact ⟨_, rfl, .f _ _ (.cl f [] #[] rfl (fun i x hi => by simp at hi) fun i x j y hi => by simp at hi)⟩
end
end Go.Proofs.YtchfpgpboifbeaaGreat.Ac
set_option linter.unusedVariables false
set_option linter.unusedSimpArgs false
namespace Go.Proofs.YtchfpgpboifbeaaGreat.Ac
open Go.RowKit
def one (v : T) : Out := .ok v []
def tB (b : Bool) : T := .val false [.f (.v (.bool b))]
def tI (i : IntKind) (z : Int) : T := .val false [.f (.v (.int i z))]
def tS (s : ByteArray) : T := .val false [.f (.v (.string s))]
def split2 (c : Prop) : Out := .spl c (one (tB true)) (one (tB false))
def aliveO (n : Nat) (κ : Nat → Nat → List (List A) → Out) : Out := .rd n fun x => match x with
  | some (some ⟨fl, wd, es⟩) => cond (Nat.beq fl 4) .no (κ fl wd es)
  | _ => .no
def elO (fl : Nat) (es : List (List A)) (i : Nat) (κ : List A → Out) : Out := cond (Nat.beq fl 3) (match es with
  | [e] => cond (Nat.beq i 0) (κ e) .no
  | _ => .no) (.ex (fun e => es[i]? = some e) κ)
def setO (fl wd : Nat) (es : List (List A)) (i : Nat) (e : List A) (κ : Ob → Out) : Out := cond (Nat.beq fl 3) (κ ⟨3, wd, [e]⟩) (κ ⟨fl, wd, es.set i e⟩)
def takK {α : Type} : List α → Nat → (List α → Out) → Out
  | _, 0, κ => κ []
  | x :: xs, n + 1, κ => takK xs n fun r => κ (x :: r)
  | [], _ + 1, _ => .no
def segK {α : Type} : List α → Nat → Nat → (List α → Out) → Out
  | xs, 0, s, κ => takK xs s κ
  | _ :: xs, o + 1, s, κ => segK xs o s κ
  | [], _ + 1, _, _ => .no
def ovK {α : Type} : List α → List α → (List α → Out) → Out
  | xs, [], κ => κ xs
  | _ :: xs, y :: ys, κ => ovK xs ys fun r => κ (y :: r)
  | [], _ :: _, _ => .no
def spliceK {α : Type} : List α → Nat → List α → (List α → Out) → Out
  | xs, 0, ys, κ => ovK xs ys κ
  | x :: xs, n + 1, ys, κ => spliceK xs n ys fun r => κ (x :: r)
  | [], _ + 1, _, _ => .no
def xsK (d : Nat) : Nat → List A → (List A → List (Nat × Option Ob) → Out) → Out
  | _, [], κ => κ [] []
  | k, .ow wd ys :: l, κ => .rd (16 * (d + 1) + k) fun o => match o with
    | none => xsK d (k + 1) l fun xs ns => κ (.row (16 * (d + 1) + k) 0 ys.length :: xs) ((16 * (d + 1) + k, some ⟨0, wd, ys⟩) :: ns)
    | some _ => .no
  | k, x :: l, κ => xsK d k l fun xs ns => κ (x :: xs) ns
def mkT (l : Lay) (xs : List A) : T := match l with
  | .w _ _ _ => .val false xs
  | .st _ _ _ _ => .val true xs
def allF {α : Type} (xs : List L) (κ : List A → Out) : Out := match xs with
  | [] => κ []
  | x :: l => allF (α := α) l fun r => κ (.f x :: r)
def newO (d : Nat) (ob : Ob) (v : Nat → T) : Out := .rd (16 * (d + 1)) fun o => match o with
  | none => .ok (v (16 * (d + 1))) [(16 * (d + 1), some ob)]
  | some _ => .no
def moveO (x : T) : Out := match x with
  | .val ag cs => one (.val ag cs)
  | .tu vs => one (.tu vs)
  | .bot => one .bot
def pickO (c a b : T) : Out := match c with
  | .val false [.f (.v (.bool true))] => moveO a
  | .val false [.f (.v (.bool false))] => moveO b
  | _ => .no
def boxO (d : Nat) (l : Lay) (x : T) : Out := match x with
  | .val _ cs => cond (Nat.beq cs.length l.size && Nat.blt 0 l.size) (newO d ⟨3, l.size, [cs]⟩ fun m => .val false [.pt m 0 0]) .no
  | _ => .no
def allocO (d : Nat) (l : Lay) : Out := cond (Nat.blt 0 l.size) (newO d ⟨3, l.size, [l.zero]⟩ fun m => .val false [.pt m 0 0]) .no
def loadO (d : Nat) (l : Lay) (x : T) : Out := match x with
  | .val false [.pt n i off] => aliveO n fun fl wd es => elO fl es i fun e => segK e off l.size fun seg => xsK d 0 seg fun xs ns => match ns with
    | [] => .ok (mkT l xs) []
    | x :: ns => spliceK e off xs fun e' => setO fl wd es i e' fun ob => .ok (mkT l xs) ((n, some ob) :: x :: ns)
  | .val false [.f (.pv y)] => takK y l.size fun seg => allF (α := Nat) seg fun xs => one (mkT l xs)
  | _ => .no
def storeO (l : Lay) (x y : T) : Out := match x, y with
  | .val false [.pt n i off], .val _ cs => cond (Nat.beq cs.length l.size) (aliveO n fun fl wd es => elO fl es i fun e => spliceK e off cs fun e' => setO fl wd es i e' fun ob => .ok .bot [(n, some ob)]) .no
  | _, _ => .no
def nilO (x : T) : Out := match x with
  | .val false [.f (.pv y)] => one (.val false [.f (.pv y)])
  | .val false [.pt n i off] => aliveO n fun _ _ _ => one (.val false [.pt n i off])
  | .val false [.f (.cl f cs)] => one (.val false [.f (.cl f cs)])
  | .val false [.cl f cs] => one (.val false [.cl f cs])
  | _ => .no
def dropK {α : Type} : List α → Nat → (List α → Out) → Out
  | xs, 0, κ => κ xs
  | _ :: xs, n + 1, κ => dropK xs n κ
  | [], _ + 1, _ => .no
def addrO (o : Nat) (x : T) : Out := match x with
  | .val false [.f (.pv y)] => dropK y o fun zs => match zs with
    | z :: zs => one (.val false [.f (.pv (z :: zs))])
    | [] => .no
  | .val false [.pt n i off] => aliveO n fun _ _ _ => one (.val false [.pt n i (off + o)])
  | _ => .no
def fieldO (o s : Nat) (ag : Bool) (x : T) : Out := match x with
  | .val true cs => segK cs o s fun seg => match ag with
    | true => one (.val true seg)
    | false => cond (Nat.beq s 1) (one (.val false seg)) .no
  | _ => .no
def idxO (l : Lay) (x i : T) : Out := match i with
  | .val false [.f (.v (.int _ z))] => match x with
    | .val false [.f (.sl wd es)] => cond (Nat.beq l.size wd) (.ex (α := Nat × List L) (fun y => z = (y.1 : Int) ∧ es[y.1]? = some y.2) fun y => one (.val false [.f (.pv y.2)])) .no
    | .val false [.row n lo hi] => aliveO n fun fl wd es => cond (Nat.beq l.size wd) (cond (Nat.beq lo 0) (.ex (fun j : Nat => z = (j : Int) ∧ j < hi) fun j => one (.val false [.pt n j 0]))
      (.ex (fun j : Nat => z = (j : Int) ∧ lo + j < hi) fun j => one (.val false [.pt n (lo + j) 0]))) .no
    | _ => .no
  | _ => .no
def chrO (x i : T) : Out := match x, i with
  | .val false [.f (.v (.string s))], .val false [.f (.v (.int _ z))] => .ex (α := Nat × UInt8) (fun y => z = (y.1 : Int) ∧ s[y.1]? = some y.2) fun y => one (tI .u8 y.2.toNat)
  | _, _ => .no
def beqK : IntKind → IntKind → Bool
  | .i64, .i64 | .u8, .u8 | .u64, .u64 | .i32, .i32 | .u32, .u32 => true
  | _, _ => false
def binO (op : BinOp) (i : IntKind) (x y : Int) : Out := match op with
  | .add => one (tI i (i.wrap (x + y)))
  | .sub => one (tI i (i.wrap (x - y)))
  | .mul => one (tI i (i.wrap (x * y)))
  | .quo => .con (y ≠ 0) (one (tI i (i.wrap (x.tdiv y))))
  | .rem => .con (y ≠ 0) (one (tI i (x.tmod y)))
  | .and => one (tI i (i.wrap (BitVec.ofInt i.bits x &&& BitVec.ofInt i.bits y).toNat))
  | .or => one (tI i (i.wrap (BitVec.ofInt i.bits x ||| BitVec.ofInt i.bits y).toNat))
  | .xor => one (tI i (i.wrap (BitVec.ofInt i.bits x ^^^ BitVec.ofInt i.bits y).toNat))
  | .eql => split2 (x = y)
  | .neq => split2 (x ≠ y)
  | .lss => split2 (x < y)
  | .leq => split2 (x ≤ y)
  | .gtr => split2 (x > y)
  | .geq => split2 (x ≥ y)
  | _ => .no
def shiftO (op : BinOp) (i : IntKind) (x y : Int) : Out := match op with
  | .shl => .con (0 ≤ y) (one (tI i (i.wrap (x * 2 ^ (min y.toNat i.bits)))))
  | .shr => .con (0 ≤ y) (one (tI i (x.fdiv (2 ^ (min y.toNat i.bits)))))
  | _ => .no
def isShift : BinOp → Bool
  | .shl | .shr => true
  | _ => false
def eqC : List A → List A → Option Prop
  | [], [] => some True
  | .f (.v (.int i x)) :: xs, .f (.v (.int j y)) :: ys => match beqK i j, eqC xs ys with
    | true, some p => some (x = y ∧ p)
    | _, _ => none
  | .f (.v (.string x)) :: xs, .f (.v (.string y)) :: ys => match eqC xs ys with
    | some p => some (x = y ∧ p)
    | none => none
  | _, _ => none
def isNilO (op : BinOp) (b : Bool) : Out := match op with
  | .eql => one (tB b)
  | .neq => one (tB (!b))
  | _ => .no
def biO (op : BinOp) (x y : T) : Out := match x, y with
  | .val false [.f (.v (.int i a))], .val false [.f (.v (.int j b))] => cond (isShift op) (shiftO op i a b) (cond (beqK i j) (binO op i a b) .no)
  | .val false [.f (.v (.string a))], .val false [.f (.v (.string b))] => match op with
    | .add => .con (a.size + b.size ≤ maxLen) (one (tS (a ++ b)))
    | .eql => split2 (a = b)
    | .neq => split2 (a ≠ b)
    | _ => .no
  | .val false [.f (.v (.pointer none))], .val false [.f (.v (.pointer none))] => isNilO op true
  | .val false [.f (.pv _)], .val false [.f (.v (.pointer none))] => isNilO op false
  | .val false [.pt n _ _], .val false [.f (.v (.pointer none))] => aliveO n fun _ _ _ => isNilO op false
  | _, _ => .no
def biN (op : BinOp) (x y : T) : Out := match x, y with
  | .val false [.f (.v (.int i a))], .val false [.f (.v (.int j b))] => cond (isShift op) (shiftO op i a b) (cond (beqK i j) (binO op i a b) .no)
  | .val false [.f (.v (.string a))], .val false [.f (.v (.string b))] => biO op (.val false [.f (.v (.string a))]) (.val false [.f (.v (.string b))])
  | _, _ => .no
def eqO (op : BinOp) (l : Lay) (x y : T) : Out := match l, x, y with
  | .w .bool _ _, .val false [.f (.v (.bool a))], .val false [.f (.v (.bool b))] => match op with
    | .eql => split2 (a = b)
    | .neq => split2 (a ≠ b)
    | _ => .no
  | _, _, _ => .no
def nilB (op : BinOp) (b : Bool) : Out := match op with
  | .eql => one (tB b)
  | .neq => one (tB (!b))
  | _ => .no
def nilSO (op : BinOp) (x : T) : Out := match x with
  | .val false [.f (.sl _ es)] => .all (fun b : Bool => b = true → es = []) fun b => nilB op b
  | .val false [.nl] => .all (fun _ : Bool => True) fun b => nilB op b
  | .val false [.row n lo hi] => aliveO n fun _ _ _ => .all (fun b : Bool => b = true → hi ≤ lo) fun b => nilB op b
  | _ => .no
def unO (u : UnOp) (x : T) : Out := match u, x with
  | .not, .val false [.f (.v (.bool b))] => match b with
    | true => one (tB false)
    | false => one (tB true)
  | .neg, .val false [.f (.v (.int i z))] => one (tI i (i.wrap (0 - z)))
  | _, _ => .no
def extrO (x : T) (i : Nat) : Out := match x with
  | .tu vs => match vs[i]? with
    | some (ag, cs) => one (.val ag cs)
    | none => .no
  | _ => .no
def mapK (n : Nat) (κ : Nat → List (List A) → Out) : Out := .rd n fun x => match x with
  | some (some ⟨fl, wd, es⟩) => cond (Nat.beq fl 4) (κ wd es) .no
  | _ => .no
def mget : List (Int × Value) → Int → Option Value
  | [], _ => none
  | x :: l, k => if x.1 = k then some x.2 else mget l k
def mput : List (Int × Value) → Int → Value → List (Int × Value)
  | [], k, v => [(k, v)]
  | x :: l, k, v => if x.1 = k then (k, v) :: l else x :: mput l k v
def lookO (lk le : Lay) (x i : T) : Out := match lk, le, x, i with
  | .w (.int .i64) _ _, .w _ (.f (.v z)) _, .val false [.mp n], .val false [.f (.v (.int .i64 k))] => mapK n fun _ es => .ex (fun p : List (Int × Value) × Value => es = mpR p.1 ∧ (mget p.1 k).getD z = p.2) fun p => one (.val false [.f (.v p.2)])
  | _, _, _, _ => .no
def mupdO (lk : Lay) (x i y : T) : Out := match lk, x, i, y with
  | .w (.int .i64) _ _, .val false [.mp n], .val false [.f (.v (.int .i64 k))], .val false [.f (.v v)] => mapK n fun wd es => .ex (fun l : List (Int × Value) => es = mpR l) fun l => .ok .bot [(n, some ⟨4, wd, mpR (mput l k v)⟩)]
  | _, _, _, _ => .no
def lenO (l : Lay) (x : T) : Out := match l, x with
  | .w (.slice _) _ _, .val false [.f (.sl _ es)] => one (tI .i64 es.length)
  | .w (.slice _) _ _, .val false [.nl] => one (tI .i64 0)
  | .w (.slice _) _ _, .val false [.un (some k)] => one (tI .i64 k)
  | .w (.slice _) _ _, .val false [.row n lo hi] => aliveO n fun _ _ _ => cond (Nat.beq lo 0) (one (tI .i64 hi)) (one (tI .i64 ((hi - lo : Nat) : Int)))
  | .w .string _ _, .val false [.f (.v (.string s))] => one (tI .i64 s.size)
  | .w (.map _ _) _ _, .val false [.mp n] => mapK n fun _ es => one (tI .i64 es.length)
  | _, _ => .no
def junk (wd k : Nat) : List (List A) := List.replicate k (List.replicate wd (.un none))
def capO (l : Lay) (x : T) : Out := match l, x with
  | .w (.slice _) _ _, .val false [.f (.sl _ es)] => .all (fun z : Nat => es.length ≤ z ∨ es = []) fun z => one (tI .i64 z)
  | .w (.slice _) _ _, .val false [.nl] => one (tI .i64 0)
  | .w (.slice _) _ _, .val false [.row n lo hi] => aliveO n fun fl wd es => match fl with
    | 1 => one (tI .i64 ((es.length - lo : Nat) : Int))
    | 0 => .all (fun k : Nat => es.length + k ≤ maxLen) fun k => .ok (tI .i64 ((es.length + k - lo : Nat) : Int)) [(n, some ⟨1, wd, es ++ junk wd k⟩)]
    | _ => .no
  | _, _ => .no
def mmO (mx : Bool) (x y : T) : Out := match x, y with
  | .val false [.f (.v (.int i a))], .val false [.f (.v (.int _ b))] => match mx with
    | true => one (tI i (if b > a then b else a))
    | false => one (tI i (if b < a then b else a))
  | _, _ => .no
def cpA : A → A
  | .ow _ ys => .un (some ys.length)
  | x => x
def cpE (es : List (List A)) : List (List A) := es.map (·.map cpA)
def noOw : List (List A) → Bool
  | [] => true
  | e :: es => go e && noOw es
where
  go : List A → Bool
    | [] => true
    | .ow _ _ :: _ => false
    | _ :: l => go l
def srcO (wd : Nat) (y : T) (κ : List (List A) → Out) : Out := match y with
  | .val false [.nl] => κ []
  | .val false [.f (.sl wd' es)] => cond (Nat.beq wd wd') (.ex (fun es' : List (List A) => es.map (·.map A.f) = es') κ) .no
  | .val false [.row m lo hi] => aliveO m fun fl wd' es => cond (Nat.beq wd wd') (cond (Nat.beq fl 2 && noOw es && Nat.beq lo 0 && Nat.beq hi es.length) (κ es) (.ex (fun es' : List (List A) => cpE ((es.take hi).drop lo) = es') κ)) .no
  | _ => .no
def appN (d : Nat) (l : Lay) (x : T) (new : List (List A)) : Out := match x with
  | .val false [.nl] => .con (new.length < 2 ^ 30) (newO d ⟨0, l.size, new⟩ fun m => .val false [.row m 0 new.length])
  | .val false [.row n lo hi] => aliveO n fun fl wd es => cond (Nat.beq l.size wd && Nat.beq lo 0) (match fl with
    | 1 => .con (hi + new.length < 2 ^ 30) (.spl (hi + new.length ≤ es.length)
        (.ex (fun es' : List (List A) => es.take hi ++ new ++ es.drop (hi + new.length) = es') fun es' => .ok (.val false [.row n 0 (hi + new.length)]) [(n, some ⟨1, wd, es'⟩)])
        (.ex (fun es' : List (List A) => cpE (es.take hi) ++ new = es') fun es' => newO d ⟨0, l.size, es'⟩ fun m => .val false [.row m 0 es'.length]))
    | _ => .ex (fun es' : List (List A) => es.take hi ++ new = es' ∧ es'.length < 2 ^ 30) fun es' => .rd (16 * (d + 1)) fun o => match o with
      | none => .ok (.val false [.row (16 * (d + 1)) 0 es'.length]) [(16 * (d + 1), some ⟨0, wd, es'⟩), (n, none)]
      | some _ => .no)
    (cond (Nat.beq l.size wd && !Nat.beq lo 0) (.ex (fun es' : List (List A) => cpE ((es.take hi).drop lo) ++ new = es' ∧ es'.length < 2 ^ 30) fun es' => .rd (16 * (d + 1)) fun o => match o with
      | none => .ok (.val false [.row (16 * (d + 1)) 0 es'.length]) [(16 * (d + 1), some ⟨0, wd, es'⟩), (n, none)]
      | some _ => .no) .no)
  | _ => .no
def sameRow (x y : T) : Bool := match x, y with
  | .val false [.row n lo _], .val false [.row m _ _] => Nat.beq lo 0 && Nat.beq n m
  | _, _ => false
def selfO (l : Lay) (x y : T) : Out := match x, y with
  | .val false [.row n _ hi], .val false [.row _ lo' hi'] => aliveO n fun fl wd es => cond (Nat.beq l.size wd) (.ex (fun es' : List (List A) => hi ≤ lo' ∧ lo' ≤ hi' ∧ es.take hi ++ cpE ((es.take hi').drop lo') ++ es.drop (hi + (hi' - lo')) = es') fun es' =>
      .ok (.val false [.row n 0 (hi + (hi' - lo'))]) [(n, some ⟨fl, wd, es'⟩)]) .no
  | _, _ => .no
def appendO (d : Nat) (l : Lay) (x y : T) : Out := cond (Nat.blt 0 l.size && Nat.ble l.bt 65536) (cond (sameRow x y) (selfO l x y) (srcO l.size y fun new => appN d l x new)) .no
def appendZO (d : Nat) (l : Lay) (x y : T) : Out := cond (Nat.blt 0 l.size && Nat.ble l.bt 65536) (match y with
  | .val false [.f (.v (.int .i64 z))] => .ex (α := Nat × List (List A)) (fun k => z = (k.1 : Int) ∧ k.1 < 2 ^ 30 ∧ List.replicate k.1 l.zero = k.2) fun k => appN d l x k.2
  | _ => .no) .no
def copyO (l : Lay) (x y : T) : Out := srcO l.size y fun new => match x with
  | .val false [.row n lo hi] => aliveO n fun fl wd es => cond (Nat.beq l.size wd) (.ex (fun es' : List (List A) => es.take lo ++ new.take (hi - lo) ++ es.drop (lo + min new.length (hi - lo)) = es') fun es' =>
      .ok (tI .i64 ((min new.length (hi - lo) : Nat) : Int)) [(n, some ⟨fl, wd, es'⟩)]) .no
  | .val false [.nl] => one (tI .i64 0)
  | _ => .no
def clearO (l : Lay) (x : T) : Out := match x with
  | .val false [.row n lo hi] => aliveO n fun fl wd es => cond (Nat.beq l.size wd) (.ex (fun es' : List (List A) => es.take lo ++ List.replicate (hi - lo) l.zero ++ es.drop hi = es') fun es' => .ok .bot [(n, some ⟨fl, wd, es'⟩)]) .no
  | .val false [.nl] => one .bot
  | _ => .no
def biltO (tb : Tab) (b : Builtin) (ts : List TypeId) (xs : List T) (d : Nat) : Out := match b, ts, xs with
  | .len, [t], [x] => match tb t with
    | some l => lenO l x
    | none => .no
  | .cap, [t], [x] => match tb t with
    | some l => capO l x
    | none => .no
  | .append, [t, u], [x, y] => match tb t, tb u with
    | some (.w (.slice el) _ _), some (.w (.slice _) _ _) => match tb el with
      | some l => appendO d l x y
      | none => .no
    | some (.w (.slice el) _ _), some (.w (.int _) _ _) => match tb el with
      | some l => appendZO d l x y
      | none => .no
    | _, _ => .no
  | .copy, t :: _, [x, y] => match tb t with
    | some (.w (.slice el) _ _) => match tb el with
      | some l => cond (Nat.blt 0 l.size) (copyO l x y) .no
      | none => .no
    | _ => .no
  | .clear, [t], [x] => match tb t with
    | some (.w (.slice el) _ _) => match tb el with
      | some l => clearO l x
      | none => .no
    | _ => .no
  | .max, _, [x, y] => mmO true x y
  | .min, _, [x, y] => mmO false x y
  | _, _, _ => .no
def bndP (x : Option T) (dflt : Nat) (a : Nat) : Prop := match x with
  | none => a = dflt
  | some (.val false [.f (.v (.int _ z))]) => z = (a : Int)
  | some _ => False
def elc (le : Option Lay) (wd : Nat) (o : Out) : Out := match le with
  | some le => cond (Nat.beq le.size wd) o .no
  | none => .no
def elk (le : Option Lay) (o : Out) : Out := match le with
  | some _ => o
  | none => .no
def moveSl (d n wd : Nat) (es : List (List A)) (z : Int) : Out := .ex (α := Nat × List (List A)) (fun y => z = (y.1 : Int) ∧ y.1 ≤ es.length ∧ es.take y.1 = y.2) fun y => .rd (16 * (d + 1)) fun o => match o with
  | none => .ok (.val false [.row (16 * (d + 1)) 0 y.1]) [(16 * (d + 1), some ⟨0, wd, y.2⟩), (n, none)]
  | some _ => .no
def slRow (n q : Nat) (es : List (List A)) (lo hi : Option T) : Out := .ex (α := Nat × Nat) (fun y => bndP lo 0 y.1 ∧ bndP hi q y.2 ∧ y.1 ≤ y.2 ∧ (y.2 ≤ q ∨ y.2 ≤ es.length)) fun y => one (.val false [.row n y.1 y.2])
def openHi (fl : Nat) (lo hi : Option T) : Option Int := match fl, lo, hi with
  | 1, none, some (.val false [.f (.v (.int _ z))]) => some z
  | _, _, _ => none
def sliceO (d : Nat) (l : Lay) (le : Option Lay) (x : T) (lo hi mx : Option T) : Out := match mx with
  | none => match l, x with
    | .w .string _ _, .val false [.f (.v (.string s))] => .ex (α := Nat × Nat) (fun y => bndP lo 0 y.1 ∧ bndP hi s.size y.2 ∧ y.1 ≤ y.2 ∧ y.2 ≤ s.size) fun y => one (tS (s.extract y.1 y.2))
    | .w (.slice _) _ _, .val false [.f (.sl wd es)] => elc le wd (.ex (α := Nat × Nat × List (List L)) (fun y => bndP lo 0 y.1 ∧ bndP hi es.length y.2.1 ∧ y.1 ≤ y.2.1 ∧ y.2.1 ≤ es.length ∧ (es.take y.2.1).drop y.1 = y.2.2) fun y => one (.val false [.f (.sl wd y.2.2)]))
    | .w (.slice _) _ _, .val false [.nl] => elk le (.con (bndP lo 0 0 ∧ bndP hi 0 0) (one (.val false [.nl])))
    | .w (.slice _) _ _, .val false [.row n p q] => aliveO n fun fl wd es => elc le wd (cond (Nat.beq p 0) (match openHi fl lo hi with
        | some z => .spl (z ≤ (q : Int)) (slRow n q es lo hi) (moveSl d n wd es z)
        | none => slRow n q es lo hi)
        (.ex (α := Nat × Nat) (fun y => bndP lo 0 y.1 ∧ bndP hi (q - p) y.2 ∧ y.1 ≤ y.2 ∧ (p + y.2 ≤ q ∨ p < q ∧ p + y.2 ≤ es.length)) fun y => one (.val false [.row n (p + y.1) (p + y.2)])))
    | _, _ => .no
  | some m => match lo with
    | some _ => match l, x, hi with
      | .w (.slice _) _ _, .val false [.row n p q], some _ => aliveO n fun _ _ _ => elk le (.ex (α := Nat × Nat × Nat) (fun y => bndP lo 0 y.1 ∧ bndP hi 0 y.2.1 ∧ bndP mx 0 y.2.2 ∧ y.1 ≤ y.2.1 ∧ y.2.1 ≤ y.2.2 ∧ p + y.2.2 ≤ q) fun y => one (.val false [.un (some (y.2.1 - y.1))]))
      | _, _, _ => .no
    | none => match m with
      | .val false [.f (.v (.int _ 0))] => match l, x, hi with
        | .w (.slice _) _ _, .val false [.row n _ _], some (.val false [.f (.v (.int _ 0))]) => elk le (aliveO n fun _ _ _ => one (.val false [.nl]))
        | .w (.slice _) _ _, .val false [.f (.sl _ _)], some (.val false [.f (.v (.int _ 0))]) => elk le (one (.val false [.nl]))
        | .w (.slice _) _ _, .val false [.nl], some (.val false [.f (.v (.int _ 0))]) => elk le (one (.val false [.nl]))
        | _, _, _ => .no
      | _ => .no
def makeSliceO (d : Nat) (l : Lay) (len cap : T) : Out := match len, cap with
  | .val false [.f (.v (.int _ z))], .val false [.f (.v (.int _ y))] => cond (Nat.blt 0 l.size && Nat.ble l.bt 65536) (.ex (α := Nat × Nat) (fun k => z = (k.1 : Int) ∧ y = (k.2 : Int) ∧ k.1 ≤ k.2 ∧ k.2 < 2 ^ 30) fun k =>
      newO d ⟨0, l.size, List.replicate k.1 l.zero⟩ fun m => .val false [.row m 0 k.1]) .no
  | _, _ => .no
def litK (l : Lay) (ps : List (Nat × T)) : Nat → Nat → (List (List A) → Out) → Out
  | _, 0, κ => κ []
  | i, n + 1, κ => match get ps i with
    | some (.val _ cs) => cond (Nat.beq cs.length l.size) (litK l ps (i + 1) n fun r => κ (cs :: r)) .no
    | some _ => .no
    | none => litK l ps (i + 1) n fun r => κ (l.zero :: r)
def nodupB : List Nat → Bool
  | [] => true
  | n :: l => cond (memN n l) false (nodupB l)
def buildSliceO (d : Nat) (l : Lay) (n : Nat) (ps : List (Nat × T)) : Out := cond (Nat.blt 0 l.size && nodupB (ps.map (·.1)) && ps.all (fun p => Nat.blt p.1 n) && Nat.ble (n * l.size) 65536) (litK l ps 0 n fun es => newO d ⟨2, l.size, es⟩ fun m => .val false [.row m 0 n]) .no
def buildK (fs : List (Nat × Nat × Bool)) : List (Nat × T) → List A → (List A → Out) → Out
  | [], zs, κ => κ zs
  | (f, .val _ cs) :: ps, zs, κ => match fs[f]? with
    | some (o, s, _) => cond (Nat.beq cs.length s) (spliceK zs o cs fun zs => buildK fs ps zs κ) .no
    | none => .no
  | _ :: _, _, _ => .no
def buildO (l : Lay) (ps : List (Nat × T)) : Out := match l with
  | .st _ z fs _ => buildK fs ps z fun cs => one (.val true cs)
  | _ => .no
def convO (l l' : Lay) (x : T) : Out := match l, l', x with
  | .w (.int _) _ _, .w (.int k) _ _, .val false [.f (.v (.int _ z))] => one (tI k (k.wrap z))
  | .w .string _ _, .w .string _ _, .val false [.f (.v (.string s))] => one (tS s)
  | _, _, _ => .no
def byteL (b : UInt8) : List A := [.f (.v (.int .u8 b.toNat))]
def bytesO (el : Option Lay) (x : T) : Out := match el with
  | some (.w (.int .u8) _ _) => match x with
    | .val false [.row n lo hi] => aliveO n fun _ wd es => cond (Nat.beq wd 1) (.ex (fun s : ByteArray => (es.take hi).drop lo = s.data.toList.map byteL) fun s => one (tS s)) .no
    | .val false [.nl] => one (tS .empty)
    | _ => .no
  | _ => .no
def capsK : List T → (List (Bool × List A) → Out) → Out
  | [], κ => κ []
  | .val ag cs :: xs, κ => capsK xs fun r => κ ((ag, cs) :: r)
  | _ :: _, _ => .no
def opO (tb : Tab) (o : Op) (d : Nat) (ρ : Operand → T) : Out := match o with
  | .move x | .assign x => moveO (ρ x)
  | .pick c a b => pickO (ρ c) (ρ a) (ρ b)
  | .box t x => match tb t with
    | some l => boxO d l (ρ x)
    | none => .no
  | .alloc t => match tb t with
    | some l => allocO d l
    | none => .no
  | .build t ps => match tb t with
    | some l => buildO l (ps.toList.map fun p => (p.1, ρ p.2))
    | none => .no
  | .buildSlice t n ps => match tb t with
    | some (.w (.slice el) _ _) => match tb el with
      | some l => buildSliceO d l n (ps.toList.map fun p => (p.1, ρ p.2))
      | none => .no
    | _ => .no
  | .load t x => match tb t with
    | some l => loadO d l (ρ x)
    | none => .no
  | .store t x y => match tb t with
    | some l => storeO l (ρ x) (ρ y)
    | none => .no
  | .nilCheck x => nilO (ρ x)
  | .fieldAddr t x f => match tb t with
    | some (.st _ _ fs _) => match fs[f]? with
      | some (o, _, _) => addrO o (ρ x)
      | none => .no
    | _ => .no
  | .field t x f => match tb t with
    | some (.st _ _ fs _) => match fs[f]? with
      | some (o, s, ag) => fieldO o s ag (ρ x)
      | none => .no
    | _ => .no
  | .indexAddr t x i => match tb t with
    | some (.w (.slice el) _ _) => match tb el with
      | some l => idxO l (ρ x) (ρ i)
      | none => .no
    | _ => .no
  | .index t x i => match tb t with
    | some (.w .string _ _) => chrO (ρ x) (ρ i)
    | _ => .no
  | .binOp op t x y _ => match tb t with
    | some (.w .bool z b) => eqO op (.w .bool z b) (ρ x) (ρ y)
    | some (.st sz z fs b) => .no
    | some (.w (.pointer _) _ _) => biO op (ρ x) (ρ y)
    | some (.w (.slice _) _ _) => match y with
      | .const (.slice none 0 0) => nilSO op (ρ x)
      | _ => .no
    | _ => biN op (ρ x) (ρ y)
  | .unOp u _ x => unO u (ρ x)
  | .extract x i => extrO (ρ x) i
  | .convert s t x => match tb s, tb t with
    | some (.w (.slice el) _ _), some (.w .string _ _) => bytesO (tb el) (ρ x)
    | some l, some l' => convO l l' (ρ x)
    | _, _ => .no
  | .makeFunc (.func f) fst cs => cond (Nat.beq fst.size 0) (capsK (cs.toList.map ρ) fun caps => one (.val false [.cl f caps])) .no
  | .makeMap t r => match r with
    | none => newO d ⟨4, 2, []⟩ fun m => .val false [.mp m]
    | some _ => .no
  | .lookup t x i ok => match tb t, ok with
    | some (.w (.map kt et) _ _), false => match tb kt, tb et with
      | some lk, some le => lookO lk le (ρ x) (ρ i)
      | _, _ => .no
    | _, _ => .no
  | .mapUpdate t x i y => match tb t with
    | some (.w (.map kt _) _ _) => match tb kt with
      | some lk => mupdO lk (ρ x) (ρ i) (ρ y)
      | _ => .no
    | _ => .no
  | .makeSlice t x y => match tb t with
    | some (.w (.slice el) _ _) => match tb el with
      | some l => makeSliceO d l (ρ x) (ρ y)
      | none => .no
    | _ => .no
  | .slice t x lo hi mx => match tb t with
    | some l => sliceO d l (match l with
      | .w (.slice el) _ _ => tb el
      | _ => none) (ρ x) (lo.map ρ) (hi.map ρ) (mx.map ρ)
    | none => .no
  | .call c => match c.callee with
    | .builtin b => biltO tb b c.argTypes.toList (c.args.toList.map ρ) d
    | _ => .no
  | _ => .no
theorem opO_congr {tb : Tab} {o : Op} {d : Nat} {ρ ρ' : Operand → T} (h : ∀ x ∈ o.operands, ρ' x = ρ x) : opO tb o d ρ' = opO tb o d ρ := by
  have hl : ∀ {xs : Array Operand}, (∀ x ∈ xs, x ∈ o.operands) → xs.toList.map ρ' = xs.toList.map ρ := fun hx => List.map_congr_left fun x hm => h x (hx x (by simpa using hm))
  have hp : ∀ {ps : Array (Nat × Operand)}, (∀ p ∈ ps, p.2 ∈ o.operands) → (ps.toList.map fun p => (p.1, ρ' p.2)) = ps.toList.map fun p => (p.1, ρ p.2) := fun hx => List.map_congr_left fun p hm => by rw [h p.2 (hx p (by simpa using hm))]
  have ho : ∀ {x : Option Operand}, (∀ y, x = some y → y ∈ o.operands) → x.map ρ' = x.map ρ := fun {x} hx => by
    cases x with
    | none => rfl
    | some y => rw [Option.map_some, Option.map_some, h y (hx y rfl)]
  cases o with
  | build t ps => simp only [opO]; rw [hp (ps := ps) fun p hm => by simp only [Op.operands]; simp; exact ⟨_, hm⟩]
  | buildSlice t n ps => simp only [opO]; rw [hp (ps := ps) fun p hm => by simp only [Op.operands]; simp; exact ⟨_, hm⟩]
  | makeFunc f fst cs => cases f <;> simp only [opO]; rw [hl (xs := cs) fun x hm => by simp [Op.operands, hm]]
  | slice t x lo hi mx =>
    simp only [opO]
    rw [h x (by simp [Op.operands]), ho (x := lo) fun y hy => by simp [Op.operands, hy], ho (x := hi) fun y hy => by simp [Op.operands, hy], ho (x := mx) fun y hy => by simp [Op.operands, hy]]
  | call c =>
    obtain ⟨cal, args, ts⟩ := c
    simp only [opO]
    cases cal with
    | builtin b => dsimp only; rw [hl (xs := args) fun x hm => by simp [Op.operands, Call.operands, hm]]
    | _ => rfl
  | _ => first | rfl | (simp only [opO]; simp only [Op.operands] at h; simp only [h _ (by simp)]) | (simp only [opO]; simp [Op.operands] at h; simp only [h])
end Go.Proofs.YtchfpgpboifbeaaGreat.Ac
