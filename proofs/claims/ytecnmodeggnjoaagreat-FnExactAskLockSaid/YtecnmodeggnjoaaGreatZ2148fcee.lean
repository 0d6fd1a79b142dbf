/- Several of our texts, one behind the other, without what this claim does not need: AcC, AcD. -/
import Derived.Test.YtecnmodeggnjoaaGreatZf0a9d634
set_option linter.unusedVariables false
set_option linter.unusedSimpArgs false
namespace Go.Proofs.YtecnmodeggnjoaaGreat.Ac
open Go.RowKit
def put1 (H : Hp) (n : Nat) (o : Option Ob) : Hp := fun m => if m = n then some o else H m
def Phi.set (φ : Phi) (n : Nat) (f : List (Nat × Nat) → Option Hd) : Phi := ⟨fun X => if X.1 = n then f X.2 else φ X, φ.out⟩
section
variable {h h' : Array Obj} {H H' : Hp} {φ φ' : Phi}
theorem put1_self (n : Nat) (o : Option Ob) : put1 H n o n = some o := by simp [put1]
theorem put1_ne {n m : Nat} (o : Option Ob) (hne : m ≠ n) : put1 H n o m = H m := by simp [put1, hne]
theorem set_self (n : Nat) (f : List (Nat × Nat) → Option Hd) (q : List (Nat × Nat)) : (φ.set n f) (n, q) = f q := by simp [Phi.set]
theorem set_ne {n : Nat} (f : List (Nat × Nat) → Option Hd) {X : Place} (hne : X.1 ≠ n) : (φ.set n f) X = φ X := by simp [Phi.set, hne]
theorem all_ob (hob : ∀ n ob, H' n = some (some ob) → ObOK h' H' φ' n ob) (hlt : ∀ X hd, φ' X = some hd → hd.b < h'.size) (hap : ∀ X hd, φ' X = some hd → ¬ φ'.out hd.b) (ho : ∀ b, φ'.out b → b < h'.size)
    (hi : ∀ X Y hd hd', φ' X = some hd → φ' Y = some hd' → hd.b = hd'.b → X = Y) : HeapOK h' H' φ' := ⟨hob, hlt, hap, ho, hi⟩
theorem newG_ok (k : HeapOK h H φ) {n : Nat} (hn : H n = none) {ob : Ob} {o : Obj} {cap : Nat}
    (hob : Turn h H φ (h.push o) (put1 H n (some ob)) (φ.set n fun q => if q = [] then some ⟨h.size, 0, cap⟩ else none) → ObOK (h.push o) (put1 H n (some ob)) (φ.set n fun q => if q = [] then some ⟨h.size, 0, cap⟩ else none) n ob) :
    HeapOK (h.push o) (put1 H n (some ob)) (φ.set n fun q => if q = [] then some ⟨h.size, 0, cap⟩ else none) ∧
    Turn h H φ (h.push o) (put1 H n (some ob)) (φ.set n fun q => if q = [] then some ⟨h.size, 0, cap⟩ else none) := by
  have hne : ∀ m x, H m = some x → m ≠ n := fun m x hm e => by rw [e, hn] at hm; cases hm
  have own : ∀ X hd, (φ.set n fun q => if q = [] then some ⟨h.size, 0, cap⟩ else none) X = some hd → (X = (n, []) ∧ hd = ⟨h.size, 0, cap⟩) ∨ φ X = some hd := by
    rintro ⟨m, q⟩ hd hX
    by_cases e : m = n
    · subst e
      rw [set_self] at hX
      by_cases e2 : q = []
      · subst e2; cases hX; exact .inl ⟨rfl, rfl⟩
      · rw [if_neg e2] at hX; cases hX
    · rw [set_ne _ e] at hX; exact .inr hX
  have t : Turn h H φ (h.push o) (put1 H n (some ob)) (φ.set n fun q => if q = [] then some ⟨h.size, 0, cap⟩ else none) := by
    refine ⟨rfl, fun b hb hO => ⟨?_, ?_⟩, fun m hm => ?_, fun m x hm => .inr ⟨x, ?_, ?_, rfl, Nat.le_refl _⟩⟩
    · rintro ⟨X, hd, hX, rfl⟩
      rcases own X hd hX with ⟨_, rfl⟩ | hX
      · exact Nat.lt_irrefl _ hb
      · exact hO ⟨X, hd, hX, rfl⟩
    · rw [Array.getElem?_push_lt hb, Array.getElem?_eq_getElem hb]
    · rw [put1_ne _ (hne m _ hm)]; exact hm
    · rw [put1_ne _ (hne m _ hm)]; exact hm
    · exact set_ne _ (hne m _ hm)
  refine ⟨all_ob (fun m x hm => ?_) (fun X hd hX => ?_) (fun X hd hX ho => ?_) (fun b hb => ?_) (fun X Y hd hd' hX hY hb => ?_), t⟩
  · by_cases e : m = n
    · subst e
      rw [put1_self] at hm
      cases hm
      exact hob t
    · rw [put1_ne _ e] at hm
      refine (k.ob m x hm).keep (fun _ _ r => r.turn t) (fun q => set_ne _ e) fun q hd hq => ?_
      have := k.lt _ hd hq
      rw [Array.getElem?_push_lt this, Array.getElem?_eq_getElem this]
  · rcases own X hd hX with ⟨_, rfl⟩ | hX
    · simp
    · have := k.lt _ hd hX; simp; omega
  · rcases own X hd hX with ⟨_, rfl⟩ | hX
    · exact Nat.lt_irrefl _ (k.old _ ho)
    · exact k.apart X hd hX ho
  · have := k.old b hb; simp; omega
  · rcases own X hd hX with ⟨rfl, rfl⟩ | hX <;> rcases own Y hd' hY with ⟨rfl, rfl⟩ | hY
    · rfl
    · have := k.lt _ _ hY; simp at hb; omega
    · have := k.lt _ _ hX; simp at hb; omega
    · exact k.inj X Y hd hd' hX hY hb
theorem new_ok (k : HeapOK h H φ) {n : Nat} (hn : H n = none) {ob : Ob} (h4 : ob.fl ≠ 4) {c : Array Value} {ty : TypeId} {cap : Nat} (ok : RowOK ob.wd ob.es ⟨h.size, 0, cap⟩ c) (hfl : ob.fl ≠ 0 → ob.es.length = cap)
    (hc : ∀ i e j x, ob.es[i]? = some e → e[j]? = some x → RepE h H φ x (c.getD (i * ob.wd + j) undef)) :
    HeapOK (h.push (.cells c ty (0, 0))) (put1 H n (some ob)) (φ.set n fun q => if q = [] then some ⟨h.size, 0, cap⟩ else none) ∧
    Turn h H φ (h.push (.cells c ty (0, 0))) (put1 H n (some ob)) (φ.set n fun q => if q = [] then some ⟨h.size, 0, cap⟩ else none) := by
  refine newG_ok k hn fun t => obRow ok.wd0 h4 (.inr ⟨_, c, ty, by rw [set_self]; rfl, by simp, ok, hfl, fun i e j x hi hj => .e _ x _ ?_⟩)
  rw [Nat.zero_add]
  exact (hc i e j x hi hj).turn t
theorem updG_ok (k : HeapOK h H φ) {n : Nat} {ob ob' : Ob} {hd : Hd} {o : Obj} (hn : H n = some (some ob)) (hp : φ (n, []) = some hd) (hsame : ∀ m, m ≠ hd.b → h'[m]? = h[m]?) (hb' : h'[hd.b]? = some o)
    (hwd : ob'.wd = ob.wd) (hle : ob.es.length ≤ ob'.es.length) (hob : Turn h H φ h' (put1 H n (some ob')) φ → (∀ (X : Place) hd2, φ X = some hd2 → X ≠ (n, []) → h'[hd2.b]? = h[hd2.b]?) → ObOK h' (put1 H n (some ob')) φ n ob') : HeapOK h' (put1 H n (some ob')) φ ∧ Turn h H φ h' (put1 H n (some ob')) φ := by
  have hsz : h.size ≤ h'.size := by
    rcases Nat.lt_or_ge h'.size h.size with hlt | hge
    · exfalso
      by_cases e : h'.size = hd.b
      · have := lt_of_get hb'; omega
      · have := hsame _ e
        rw [Array.getElem?_eq_none (Nat.le_refl _), Array.getElem?_eq_getElem hlt] at this
        cases this
    · exact hge
  have t : Turn h H φ h' (put1 H n (some ob')) φ := by
    refine ⟨rfl, fun b hb hO => ⟨hO, hsame b fun e => hO ⟨_, hd, hp, e.symm⟩⟩, fun m hm => ?_, fun m x hm => .inr ?_⟩
    · have e : m ≠ n := fun e => by rw [e, hn] at hm; cases hm
      rw [put1_ne _ e]; exact hm
    · by_cases e : m = n
      · subst e
        rw [hn] at hm
        cases hm
        exact ⟨ob', put1_self _ _, rfl, hwd, hle⟩
      · exact ⟨x, (put1_ne _ e).trans hm, rfl, rfl, Nat.le_refl _⟩
  refine ⟨all_ob (fun m x hm => ?_) (fun X hd2 hX => Nat.lt_of_lt_of_le (k.lt X hd2 hX) hsz) k.apart (fun b hb => Nat.lt_of_lt_of_le (k.old b hb) hsz) k.inj, t⟩
  have other : ∀ (X : Place) hd2, φ X = some hd2 → X ≠ (n, []) → h'[hd2.b]? = h[hd2.b]? := fun X hd2 hX hne => hsame _ fun e => hne (k.inj X _ hd2 hd hX hp e)
  by_cases e : m = n
  · subst e
    rw [put1_self] at hm
    cases hm
    exact hob t other
  · rw [put1_ne _ e] at hm
    exact (k.ob m x hm).keep (fun _ _ r => r.turn t) (fun q => rfl) fun q hd2 hq => other _ hd2 hq fun e2 => e (congrArg Prod.fst e2)
theorem upd_ok (k : HeapOK h H φ) {n : Nat} {ob ob' : Ob} (h4 : ob'.fl ≠ 4) {hd : Hd} {c' : Array Value} {ty : TypeId} (hn : H n = some (some ob)) (hp : φ (n, []) = some hd) (hsame : ∀ m, m ≠ hd.b → h'[m]? = h[m]?) (hb' : h'[hd.b]? = some (.cells c' ty (0, 0)))
    (hwd : ob'.wd = ob.wd) (hle : ob.es.length ≤ ob'.es.length) (ok : RowOK ob'.wd ob'.es hd c') (hfl : ob'.fl ≠ 0 → ob'.es.length = hd.cap)
    (hc : ∀ i e j x, ob'.es[i]? = some e → e[j]? = some x → RepA h H φ (n, [(i, j)]) x (c'.getD (hd.off + i * ob'.wd + j) undef)) : HeapOK h' (put1 H n (some ob')) φ ∧ Turn h H φ h' (put1 H n (some ob')) φ :=
  updG_ok k hn hp hsame hb' hwd hle fun t other => obRow ok.wd0 h4 (.inr ⟨hd, c', ty, hp, hb', ok, hfl, fun i e j x hi hj => (hc i e j x hi hj).keep (fun _ _ r => r.turn t) _ (fun q => rfl) fun q hd2 hq => other _ hd2 hq (by simp)⟩)
theorem kill_ok (k : HeapOK h H φ) {n : Nat} {ob : Ob} (hn : H n = some (some ob)) : HeapOK h (put1 H n none) φ ∧ Turn h H φ h (put1 H n none) φ := by
  have t : Turn h H φ h (put1 H n none) φ := by
    refine ⟨rfl, fun b hb hO => ⟨hO, rfl⟩, fun m hm => ?_, fun m x hm => ?_⟩
    · have e : m ≠ n := fun e => by rw [e, hn] at hm; cases hm
      rw [put1_ne _ e]; exact hm
    · by_cases e : m = n
      · subst e; exact .inl (put1_self _ _)
      · exact .inr ⟨x, (put1_ne _ e).trans hm, rfl, rfl, Nat.le_refl _⟩
  refine ⟨all_ob (fun m x hm => ?_) k.lt k.apart k.old k.inj, t⟩
  have e : m ≠ n := fun e => by rw [e, put1_self] at hm; cases hm
  rw [put1_ne _ e] at hm
  exact (k.ob m x hm).keep (fun _ _ r => r.turn t) (fun q => rfl) fun _ _ _ => rfl
theorem shift_ok (k : HeapOK h H φ) {n m : Nat} {ob ob' : Ob} (h4 : ob'.fl ≠ 4) {hd : Hd} {c' : Array Value} {ty : TypeId} (hn : H n = some (some ob)) (hm : H m = none) (hsz : h.size ≤ h'.size)
    (hsame : ∀ b, b < h.size → (∀ hd, φ (n, []) = some hd → b ≠ hd.b) → h'[b]? = h[b]?) (hnew : h.size ≤ hd.b ∨ ∃ hd0, φ (n, []) = some hd0 ∧ hd0.b = hd.b) (hb' : h'[hd.b]? = some (.cells c' ty (0, 0)))
    (ok : RowOK ob'.wd ob'.es hd c') (hfl : ob'.fl ≠ 0 → ob'.es.length = hd.cap)
    (hc : ∀ i e j x, ob'.es[i]? = some e → e[j]? = some x → RepA h H φ (n, [(i, j)]) x (c'.getD (hd.off + i * ob'.wd + j) undef)) :
    ∃ φ', HeapOK h' (put1 (put1 H n none) m (some ob')) φ' ∧ Turn h H φ h' (put1 (put1 H n none) m (some ob')) φ' ∧ φ' (m, []) = some hd := by
  have hnm : n ≠ m := fun e => by rw [e, hm] at hn; cases hn
  let φ' : Phi := (φ.set n fun _ => none).set m fun q => if q = [] then some hd else φ (n, q)
  have pm : ∀ q, φ' (m, q) = if q = [] then some hd else φ (n, q) := fun q => set_self _ _ _
  have po : ∀ X : Place, X.1 ≠ m → X.1 ≠ n → φ' X = φ X := fun X h1 h2 => (set_ne _ h1).trans (set_ne _ h2)
  have own : ∀ X hd2, φ' X = some hd2 → (X = (m, []) ∧ hd2 = hd) ∨ (∃ q, q ≠ [] ∧ X = (m, q) ∧ φ (n, q) = some hd2) ∨ (X.1 ≠ n ∧ X.1 ≠ m ∧ φ X = some hd2) := by
    rintro ⟨l, q⟩ hd2 hX
    by_cases e : l = m
    · subst e
      rw [pm] at hX
      by_cases e2 : q = []
      · subst e2; cases hX; exact .inl ⟨rfl, rfl⟩
      · rw [if_neg e2] at hX; exact .inr (.inl ⟨q, e2, rfl, hX⟩)
    · by_cases e2 : l = n
      · subst e2
        have : φ' (l, q) = none := (set_ne _ e).trans (set_self _ _ _)
        rw [this] at hX; cases hX
      · rw [po _ e e2] at hX; exact .inr (.inr ⟨e2, e, hX⟩)
  have t : Turn h H φ h' (put1 (put1 H n none) m (some ob')) φ' := by
    refine ⟨rfl, fun b hb hO => ⟨?_, hsame b hb fun hd0 h0 e => hO ⟨_, hd0, h0, e.symm⟩⟩, fun l hl => ?_, fun l x hl => ?_⟩
    · rintro ⟨X, hd2, hX, rfl⟩
      rcases own X hd2 hX with ⟨_, rfl⟩ | ⟨q, _, _, hq⟩ | ⟨_, _, hq⟩
      · rcases hnew with h1 | ⟨hd0, h1, h2⟩
        · omega
        · exact hO ⟨_, hd0, h1, h2⟩
      · exact hO ⟨_, hd2, hq, rfl⟩
      · exact hO ⟨_, hd2, hq, rfl⟩
    · have e1 : l ≠ m := fun e => by rw [e, hm] at hl; cases hl
      have e2 : l ≠ n := fun e => by rw [e, hn] at hl; cases hl
      rw [put1_ne _ e1, put1_ne _ e2]; exact hl
    · have e1 : l ≠ m := fun e => by rw [e, hm] at hl; cases hl
      rw [put1_ne _ e1]
      by_cases e2 : l = n
      · subst e2; exact .inl (put1_self _ _)
      · exact .inr ⟨x, (put1_ne _ e2).trans hl, po _ e1 e2, rfl, Nat.le_refl _⟩
  have other : ∀ (X : Place) hd2, φ X = some hd2 → X ≠ (n, []) → h'[hd2.b]? = h[hd2.b]? := fun X hd2 hX hne => hsame _ (k.lt X hd2 hX) fun hd0 h0 e => hne (k.inj X _ hd2 hd0 hX h0 e)
  refine ⟨φ', all_ob (fun l x hl => ?_) (fun X hd2 hX => ?_) (fun X hd2 hX ho => ?_) (fun b hb => Nat.lt_of_lt_of_le (k.old b hb) hsz) (fun X Y hd1 hd2 hX hY hb => ?_), t, by rw [pm]; rfl⟩
  · by_cases e : l = m
    · subst e
      rw [put1_self] at hl
      cases hl
      refine obRow ok.wd0 h4 (.inr ⟨hd, c', ty, by rw [pm]; rfl, hb', ok, hfl, fun i e j x hi hj => (hc i e j x hi hj).keep (fun _ _ r => r.turn t) _ (fun q => ?_) fun q hd2 hq => other _ hd2 hq (by simp)⟩)
      rw [pm, if_neg (by simp)]
    · rw [put1_ne _ e] at hl
      have e2 : l ≠ n := fun e2 => by rw [e2, put1_self] at hl; cases hl
      rw [put1_ne _ e2] at hl
      exact (k.ob l x hl).keep (fun _ _ r => r.turn t) (fun q => po _ e e2) fun q hd2 hq => other _ hd2 hq fun e3 => e2 (congrArg Prod.fst e3)
  · rcases own X hd2 hX with ⟨_, rfl⟩ | ⟨q, _, _, hq⟩ | ⟨_, _, hq⟩
    · exact lt_of_get hb'
    · exact Nat.lt_of_lt_of_le (k.lt _ _ hq) hsz
    · exact Nat.lt_of_lt_of_le (k.lt _ _ hq) hsz
  · rcases own X hd2 hX with ⟨_, rfl⟩ | ⟨q, _, _, hq⟩ | ⟨_, _, hq⟩
    · rcases hnew with h1 | ⟨hd0, h1, h2⟩
      · have := k.old _ ho; omega
      · exact k.apart _ hd0 h1 (h2 ▸ ho)
    · exact k.apart _ _ hq ho
    · exact k.apart _ _ hq ho
  · have key : ∀ X hd2, (∃ q, q ≠ [] ∧ X = (m, q) ∧ φ (n, q) = some hd2) ∨ (X.1 ≠ n ∧ X.1 ≠ m ∧ φ X = some hd2) → hd.b ≠ hd2.b := by
      rintro X hd2 hX e
      rcases hnew with h1 | ⟨hd0, h1, h2⟩
      · rcases hX with ⟨q, _, _, hq⟩ | ⟨_, _, hq⟩ <;> have := k.lt _ _ hq <;> omega
      · rcases hX with ⟨q, hq0, _, hq⟩ | ⟨hq0, _, hq⟩
        · have := k.inj _ _ _ _ h1 hq (h2.trans e); simp only [Prod.mk.injEq, true_and] at this; exact hq0 this.symm
        · have := k.inj _ _ _ _ h1 hq (h2.trans e); exact hq0 (congrArg Prod.fst this).symm
    have hX2 := own X hd1 hX
    have hY2 := own Y hd2 hY
    clear hX hY
    rcases hX2 with ⟨rfl, rfl⟩ | hX <;> rcases hY2 with ⟨rfl, rfl⟩ | hY
    · rfl
    · exact absurd hb (key Y hd2 hY)
    · exact absurd hb.symm (key X hd1 hX)
    · rcases hX with ⟨q, hq0, rfl, hq⟩ | ⟨hq0, hq1, hq⟩ <;> rcases hY with ⟨q', hq0', rfl, hq'⟩ | ⟨hq0', hq1', hq'⟩
      · have := k.inj _ _ _ _ hq hq' hb
        simp only [Prod.mk.injEq, true_and] at this
        rw [this]
      · have := k.inj _ _ _ _ hq hq' hb
        exact absurd (congrArg Prod.fst this).symm hq0'
      · have := k.inj _ _ _ _ hq hq' hb
        exact absurd (congrArg Prod.fst this) hq0
      · exact k.inj _ _ _ _ hq hq' hb
end
end Go.Proofs.YtecnmodeggnjoaaGreat.Ac
set_option linter.unusedVariables false
set_option linter.unusedSimpArgs false
namespace Go.Proofs.YtecnmodeggnjoaaGreat.Ac
open Go.RowKit
section
variable {h h' : Array Obj} {H H' : Hp} {φ φ' : Phi}
theorem getLast_app (q : List (Nat × Nat)) (s : Nat × Nat) : (q ++ [s]).getLast? = some s := by simp
theorem of_getLast {q : List (Nat × Nat)} {s : Nat × Nat} (hq : q.getLast? = some s) : q.dropLast ++ [s] = q := by
  obtain ⟨hne, hs⟩ := List.getLast?_eq_some_iff.1 hq
  rw [hs]; simp
theorem set_get {es : List (List A)} {i j : Nat} {e : List A} {y : A} (he : es[i]? = some e) {i' j' : Nat} {e' : List A} {x : A} (h1 : (es.set i (e.set j y))[i']? = some e') (h2 : e'[j']? = some x) :
    (i' = i ∧ j' = j ∧ x = y) ∨ (¬ (i' = i ∧ j' = j) ∧ ∃ e0, es[i']? = some e0 ∧ e0[j']? = some x) := by
  have hi := (List.getElem?_eq_some_iff.1 he).1
  by_cases hii : i = i'
  · subst hii
    rw [List.getElem?_set_self hi] at h1
    cases h1
    by_cases hjj : j = j'
    · subst hjj
      have : j < (e.set j y).length := (List.getElem?_eq_some_iff.1 h2).1
      rw [List.getElem?_set_self (by simpa using this)] at h2
      cases h2
      exact .inl ⟨rfl, rfl, rfl⟩
    · rw [List.getElem?_set_ne hjj] at h2
      exact .inr ⟨fun h => hjj h.2.symm, e, he, h2⟩
  · rw [List.getElem?_set_ne hii] at h1
    exact .inr ⟨fun h => hii h.1.symm, e', h1, h2⟩
theorem RowOK.set {wd : Nat} {es : List (List A)} {hd : Hd} {c : Array Value} (ok : RowOK wd es hd c) {i j : Nat} {e : List A} {y : A} (he : es[i]? = some e) : RowOK wd (es.set i (e.set j y)) hd c :=
  ⟨ok.wd0, fun e' he' => by
    rcases List.mem_or_eq_of_mem_set he' with h | rfl
    · exact ok.len e' h
    · simpa using ok.len e (List.mem_of_getElem? he), by simpa using ok.le, ok.cap, ok.size, ok.one⟩
theorem xpl_ok (k : HeapOK h H φ) {n m : Nat} {ob : Ob} {i j : Nat} {e : List A} {wd : Nat} {ys : List (List A)} (hn : H n = some (some ob)) (hf4 : ob.fl ≠ 4) (hm : H m = none) (he : ob.es[i]? = some e) (hj : e[j]? = some (.ow wd ys)) :
    ∃ φ', HeapOK h (put1 (put1 H n (some ⟨ob.fl, ob.wd, ob.es.set i (e.set j (.row m 0 ys.length))⟩)) m (some ⟨0, wd, ys⟩)) φ' ∧
      Turn h H φ h (put1 (put1 H n (some ⟨ob.fl, ob.wd, ob.es.set i (e.set j (.row m 0 ys.length))⟩)) m (some ⟨0, wd, ys⟩)) φ' := by
  have hnm : n ≠ m := fun e => by rw [e, hm] at hn; cases hn
  let φ' : Phi := (φ.set n fun q => if q.getLast? = some (i, j) then none else φ (n, q)).set m fun q => φ (n, q ++ [(i, j)])
  have pm : ∀ q, φ' (m, q) = φ (n, q ++ [(i, j)]) := fun q => set_self _ _ _
  have pn : ∀ q, φ' (n, q) = if q.getLast? = some (i, j) then none else φ (n, q) := fun q => (set_ne _ hnm).trans (set_self _ _ _)
  have po : ∀ X : Place, X.1 ≠ m → X.1 ≠ n → φ' X = φ X := fun X h1 h2 => (set_ne _ h1).trans (set_ne _ h2)
  have own : ∀ X hd, φ' X = some hd → (∃ q, X = (m, q) ∧ φ (n, q ++ [(i, j)]) = some hd) ∨ (X.1 ≠ m ∧ (∀ q, X = (n, q) → q.getLast? ≠ some (i, j)) ∧ φ X = some hd) := by
    rintro ⟨l, q⟩ hd hX
    by_cases e1 : l = m
    · subst e1; rw [pm] at hX; exact .inl ⟨q, rfl, hX⟩
    · by_cases e2 : l = n
      · subst e2
        rw [pn] at hX
        by_cases e3 : q.getLast? = some (i, j)
        · rw [if_pos e3] at hX; cases hX
        · rw [if_neg e3] at hX
          refine .inr ⟨e1, fun q' hq' => ?_, hX⟩
          cases hq'; exact e3
      · rw [po _ e1 e2] at hX
        exact .inr ⟨e1, fun q' hq' => absurd (congrArg Prod.fst hq') e2, hX⟩
  have own' : ∀ X hd, φ' X = some hd → ∃ Y, φ Y = some hd := fun X hd hX => by
    rcases own X hd hX with ⟨q, _, hq⟩ | ⟨_, _, hq⟩
    · exact ⟨_, hq⟩
    · exact ⟨_, hq⟩
  have hphn : φ' (n, []) = φ (n, []) := by rw [pn]; simp
  have t : Turn h H φ h (put1 (put1 H n (some ⟨ob.fl, ob.wd, ob.es.set i (e.set j (.row m 0 ys.length))⟩)) m (some ⟨0, wd, ys⟩)) φ' := by
    refine ⟨rfl, fun b hb hO => ⟨?_, rfl⟩, fun l hl => ?_, fun l x hl => .inr ?_⟩
    · rintro ⟨X, hd, hX, rfl⟩
      obtain ⟨Y, hY⟩ := own' X hd hX
      exact hO ⟨Y, hd, hY, rfl⟩
    · have e1 : l ≠ m := fun e => by rw [e, hm] at hl; cases hl
      have e2 : l ≠ n := fun e => by rw [e, hn] at hl; cases hl
      rw [put1_ne _ e1, put1_ne _ e2]; exact hl
    · have e1 : l ≠ m := fun e => by rw [e, hm] at hl; cases hl
      rw [put1_ne _ e1]
      by_cases e2 : l = n
      · subst e2
        rw [hn] at hl
        cases hl
        exact ⟨_, put1_self _ _, hphn, rfl, by simp⟩
      · exact ⟨x, (put1_ne _ e2).trans hl, po _ e1 e2, rfl, Nat.le_refl _⟩
  have hobn := k.ob n ob hn
  refine ⟨φ', all_ob (fun l x hl => ?_) (fun X hd hX => ?_) (fun X hd hX ho => ?_) k.old (fun X Y hd1 hd2 hX hY hb => ?_), t⟩
  · by_cases e1 : l = m
    · subst e1
      rw [put1_self] at hl
      cases hl
      rcases (hobn.row hf4) with ⟨h0, _⟩ | ⟨hd, c, ty, h1, h2, h3, h4, h5⟩
      · rw [h0] at he; cases he
      · have r := h5 i e j _ he hj
        generalize c.getD (hd.off + i * ob.wd + j) undef = u at r
        cases r with
        | e _ _ _ r => cases r
        | nilo _ _ a hw hX => exact obRow hw (fun h => by cases h) (.inl ⟨rfl, by rw [pm]; exact hX⟩)
        | ow _ _ _ hd2 c2 ty2 hX hb ok hr =>
          refine obRow ok.wd0 (fun h => by cases h) (.inr ⟨hd2, c2, ty2, by rw [pm]; exact hX, hb, ok, fun h => absurd rfl h, fun i2 e2 j2 x2 hi2 hj2 => (hr i2 e2 j2 x2 hi2 hj2).keep (fun _ _ r => r.turn t) _ (fun q => ?_) fun _ _ _ => rfl⟩)
          rw [pm]; simp
    · rw [put1_ne _ e1] at hl
      by_cases e2 : l = n
      · subst e2
        rw [put1_self] at hl
        cases hl
        refine obRow hobn.1 hf4 ?_
        rcases (hobn.row hf4) with ⟨h0, _⟩ | ⟨hd, c, ty, h1, h2, h3, h4, h5⟩
        · rw [h0] at he; cases he
        · refine .inr ⟨hd, c, ty, hphn.trans h1, h2, h3.set he, by simpa using h4, fun i2 e2 j2 x2 hi2 hj2 => ?_⟩
          rcases set_get he hi2 hj2 with ⟨rfl, rfl, rfl⟩ | ⟨hne, e0, g1, g2⟩
          · refine .e _ _ _ (.row _ _ _ _ ?_)
            have r := h5 i2 e j2 _ he hj
            dsimp only
            generalize c.getD (hd.off + i2 * ob.wd + j2) undef = u at r ⊢
            refine ⟨r.one, ?_⟩
            rw [put1_self]
            dsimp only
            refine ⟨Nat.zero_le _, Nat.le_refl _, ?_⟩
            rw [pm]
            cases r with
            | e _ _ _ r => cases r
            | nilo _ _ a hw hX => rw [List.nil_append, hX]; exact ⟨a, rfl⟩
            | ow _ _ _ hd2 c2 ty2 hX hb ok hr => rw [List.nil_append, hX]; exact ⟨_, rfl, fun _ => by simp⟩
          · refine (h5 i2 e0 j2 x2 g1 g2).keep (fun _ _ r => r.turn t) _ (fun q => ?_) fun _ _ _ => rfl
            rw [pn, getLast_app, if_neg]
            intro h; cases h; exact hne ⟨rfl, rfl⟩
      · rw [put1_ne _ e2] at hl
        exact (k.ob l x hl).keep (fun _ _ r => r.turn t) (fun q => po _ e1 e2) fun _ _ _ => rfl
  · obtain ⟨Y, hY⟩ := own' X hd hX; exact k.lt Y hd hY
  · obtain ⟨Y, hY⟩ := own' X hd hX; exact k.apart Y hd hY ho
  · rcases own X hd1 hX with ⟨q, rfl, hq⟩ | ⟨a1, a2, hq⟩ <;> rcases own Y hd2 hY with ⟨q', rfl, hq'⟩ | ⟨a1', a2', hq'⟩
    · have := k.inj _ _ _ _ hq hq' hb
      simp only [Prod.mk.injEq, true_and, List.append_cancel_right_eq] at this
      rw [this]
    · have := k.inj _ _ _ _ hq hq' hb
      exact absurd (getLast_app q (i, j)) (a2' _ this.symm)
    · have := k.inj _ _ _ _ hq hq' hb
      exact absurd (getLast_app q' (i, j)) (a2 _ this)
    · exact k.inj _ _ _ _ hq hq' hb
theorem imp_ok (k : HeapOK h H φ) {n m : Nat} {ob mob : Ob} {i j len : Nat} {e : List A} (hn : H n = some (some ob)) (hf4 : ob.fl ≠ 4) (hm : H m = some (some mob)) (hm4 : mob.fl ≠ 4) (hnm : n ≠ m) (he : ob.es[i]? = some e) (hj : e[j]? = some (.row m 0 len)) :
    ∃ φ', HeapOK h (put1 (put1 H m none) n (some ⟨ob.fl, ob.wd, ob.es.set i (e.set j (.ow mob.wd (mob.es.take len)))⟩)) φ' ∧
      Turn h H φ h (put1 (put1 H m none) n (some ⟨ob.fl, ob.wd, ob.es.set i (e.set j (.ow mob.wd (mob.es.take len)))⟩)) φ' ∧ (∀ p, φ p = none → (∀ q, p ≠ (n, q)) → φ' p = none) ∧ φ' (n, []) = φ (n, []) ∧ ∀ q, φ' (m, q) = none := by
  let φ' : Phi := (φ.set n fun q => if q.getLast? = some (i, j) then φ (m, q.dropLast) else φ (n, q)).set m fun _ => none
  have pm : ∀ q, φ' (m, q) = none := fun q => set_self _ _ _
  have pn : ∀ q, φ' (n, q) = if q.getLast? = some (i, j) then φ (m, q.dropLast) else φ (n, q) := fun q => (set_ne _ hnm).trans (set_self _ _ _)
  have pn' : ∀ q, φ' (n, q ++ [(i, j)]) = φ (m, q) := fun q => by rw [pn, getLast_app, if_pos rfl, List.dropLast_concat]
  have po : ∀ X : Place, X.1 ≠ m → X.1 ≠ n → φ' X = φ X := fun X h1 h2 => (set_ne _ h1).trans (set_ne _ h2)
  have own : ∀ X hd, φ' X = some hd → (∃ q, X = (n, q ++ [(i, j)]) ∧ φ (m, q) = some hd) ∨ (X.1 ≠ m ∧ φ X = some hd ∧ ∀ q, X ≠ (n, q ++ [(i, j)])) := by
    rintro ⟨l, q⟩ hd hX
    by_cases e1 : l = m
    · subst e1; rw [pm] at hX; cases hX
    · by_cases e2 : l = n
      · subst e2
        rw [pn] at hX
        by_cases e3 : q.getLast? = some (i, j)
        · rw [if_pos e3] at hX
          exact .inl ⟨q.dropLast, by rw [of_getLast e3], hX⟩
        · rw [if_neg e3] at hX
          refine .inr ⟨e1, hX, fun q' hq' => ?_⟩
          cases hq'; exact e3 (getLast_app _ _)
      · rw [po _ e1 e2] at hX
        exact .inr ⟨e1, hX, fun q' hq' => e2 (congrArg Prod.fst hq')⟩
  have own' : ∀ X hd, φ' X = some hd → ∃ Y, φ Y = some hd := fun X hd hX => by
    rcases own X hd hX with ⟨q, _, hq⟩ | ⟨_, hq, _⟩
    · exact ⟨_, hq⟩
    · exact ⟨_, hq⟩
  have hphn : φ' (n, []) = φ (n, []) := by rw [pn]; simp
  have t : Turn h H φ h (put1 (put1 H m none) n (some ⟨ob.fl, ob.wd, ob.es.set i (e.set j (.ow mob.wd (mob.es.take len)))⟩)) φ' := by
    refine ⟨rfl, fun b hb hO => ⟨?_, rfl⟩, fun l hl => ?_, fun l x hl => ?_⟩
    · rintro ⟨X, hd, hX, rfl⟩
      obtain ⟨Y, hY⟩ := own' X hd hX
      exact hO ⟨Y, hd, hY, rfl⟩
    · have e1 : l ≠ m := fun e => by rw [e, hm] at hl; cases hl
      have e2 : l ≠ n := fun e => by rw [e, hn] at hl; cases hl
      rw [put1_ne _ e2, put1_ne _ e1]; exact hl
    · by_cases e2 : l = n
      · subst e2
        rw [hn] at hl
        cases hl
        exact .inr ⟨_, put1_self _ _, hphn, rfl, by simp⟩
      · rw [put1_ne _ e2]
        by_cases e1 : l = m
        · subst e1; exact .inl (put1_self _ _)
        · exact .inr ⟨x, (put1_ne _ e1).trans hl, po _ e1 e2, rfl, Nat.le_refl _⟩
  have hobn := k.ob n ob hn
  have hobm := k.ob m mob hm
  refine ⟨φ', all_ob (fun l x hl => ?_) (fun X hd hX => ?_) (fun X hd hX ho => ?_) k.old (fun X Y hd1 hd2 hX hY hb => ?_), t, fun p hp hp2 => ?_, hphn, pm⟩
  · by_cases e2 : l = n
    · subst e2
      rw [put1_self] at hl
      cases hl
      refine obRow hobn.1 hf4 ?_
      rcases (hobn.row hf4) with ⟨h0, _⟩ | ⟨hd, c, ty, h1, h2, h3, h4, h5⟩
      · rw [h0] at he; cases he
      · refine .inr ⟨hd, c, ty, hphn.trans h1, h2, h3.set he, by simpa using h4, fun i2 e2 j2 x2 hi2 hj2 => ?_⟩
        rcases set_get he hi2 hj2 with ⟨rfl, rfl, rfl⟩ | ⟨hne, e0, g1, g2⟩
        · have r := h5 i2 e j2 _ he hj
          dsimp only
          generalize c.getD (hd.off + i2 * ob.wd + j2) undef = u at r ⊢
          cases r with
          | e _ _ _ r =>
            cases r with
            | row _ _ _ _ r =>
              have r2 := r.2
              rw [hm] at r2
              dsimp only at r2
              obtain ⟨_, hle, r3⟩ := r2
              rcases (hobm.row hm4) with ⟨g0, g1⟩ | ⟨hd2, c2, ty2, g1, g2, g3, g4, g5⟩
              · rw [g1] at r3
                obtain ⟨a, rfl⟩ := r3
                rw [g0]
                simp only [List.take_nil]
                exact .nilo _ _ a hobm.1 ((pn' []).trans g1)
              · rw [g1] at r3
                obtain ⟨a, rfl, ha⟩ := r3
                rw [ha (.inl rfl)]
                have hl2 : (mob.es.take len).length = len := by simp; omega
                simp only [Nat.zero_mul, Nat.add_zero, Nat.sub_zero]
                have := RepA.ow (h := h) (H := put1 (put1 H m none) l (some ⟨ob.fl, ob.wd, ob.es.set i2 (e.set j2 (.ow mob.wd (mob.es.take len)))⟩)) (φ := φ') (l, [(i2, j2)]) mob.wd (mob.es.take len) hd2 c2 ty2 ((pn' []).trans g1) g2
                  ⟨g3.wd0, fun e he => g3.len e (List.mem_of_mem_take he), by rw [hl2]; exact Nat.le_trans hle g3.le, g3.cap, g3.size, g3.one⟩ (fun i3 e3 j3 x3 hi3 hj3 => ?_)
                · rw [hl2] at this; exact this
                · rw [List.getElem?_take] at hi3
                  split at hi3
                  · refine (g5 i3 e3 j3 x3 hi3 hj3).keep (fun _ _ r => r.turn t) _ (fun q => ?_) fun _ _ _ => rfl
                    have := pn' (q ++ [(i3, j3)])
                    simpa using this
                  · cases hi3
        · refine (h5 i2 e0 j2 x2 g1 g2).keep (fun _ _ r => r.turn t) _ (fun q => ?_) fun _ _ _ => rfl
          rw [pn, getLast_app, if_neg]
          intro h; cases h; exact hne ⟨rfl, rfl⟩
    · rw [put1_ne _ e2] at hl
      have e1 : l ≠ m := fun e => by rw [e, put1_self] at hl; cases hl
      rw [put1_ne _ e1] at hl
      exact (k.ob l x hl).keep (fun _ _ r => r.turn t) (fun q => po _ e1 e2) fun _ _ _ => rfl
  · obtain ⟨Y, hY⟩ := own' X hd hX; exact k.lt Y hd hY
  · obtain ⟨Y, hY⟩ := own' X hd hX; exact k.apart Y hd hY ho
  · rcases own X hd1 hX with ⟨q, rfl, hq⟩ | ⟨a1, hq, a2⟩ <;> rcases own Y hd2 hY with ⟨q', rfl, hq'⟩ | ⟨a1', hq', a2'⟩
    · have := k.inj _ _ _ _ hq hq' hb
      simp only [Prod.mk.injEq, true_and] at this
      rw [this]
    · have := k.inj _ _ _ _ hq hq' hb
      exact absurd (congrArg Prod.fst this).symm a1'
    · have := k.inj _ _ _ _ hq hq' hb
      exact absurd (congrArg Prod.fst this) a1
    · exact k.inj _ _ _ _ hq hq' hb
  · by_cases e1 : p.1 = m
    · have := pm p.2; rwa [← e1] at this
    · have e2 : p.1 ≠ n := fun e => hp2 p.2 (by rw [← e])
      rw [po _ e1 e2]; exact hp
end
end Go.Proofs.YtecnmodeggnjoaaGreat.Ac
