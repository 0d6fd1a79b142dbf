/- Several of our texts, one behind the other, without what this claim does not need: AcB. -/
import Derived.Test.YtecnmodeggnjoaaGreatZed10fd20
set_option linter.unusedVariables false
set_option linter.unusedSimpArgs false
namespace Go.Proofs.YtecnmodeggnjoaaGreat.Ac
open Go.RowKit
structure Eff where
  val : T
  rdn : List Nat
  upd : List (Nat × Option Ob)
def memN (n : Nat) : List Nat → Bool
  | [] => false
  | m :: l => cond (Nat.beq n m) true (memN n l)
def names (ε : Eff) : List Nat := ε.rdn ++ ε.upd.map (·.1)
def putE (d : Option Tmp) (v : T) (e : Env) : Env := fun t => match d with
  | some d => cond (Nat.beq d t) (some v) (e t)
  | none => e t
def putH (u : List (Nat × Option Ob)) (g : Hp) : Hp := fun n => match get u n with
  | some x => some x
  | none => g n
def frees (κ ε : Eff) : Bool := κ.upd.all (fun u => !memN u.1 (names ε)) && ε.upd.all (fun u => !memN u.1 (names κ))
theorem beq_false {m n : Nat} (h : m ≠ n) : Nat.beq m n = false := by
  cases hb : Nat.beq m n
  · rfl
  · exact absurd (Nat.eq_of_beq_eq_true hb) h
theorem memN_iff {n : Nat} {l : List Nat} : memN n l = true ↔ n ∈ l := by
  induction l with
  | nil => simp [memN]
  | cons m l ih =>
    simp only [memN, List.mem_cons]
    cases hb : Nat.beq n m
    · have : n ≠ m := fun h => by subst h; simp at hb
      simp [ih, this]
    · simp [Nat.eq_of_beq_eq_true hb]
theorem get_none {α : Type} {n : Nat} {l : List (Nat × α)} (h : n ∉ l.map (·.1)) : get l n = none := by
  induction l with
  | nil => rfl
  | cons x l ih =>
    obtain ⟨m, o⟩ := x
    simp only [List.map_cons, List.mem_cons, not_or] at h
    rw [get_cons_ne o l (Ne.symm h.1)]
    exact ih h.2
theorem putE_ne {d : Option Tmp} {v : T} {e : Env} {t : Nat} (h : d ≠ some t) : putE d v e t = e t := by
  cases d with
  | none => rfl
  | some d => simp only [putE]; rw [beq_false (fun hd => h (by rw [hd]))]; rfl
theorem putE_comm {c d : Option Tmp} {u v : T} {e : Env} (h : ∀ t, c = some t → d ≠ some t) : putE c u (putE d v e) = putE d v (putE c u e) := by
  funext t
  by_cases hc : c = some t
  · rw [putE_ne (h t hc)]
    subst hc
    simp [putE]
  · rw [putE_ne hc]
    by_cases hd : d = some t
    · subst hd; simp [putE]
    · rw [putE_ne hd, putE_ne hd, putE_ne hc]
theorem putH_ne {u : List (Nat × Option Ob)} {g : Hp} {n : Nat} (h : n ∉ u.map (·.1)) : putH u g n = g n := by
  simp [putH, get_none h]
theorem putH_comm {u v : List (Nat × Option Ob)} {g : Hp} (h : ∀ n, n ∈ u.map (·.1) → n ∉ v.map (·.1)) : putH u (putH v g) = putH v (putH u g) := by
  funext n
  by_cases hu : n ∈ u.map (·.1)
  · rw [putH_ne (h n hu)]
    simp only [putH, get_none (h n hu)]
  · rw [putH_ne hu]
    simp only [putH, get_none hu]
theorem frees_spec {κ ε : Eff} (h : frees κ ε = true) : (∀ n, n ∈ κ.upd.map (·.1) → n ∉ names ε) ∧ (∀ n, n ∈ ε.upd.map (·.1) → n ∉ names κ) := by
  simp only [frees, Bool.and_eq_true, List.all_eq_true, Bool.not_eq_true'] at h
  constructor
  · intro n hn
    obtain ⟨u, hu, rfl⟩ := List.mem_map.1 hn
    intro hc
    have := h.1 u hu
    rw [memN_iff.2 hc] at this
    cases this
  · intro n hn
    obtain ⟨u, hu, rfl⟩ := List.mem_map.1 hn
    intro hc
    have := h.2 u hu
    rw [memN_iff.2 hc] at this
    cases this
section
variable (ops : Array Oper) (R : Nat → Env → Hp → Eff → Prop)
def dsts (i : Nat) : Option Tmp := (ops[i]?).bind (·.dst)
def Run : List (Nat × Eff) → Env → Hp → Prop
  | [], _, _ => True
  | (i, ε) :: M, e, g => R i e g ε ∧ Run M (putE (dsts ops i) ε.val e) (putH ε.upd g)
def finE : List (Nat × Eff) → Env → Env
  | [], e => e
  | (i, ε) :: M, e => finE M (putE (dsts ops i) ε.val e)
def finH : List (Nat × Eff) → Hp → Hp
  | [], g => g
  | (_, ε) :: M, g => finH M (putH ε.upd g)
def Local : Prop := ∀ i o e g ε e' g', ops[i]? = some o → R i e g ε → (∀ t ∈ o.looksAt ops, e' t = e t) → (∀ n ∈ names ε, g' n = g n) → R i e' g' ε
variable {ops R}
theorem pull (hl : Local ops R) {i : Nat} {oi : Oper} {ε : Eff} (hi : ops[i]? = some oi) {M₂ : List (Nat × Eff)} : ∀ (M₁ : List (Nat × Eff)) (e : Env) (g : Hp),
    (∀ x ∈ M₁, frees x.2 ε = true ∧ ∃ ok, ops[x.1]? = some ok ∧ ok.apart ops oi = true) → Run ops R (M₁ ++ (i, ε) :: M₂) e g →
    R i e g ε ∧ Run ops R (M₁ ++ M₂) (putE (dsts ops i) ε.val e) (putH ε.upd g) ∧
      finE ops (M₁ ++ (i, ε) :: M₂) e = finE ops (M₁ ++ M₂) (putE (dsts ops i) ε.val e) ∧ finH (M₁ ++ (i, ε) :: M₂) g = finH (M₁ ++ M₂) (putH ε.upd g)
  | [], e, g, _, h => ⟨h.1, h.2, rfl, rfl⟩
  | (k, κ) :: M₁, e, g, hx, h => by
    obtain ⟨hk, hr⟩ := h
    obtain ⟨h1, h2, h3, h4⟩ := pull hl hi M₁ _ _ (fun x hx' => hx x (List.mem_cons_of_mem _ hx')) hr
    obtain ⟨hf, ok, hok, hap⟩ := hx (k, κ) List.mem_cons_self
    obtain ⟨f1, f2⟩ := frees_spec hf
    obtain ⟨a1, a2, a3⟩ := Oper.apart_spec hap
    have dk : dsts ops k = ok.dst := by simp [dsts, hok]
    have di : dsts ops i = oi.dst := by simp [dsts, hi]
    have ce : ∀ u v, putE (dsts ops i) u (putE (dsts ops k) v e) = putE (dsts ops k) v (putE (dsts ops i) u e) := fun u v => (putE_comm (fun t ht => by rw [di]; exact a2 t (dk ▸ ht))).symm
    have ch : putH ε.upd (putH κ.upd g) = putH κ.upd (putH ε.upd g) := putH_comm fun n hn hc => f2 n hn (List.mem_append_right _ hc)
    refine ⟨hl i oi _ _ ε e g hi h1 (fun t ht => (putE_ne fun hd => a1 t (dk ▸ hd) ht).symm) (fun n hn => (putH_ne fun hc => f1 n hc hn).symm), ⟨?_, ?_⟩, ?_, ?_⟩
    · exact hl k ok _ _ κ _ _ hok hk (fun t ht => putE_ne fun hd => a3 t (di ▸ hd) ht) (fun n hn => putH_ne fun hc => f2 n hc hn)
    · rw [ce, ch] at h2; exact h2
    · simp only [List.cons_append, finE]; rw [h3, ce]
    · simp only [List.cons_append, finH]; rw [h4, ch]
def aheads (o : Oper) (B : Array Nat) : Nat := o.after.toList.foldl (fun s e => cond (Region.binds .any e) (s ||| 2 ^ e.on ||| B.getD e.on 0) s) 0
def okB (B : Array Nat) : Nat → List Oper → Bool
  | _, [] => true
  | i, o :: os => Nat.beq (B.getD i 0) (aheads o B) && o.after.toList.all (fun e => !Region.binds .any e || Nat.blt e.on i) && okB B (i + 1) os
variable (ops) in
def pairOK (B : Array Nat) (x y : Nat × Eff) : Bool := Nat.testBit (B.getD y.1 0) x.1 || frees x.2 y.2 && match ops[x.1]?, ops[y.1]? with
  | some a, some b => a.apart ops b
  | _, _ => false
variable (ops) in
def pairsOK (B : Array Nat) : List (Nat × Eff) → Bool
  | [] => true
  | x :: M => M.all (pairOK ops B x) && pairsOK B M
theorem okB_spec {B : Array Nat} : ∀ {os : List Oper} {i : Nat}, okB B i os = true → ∀ j o, os[j]? = some o → B.getD (i + j) 0 = aheads o B ∧ ∀ e ∈ o.after, Region.binds .any e = true → e.on < i + j
  | [], _, _, j, o, ho => by cases ho
  | o :: os, i, h, j, o', ho => by
    simp only [okB, Bool.and_eq_true] at h
    cases j with
    | zero =>
      cases ho
      refine ⟨Nat.eq_of_beq_eq_true h.1.1, fun e he hb => ?_⟩
      have := List.all_eq_true.1 h.1.2 e (by simpa using he)
      rw [hb] at this
      simp [Nat.blt] at this
      omega
    | succ j =>
      have := okB_spec h.2 j o' ho
      rw [show i + (j + 1) = i + 1 + j by omega]
      exact this
theorem foldl_testBit {B : Array Nat} {k : Nat} : ∀ (l : List Edge) (s : Nat), (l.foldl (fun s e => cond (Region.binds .any e) (s ||| 2 ^ e.on ||| B.getD e.on 0) s) s).testBit k = true →
    s.testBit k = true ∨ ∃ e ∈ l, Region.binds .any e = true ∧ (e.on = k ∨ (B.getD e.on 0).testBit k = true)
  | [], s, h => .inl h
  | e :: l, s, h => by
    rcases foldl_testBit l _ h with h | ⟨e', he', h⟩
    · dsimp only at h
      cases hb : Region.binds .any e
      · rw [hb] at h; exact .inl h
      · rw [hb] at h
        simp only [cond_true, Nat.testBit_or, Bool.or_eq_true, Nat.testBit_two_pow, decide_eq_true_eq] at h
        rcases h with (h | h) | h
        · exact .inl h
        · exact .inr ⟨e, List.mem_cons_self, hb, .inl h⟩
        · exact .inr ⟨e, List.mem_cons_self, hb, .inr h⟩
    · exact .inr ⟨e', List.mem_cons_of_mem _ he', h⟩
end
section
variable {P : Program} {ops : Array Oper} {Q : Exit → Act → World → Prop} {R : Nat → Env → Hp → Eff → Prop} {S : Env → Hp → Act → World → Prop} {B : Array Nat}
def Sound (P : Program) (ops : Array Oper) (Q : Exit → Act → World → Prop) (R : Nat → Env → Hp → Eff → Prop) (S : Env → Hp → Act → World → Prop) : Prop :=
  ∀ i e g ε a w (K : Act → World → Prop), R i e g ε → S e g a w → (∀ a' w', S (putE (dsts ops i) ε.val e) (putH ε.upd g) a' w' → K a' w') → wpOp P ops Q i K a w
theorem pairs_at {y : Nat × Eff} {M₂ : List (Nat × Eff)} : ∀ (M₁ : List (Nat × Eff)), pairsOK ops B (M₁ ++ y :: M₂) = true → ∀ x ∈ M₁, pairOK ops B x y = true
  | [], _, x, hx => by cases hx
  | z :: M₁, hp, x, hx => by
    simp only [List.cons_append, pairsOK, Bool.and_eq_true] at hp
    rcases List.mem_cons.1 hx with rfl | hx
    · exact List.all_eq_true.1 hp.1 _ (by simp)
    · exact pairs_at M₁ hp.2 x hx
theorem pairs_drop {y : Nat × Eff} {M₂ : List (Nat × Eff)} : ∀ (M₁ : List (Nat × Eff)), pairsOK ops B (M₁ ++ y :: M₂) = true → pairsOK ops B (M₁ ++ M₂) = true
  | [], hp => by
    simp only [List.nil_append, pairsOK, Bool.and_eq_true] at hp
    exact hp.2
  | z :: M₁, hp => by
    simp only [List.cons_append, pairsOK, Bool.and_eq_true] at hp ⊢
    refine ⟨List.all_eq_true.2 fun x hx => List.all_eq_true.1 hp.1 x ?_, pairs_drop M₁ hp.2⟩
    rcases List.mem_append.1 hx with h | h <;> simp [h]
theorem split_mem {α : Type} {x : α} {l : List α} (h : x ∈ l) : ∃ a b, l = a ++ x :: b := List.append_of_mem h
theorem any_of_run (hl : Local ops R) (hs : Sound P ops Q R S) (hB : okB B 0 ops.toList = true) : ∀ (n : Nat) (M : List (Nat × Eff)) (listed : Array Bool) (e : Env) (g : Hp) (a : Act) (w : World),
    M.length = n → (M.map (·.1)).Pairwise (· < ·) → listed.size = ops.size → (∀ j, j < ops.size → (listed.getD j true = false ↔ j ∈ M.map (·.1))) → (∀ x ∈ M, x.1 < ops.size) →
    (∀ j, j < ops.size → listed.getD j false = true → ∀ k, (B.getD j 0).testBit k = true → listed.getD k false = true) → pairsOK ops B M = true →
    Run ops R M e g → S e g a w → (∀ a' w', S (finE ops M e) (finH M g) a' w' → Q .normal a' w') → wpAny P .any ops Q n listed a w := by
  intro n
  induction n with
  | zero =>
    intro M listed e g a w hn hsort hsz hlist hlt hcl hp hrun hS hQ
    have hM : M = [] := List.length_eq_zero_iff.1 hn
    subst hM
    refine ⟨?_, hQ a w hS⟩
    cases hr : Region.ready .any ops listed with
    | nil => rfl
    | cons j l =>
      have hj : j ∈ Region.ready .any ops listed := by rw [hr]; exact List.mem_cons_self
      obtain ⟨h0, o, ho, _⟩ := mem_ready.1 hj
      have := (hlist j (Array.getElem?_eq_some_iff.1 ho).1).1 h0
      cases this
  | succ n ih =>
    intro M listed e g a w hn hsort hsz hlist hlt hcl hp hrun hS hQ
    have toOps : ∀ {j : Nat} {o : Oper}, ops[j]? = some o → ops.toList[j]? = some o := fun h => by simpa using h
    constructor
    · intro hr
      exfalso
      cases M with
      | nil => simp at hn
      | cons x M =>
        have hx := hlt x List.mem_cons_self
        have hox : ops[x.1]? = some ops[x.1] := by simp [hx]
        have hxm : x.1 ∈ Region.ready .any ops listed := by
          refine mem_ready.2 ⟨(hlist x.1 hx).2 (by simp), ops[x.1], hox, fun ed he hb => ?_⟩
          have hlt' := (okB_spec hB x.1 _ (toOps hox)).2 ed he hb
          have hlt2 : ed.on < x.1 := by omega
          have hns : ed.on < listed.size := by omega
          have : ¬ (listed.getD ed.on true = false) := fun hf => by
            have := (hlist ed.on (by omega)).1 hf
            simp only [List.map_cons, List.mem_cons] at this
            rcases this with h | h
            · omega
            · have := (List.pairwise_cons.1 (by simpa using hsort)).1 ed.on h
              omega
          simp [hns] at this ⊢
          exact this
        rw [hr] at hxm
        cases hxm
    · intro i hi
      obtain ⟨h0, oi, hoi, hall⟩ := mem_ready.1 hi
      have hilt := (Array.getElem?_eq_some_iff.1 hoi).1
      have him := (hlist i hilt).1 h0
      obtain ⟨⟨i', ε⟩, hxM, rfl⟩ := List.mem_map.1 him
      obtain ⟨M₁, M₂, rfl⟩ := split_mem hxM
      dsimp only at *
      have hpairs : ∀ x ∈ M₁, frees x.2 ε = true ∧ ∃ ok, ops[x.1]? = some ok ∧ ok.apart ops oi = true := by
        intro x hx
        have hpx : pairOK ops B x (i', ε) = true := pairs_at M₁ hp x hx
        have hxl : x.1 < ops.size := hlt x (by simp [hx])
        simp only [pairOK, Bool.or_eq_true, Bool.and_eq_true] at hpx
        rcases hpx with hbit | ⟨hf, hap⟩
        · exfalso
          have hb := (okB_spec hB i' oi (toOps hoi)).1
          rw [Nat.zero_add] at hb
          rw [hb] at hbit
          have hxlist : listed.getD x.1 false = true := by
            rcases foldl_testBit _ _ hbit with h | ⟨ed, hed, hbd, h⟩
            · simp at h
            · have hl1 := hall ed (by simpa using hed) hbd
              rcases h with h | h
              · exact h ▸ hl1
              · have : ed.on < ops.size := by
                  have := (okB_spec hB i' oi (toOps hoi)).2 ed (by simpa using hed) hbd
                  omega
                exact hcl ed.on this hl1 _ h
          have := (hlist x.1 hxl).2 (by simp; exact .inl ⟨x.2, hx⟩)
          rw [← hsz] at hxl
          simp [hxl] at this hxlist
          rw [this] at hxlist; cases hxlist
        · rw [hoi] at hap
          have : ops[x.1]? = some ops[x.1] := by simp [hxl]
          rw [this] at hap
          exact ⟨hf, _, this, hap⟩
      obtain ⟨hR, hrun', hfe, hfh⟩ := pull hl hoi M₁ e g hpairs hrun
      refine hs i' e g ε a w _ hR hS fun a' w' hS' => ?_
      have hnd : ∀ x ∈ M₁ ++ M₂, x.1 ≠ i' := by
        intro x hx hxi
        have hs2 : (M₁.map (·.1) ++ i' :: M₂.map (·.1)).Pairwise (· < ·) := by simpa using hsort
        rw [List.pairwise_append] at hs2
        rcases List.mem_append.1 hx with h | h
        · have := hs2.2.2 x.1 (List.mem_map.2 ⟨x, h, rfl⟩) i' List.mem_cons_self
          omega
        · have := (List.pairwise_cons.1 hs2.2.1).1 x.1 (List.mem_map.2 ⟨x, h, rfl⟩)
          omega
      refine ih (M₁ ++ M₂) (listed.setIfInBounds i' true) _ _ a' w' (by simp at hn ⊢; omega) ?_ (by simpa using hsz) ?_ (fun x hx => hlt x (by
        rcases List.mem_append.1 hx with h | h <;> simp [h])) ?_ ?_ hrun' hS' (fun a2 w2 h2 => hQ a2 w2 (by rw [hfe, hfh]; exact h2))
      · have hs2 : (M₁.map (·.1) ++ i' :: M₂.map (·.1)).Pairwise (· < ·) := by simpa using hsort
        rw [List.map_append]
        exact hs2.sublist (List.Sublist.append (List.Sublist.refl _) (List.sublist_cons_self _ _))
      · intro j hj
        by_cases hji : i' = j
        · subst hji
          have : i' < listed.size := by omega
          simp only [Array.getD_eq_getD_getElem?, Array.getElem?_setIfInBounds_self_of_lt this]
          constructor
          · intro h; cases h
          · intro h
            obtain ⟨x, hx, hxi⟩ := List.mem_map.1 h
            exact absurd hxi (hnd x hx)
        · rw [getD_set_ne true hji, hlist j hj]
          simp only [List.map_append, List.map_cons, List.mem_append, List.mem_cons]
          constructor
          · rintro (h | rfl | h)
            · exact .inl h
            · exact absurd rfl hji
            · exact .inr h
          · rintro (h | h)
            · exact .inl h
            · exact .inr (.inr h)
      · intro j hj hlj k hk
        by_cases hji : i' = j
        · subst hji
          apply getD_set_true
          have hb := (okB_spec hB i' oi (toOps hoi)).1
          rw [Nat.zero_add] at hb
          rw [hb] at hk
          rcases foldl_testBit _ _ hk with h | ⟨ed, hed, hbd, h⟩
          · simp at h
          · have hl1 := hall ed (by simpa using hed) hbd
            rcases h with rfl | h
            · exact hl1
            · have : ed.on < ops.size := by
                have := (okB_spec hB i' oi (toOps hoi)).2 ed (by simpa using hed) hbd
                omega
              exact hcl ed.on this hl1 _ h
        · rw [getD_set_ne false hji] at hlj
          exact getD_set_true (hcl j hj hlj k hk)
      · exact pairs_drop M₁ hp
end
end Go.Proofs.YtecnmodeggnjoaaGreat.Ac
