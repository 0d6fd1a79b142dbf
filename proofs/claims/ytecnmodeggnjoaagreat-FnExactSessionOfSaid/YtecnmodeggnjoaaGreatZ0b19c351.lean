/- Several of our texts, one behind the other, without what this claim does not need: AcB, AcC. -/
import Derived.Test.YtecnmodeggnjoaaGreatZed10fd20
set_option linter.unusedVariables false
set_option linter.unusedSimpArgs false
namespace Go.Proofs.YtecnmodeggnjoaaGreat.Ac
open Go.RowKit
structure Eff where
  val : T
  rdn : List Nat
  upd : List (Nat × Option Ob)
def memN (n : Nat) : List Nat → Bool
  | [] => false
  | m :: l => cond (Nat.beq n m) true (memN n l)
def names (ε : Eff) : List Nat := ε.rdn ++ ε.upd.map (·.1)
def putE (d : Option Tmp) (v : T) (e : Env) : Env := fun t => match d with
  | some d => cond (Nat.beq d t) (some v) (e t)
  | none => e t
def putH (u : List (Nat × Option Ob)) (g : Hp) : Hp := fun n => match get u n with
  | some x => some x
  | none => g n
def frees (κ ε : Eff) : Bool := κ.upd.all (fun u => !memN u.1 (names ε)) && ε.upd.all (fun u => !memN u.1 (names κ))
theorem beq_false {m n : Nat} (h : m ≠ n) : Nat.beq m n = false := by
  cases hb : Nat.beq m n
  · rfl
  · exact absurd (Nat.eq_of_beq_eq_true hb) h
theorem memN_iff {n : Nat} {l : List Nat} : memN n l = true ↔ n ∈ l := by
  induction l with
  | nil => simp [memN]
  | cons m l ih =>
    simp only [memN, List.mem_cons]
    cases hb : Nat.beq n m
    · have : n ≠ m := fun h => by subst h; simp at hb
      simp [ih, this]
    · simp [Nat.eq_of_beq_eq_true hb]
theorem get_none {α : Type} {n : Nat} {l : List (Nat × α)} (h : n ∉ l.map (·.1)) : get l n = none := by
  induction l with
  | nil => rfl
  | cons x l ih =>
    obtain ⟨m, o⟩ := x
    simp only [List.map_cons, List.mem_cons, not_or] at h
    rw [get_cons_ne o l (Ne.symm h.1)]
    exact ih h.2
theorem putE_ne {d : Option Tmp} {v : T} {e : Env} {t : Nat} (h : d ≠ some t) : putE d v e t = e t := by
  cases d with
  | none => rfl
  | some d => simp only [putE]; rw [beq_false (fun hd => h (by rw [hd]))]; rfl
theorem putE_comm {c d : Option Tmp} {u v : T} {e : Env} (h : ∀ t, c = some t → d ≠ some t) : putE c u (putE d v e) = putE d v (putE c u e) := by
  funext t
  by_cases hc : c = some t
  · rw [putE_ne (h t hc)]
    subst hc
    simp [putE]
  · rw [putE_ne hc]
    by_cases hd : d = some t
    · subst hd; simp [putE]
    · rw [putE_ne hd, putE_ne hd, putE_ne hc]
theorem putH_ne {u : List (Nat × Option Ob)} {g : Hp} {n : Nat} (h : n ∉ u.map (·.1)) : putH u g n = g n := by
  simp [putH, get_none h]
theorem putH_comm {u v : List (Nat × Option Ob)} {g : Hp} (h : ∀ n, n ∈ u.map (·.1) → n ∉ v.map (·.1)) : putH u (putH v g) = putH v (putH u g) := by
  funext n
  by_cases hu : n ∈ u.map (·.1)
  · rw [putH_ne (h n hu)]
    simp only [putH, get_none (h n hu)]
  · rw [putH_ne hu]
    simp only [putH, get_none hu]
theorem frees_spec {κ ε : Eff} (h : frees κ ε = true) : (∀ n, n ∈ κ.upd.map (·.1) → n ∉ names ε) ∧ (∀ n, n ∈ ε.upd.map (·.1) → n ∉ names κ) := by
  simp only [frees, Bool.and_eq_true, List.all_eq_true, Bool.not_eq_true'] at h
  constructor
  · intro n hn
    obtain ⟨u, hu, rfl⟩ := List.mem_map.1 hn
    intro hc
    have := h.1 u hu
    rw [memN_iff.2 hc] at this
    cases this
  · intro n hn
    obtain ⟨u, hu, rfl⟩ := List.mem_map.1 hn
    intro hc
    have := h.2 u hu
    rw [memN_iff.2 hc] at this
    cases this
section
variable (ops : Array Oper) (R : Nat → Env → Hp → Eff → Prop)
def dsts (i : Nat) : Option Tmp := (ops[i]?).bind (·.dst)
def Run : List (Nat × Eff) → Env → Hp → Prop
  | [], _, _ => True
  | (i, ε) :: M, e, g => R i e g ε ∧ Run M (putE (dsts ops i) ε.val e) (putH ε.upd g)
def finE : List (Nat × Eff) → Env → Env
  | [], e => e
  | (i, ε) :: M, e => finE M (putE (dsts ops i) ε.val e)
def finH : List (Nat × Eff) → Hp → Hp
  | [], g => g
  | (_, ε) :: M, g => finH M (putH ε.upd g)
def Local : Prop := ∀ i o e g ε e' g', ops[i]? = some o → R i e g ε → (∀ t ∈ o.looksAt ops, e' t = e t) → (∀ n ∈ names ε, g' n = g n) → R i e' g' ε
variable {ops R}
theorem pull (hl : Local ops R) {i : Nat} {oi : Oper} {ε : Eff} (hi : ops[i]? = some oi) {M₂ : List (Nat × Eff)} : ∀ (M₁ : List (Nat × Eff)) (e : Env) (g : Hp),
    (∀ x ∈ M₁, frees x.2 ε = true ∧ ∃ ok, ops[x.1]? = some ok ∧ ok.apart ops oi = true) → Run ops R (M₁ ++ (i, ε) :: M₂) e g →
    R i e g ε ∧ Run ops R (M₁ ++ M₂) (putE (dsts ops i) ε.val e) (putH ε.upd g) ∧
      finE ops (M₁ ++ (i, ε) :: M₂) e = finE ops (M₁ ++ M₂) (putE (dsts ops i) ε.val e) ∧ finH (M₁ ++ (i, ε) :: M₂) g = finH (M₁ ++ M₂) (putH ε.upd g)
  | [], e, g, _, h => ⟨h.1, h.2, rfl, rfl⟩
  | (k, κ) :: M₁, e, g, hx, h => by
    obtain ⟨hk, hr⟩ := h
    obtain ⟨h1, h2, h3, h4⟩ := pull hl hi M₁ _ _ (fun x hx' => hx x (List.mem_cons_of_mem _ hx')) hr
    obtain ⟨hf, ok, hok, hap⟩ := hx (k, κ) List.mem_cons_self
    obtain ⟨f1, f2⟩ := frees_spec hf
    obtain ⟨a1, a2, a3⟩ := Oper.apart_spec hap
    have dk : dsts ops k = ok.dst := by simp [dsts, hok]
    have di : dsts ops i = oi.dst := by simp [dsts, hi]
    have ce : ∀ u v, putE (dsts ops i) u (putE (dsts ops k) v e) = putE (dsts ops k) v (putE (dsts ops i) u e) := fun u v => (putE_comm (fun t ht => by rw [di]; exact a2 t (dk ▸ ht))).symm
    have ch : putH ε.upd (putH κ.upd g) = putH κ.upd (putH ε.upd g) := putH_comm fun n hn hc => f2 n hn (List.mem_append_right _ hc)
    refine ⟨hl i oi _ _ ε e g hi h1 (fun t ht => (putE_ne fun hd => a1 t (dk ▸ hd) ht).symm) (fun n hn => (putH_ne fun hc => f1 n hc hn).symm), ⟨?_, ?_⟩, ?_, ?_⟩
    · exact hl k ok _ _ κ _ _ hok hk (fun t ht => putE_ne fun hd => a3 t (di ▸ hd) ht) (fun n hn => putH_ne fun hc => f2 n hc hn)
    · rw [ce, ch] at h2; exact h2
    · simp only [List.cons_append, finE]; rw [h3, ce]
    · simp only [List.cons_append, finH]; rw [h4, ch]
def aheads (o : Oper) (B : Array Nat) : Nat := o.after.toList.foldl (fun s e => cond (Region.binds .any e) (s ||| 2 ^ e.on ||| B.getD e.on 0) s) 0
def okB (B : Array Nat) : Nat → List Oper → Bool
  | _, [] => true
  | i, o :: os => Nat.beq (B.getD i 0) (aheads o B) && o.after.toList.all (fun e => !Region.binds .any e || Nat.blt e.on i) && okB B (i + 1) os
variable (ops) in
def pairOK (B : Array Nat) (x y : Nat × Eff) : Bool := Nat.testBit (B.getD y.1 0) x.1 || frees x.2 y.2 && match ops[x.1]?, ops[y.1]? with
  | some a, some b => a.apart ops b
  | _, _ => false
variable (ops) in
def pairsOK (B : Array Nat) : List (Nat × Eff) → Bool
  | [] => true
  | x :: M => M.all (pairOK ops B x) && pairsOK B M
theorem okB_spec {B : Array Nat} : ∀ {os : List Oper} {i : Nat}, okB B i os = true → ∀ j o, os[j]? = some o → B.getD (i + j) 0 = aheads o B ∧ ∀ e ∈ o.after, Region.binds .any e = true → e.on < i + j
  | [], _, _, j, o, ho => by cases ho
  | o :: os, i, h, j, o', ho => by
    simp only [okB, Bool.and_eq_true] at h
    cases j with
    | zero =>
      cases ho
      refine ⟨Nat.eq_of_beq_eq_true h.1.1, fun e he hb => ?_⟩
      have := List.all_eq_true.1 h.1.2 e (by simpa using he)
      rw [hb] at this
      simp [Nat.blt] at this
      omega
    | succ j =>
      have := okB_spec h.2 j o' ho
      rw [show i + (j + 1) = i + 1 + j by omega]
      exact this
theorem foldl_testBit {B : Array Nat} {k : Nat} : ∀ (l : List Edge) (s : Nat), (l.foldl (fun s e => cond (Region.binds .any e) (s ||| 2 ^ e.on ||| B.getD e.on 0) s) s).testBit k = true →
    s.testBit k = true ∨ ∃ e ∈ l, Region.binds .any e = true ∧ (e.on = k ∨ (B.getD e.on 0).testBit k = true)
  | [], s, h => .inl h
  | e :: l, s, h => by
    rcases foldl_testBit l _ h with h | ⟨e', he', h⟩
    · dsimp only at h
      cases hb : Region.binds .any e
      · rw [hb] at h; exact .inl h
      · rw [hb] at h
        simp only [cond_true, Nat.testBit_or, Bool.or_eq_true, Nat.testBit_two_pow, decide_eq_true_eq] at h
        rcases h with (h | h) | h
        · exact .inl h
        · exact .inr ⟨e, List.mem_cons_self, hb, .inl h⟩
        · exact .inr ⟨e, List.mem_cons_self, hb, .inr h⟩
    · exact .inr ⟨e', List.mem_cons_of_mem _ he', h⟩
end
section
variable {P : Program} {ops : Array Oper} {Q : Exit → Act → World → Prop} {R : Nat → Env → Hp → Eff → Prop} {S : Env → Hp → Act → World → Prop} {B : Array Nat}
def Sound (P : Program) (ops : Array Oper) (Q : Exit → Act → World → Prop) (R : Nat → Env → Hp → Eff → Prop) (S : Env → Hp → Act → World → Prop) : Prop :=
  ∀ i e g ε a w (K : Act → World → Prop), R i e g ε → S e g a w → (∀ a' w', S (putE (dsts ops i) ε.val e) (putH ε.upd g) a' w' → K a' w') → wpOp P ops Q i K a w
theorem pairs_at {y : Nat × Eff} {M₂ : List (Nat × Eff)} : ∀ (M₁ : List (Nat × Eff)), pairsOK ops B (M₁ ++ y :: M₂) = true → ∀ x ∈ M₁, pairOK ops B x y = true
  | [], _, x, hx => by cases hx
  | z :: M₁, hp, x, hx => by
    simp only [List.cons_append, pairsOK, Bool.and_eq_true] at hp
    rcases List.mem_cons.1 hx with rfl | hx
    · exact List.all_eq_true.1 hp.1 _ (by simp)
    · exact pairs_at M₁ hp.2 x hx
theorem pairs_drop {y : Nat × Eff} {M₂ : List (Nat × Eff)} : ∀ (M₁ : List (Nat × Eff)), pairsOK ops B (M₁ ++ y :: M₂) = true → pairsOK ops B (M₁ ++ M₂) = true
  | [], hp => by
    simp only [List.nil_append, pairsOK, Bool.and_eq_true] at hp
    exact hp.2
  | z :: M₁, hp => by
    simp only [List.cons_append, pairsOK, Bool.and_eq_true] at hp ⊢
    refine ⟨List.all_eq_true.2 fun x hx => List.all_eq_true.1 hp.1 x ?_, pairs_drop M₁ hp.2⟩
    rcases List.mem_append.1 hx with h | h <;> simp [h]
theorem split_mem {α : Type} {x : α} {l : List α} (h : x ∈ l) : ∃ a b, l = a ++ x :: b := List.append_of_mem h
theorem any_of_run (hl : Local ops R) (hs : Sound P ops Q R S) (hB : okB B 0 ops.toList = true) : ∀ (n : Nat) (M : List (Nat × Eff)) (listed : Array Bool) (e : Env) (g : Hp) (a : Act) (w : World),
    M.length = n → (M.map (·.1)).Pairwise (· < ·) → listed.size = ops.size → (∀ j, j < ops.size → (listed.getD j true = false ↔ j ∈ M.map (·.1))) → (∀ x ∈ M, x.1 < ops.size) →
    (∀ j, j < ops.size → listed.getD j false = true → ∀ k, (B.getD j 0).testBit k = true → listed.getD k false = true) → pairsOK ops B M = true →
    Run ops R M e g → S e g a w → (∀ a' w', S (finE ops M e) (finH M g) a' w' → Q .normal a' w') → wpAny P .any ops Q n listed a w := by
  intro n
  induction n with
  | zero =>
    intro M listed e g a w hn hsort hsz hlist hlt hcl hp hrun hS hQ
    have hM : M = [] := List.length_eq_zero_iff.1 hn
    subst hM
    refine ⟨?_, hQ a w hS⟩
    cases hr : Region.ready .any ops listed with
    | nil => rfl
    | cons j l =>
      have hj : j ∈ Region.ready .any ops listed := by rw [hr]; exact List.mem_cons_self
      obtain ⟨h0, o, ho, _⟩ := mem_ready.1 hj
      have := (hlist j (Array.getElem?_eq_some_iff.1 ho).1).1 h0
      cases this
  | succ n ih =>
    intro M listed e g a w hn hsort hsz hlist hlt hcl hp hrun hS hQ
    have toOps : ∀ {j : Nat} {o : Oper}, ops[j]? = some o → ops.toList[j]? = some o := fun h => by simpa using h
    constructor
    · intro hr
      exfalso
      cases M with
      | nil => simp at hn
      | cons x M =>
        have hx := hlt x List.mem_cons_self
        have hox : ops[x.1]? = some ops[x.1] := by simp [hx]
        have hxm : x.1 ∈ Region.ready .any ops listed := by
          refine mem_ready.2 ⟨(hlist x.1 hx).2 (by simp), ops[x.1], hox, fun ed he hb => ?_⟩
          have hlt' := (okB_spec hB x.1 _ (toOps hox)).2 ed he hb
          have hlt2 : ed.on < x.1 := by omega
          have hns : ed.on < listed.size := by omega
          have : ¬ (listed.getD ed.on true = false) := fun hf => by
            have := (hlist ed.on (by omega)).1 hf
            simp only [List.map_cons, List.mem_cons] at this
            rcases this with h | h
            · omega
            · have := (List.pairwise_cons.1 (by simpa using hsort)).1 ed.on h
              omega
          simp [hns] at this ⊢
          exact this
        rw [hr] at hxm
        cases hxm
    · intro i hi
      obtain ⟨h0, oi, hoi, hall⟩ := mem_ready.1 hi
      have hilt := (Array.getElem?_eq_some_iff.1 hoi).1
      have him := (hlist i hilt).1 h0
      obtain ⟨⟨i', ε⟩, hxM, rfl⟩ := List.mem_map.1 him
      obtain ⟨M₁, M₂, rfl⟩ := split_mem hxM
      dsimp only at *
      have hpairs : ∀ x ∈ M₁, frees x.2 ε = true ∧ ∃ ok, ops[x.1]? = some ok ∧ ok.apart ops oi = true := by
        intro x hx
        have hpx : pairOK ops B x (i', ε) = true := pairs_at M₁ hp x hx
        have hxl : x.1 < ops.size := hlt x (by simp [hx])
        simp only [pairOK, Bool.or_eq_true, Bool.and_eq_true] at hpx
        rcases hpx with hbit | ⟨hf, hap⟩
        · exfalso
          have hb := (okB_spec hB i' oi (toOps hoi)).1
          rw [Nat.zero_add] at hb
          rw [hb] at hbit
          have hxlist : listed.getD x.1 false = true := by
            rcases foldl_testBit _ _ hbit with h | ⟨ed, hed, hbd, h⟩
            · simp at h
            · have hl1 := hall ed (by simpa using hed) hbd
              rcases h with h | h
              · exact h ▸ hl1
              · have : ed.on < ops.size := by
                  have := (okB_spec hB i' oi (toOps hoi)).2 ed (by simpa using hed) hbd
                  omega
                exact hcl ed.on this hl1 _ h
          have := (hlist x.1 hxl).2 (by simp; exact .inl ⟨x.2, hx⟩)
          rw [← hsz] at hxl
          simp [hxl] at this hxlist
          rw [this] at hxlist; cases hxlist
        · rw [hoi] at hap
          have : ops[x.1]? = some ops[x.1] := by simp [hxl]
          rw [this] at hap
          exact ⟨hf, _, this, hap⟩
      obtain ⟨hR, hrun', hfe, hfh⟩ := pull hl hoi M₁ e g hpairs hrun
      refine hs i' e g ε a w _ hR hS fun a' w' hS' => ?_
      have hnd : ∀ x ∈ M₁ ++ M₂, x.1 ≠ i' := by
        intro x hx hxi
        have hs2 : (M₁.map (·.1) ++ i' :: M₂.map (·.1)).Pairwise (· < ·) := by simpa using hsort
        rw [List.pairwise_append] at hs2
        rcases List.mem_append.1 hx with h | h
        · have := hs2.2.2 x.1 (List.mem_map.2 ⟨x, h, rfl⟩) i' List.mem_cons_self
          omega
        · have := (List.pairwise_cons.1 hs2.2.1).1 x.1 (List.mem_map.2 ⟨x, h, rfl⟩)
          omega
      refine ih (M₁ ++ M₂) (listed.setIfInBounds i' true) _ _ a' w' (by simp at hn ⊢; omega) ?_ (by simpa using hsz) ?_ (fun x hx => hlt x (by
        rcases List.mem_append.1 hx with h | h <;> simp [h])) ?_ ?_ hrun' hS' (fun a2 w2 h2 => hQ a2 w2 (by rw [hfe, hfh]; exact h2))
      · have hs2 : (M₁.map (·.1) ++ i' :: M₂.map (·.1)).Pairwise (· < ·) := by simpa using hsort
        rw [List.map_append]
        exact hs2.sublist (List.Sublist.append (List.Sublist.refl _) (List.sublist_cons_self _ _))
      · intro j hj
        by_cases hji : i' = j
        · subst hji
          have : i' < listed.size := by omega
          simp only [Array.getD_eq_getD_getElem?, Array.getElem?_setIfInBounds_self_of_lt this]
          constructor
          · intro h; cases h
          · intro h
            obtain ⟨x, hx, hxi⟩ := List.mem_map.1 h
            exact absurd hxi (hnd x hx)
        · rw [getD_set_ne true hji, hlist j hj]
          simp only [List.map_append, List.map_cons, List.mem_append, List.mem_cons]
          constructor
          · rintro (h | rfl | h)
            · exact .inl h
            · exact absurd rfl hji
            · exact .inr h
          · rintro (h | h)
            · exact .inl h
            · exact .inr (.inr h)
      · intro j hj hlj k hk
        by_cases hji : i' = j
        · subst hji
          apply getD_set_true
          have hb := (okB_spec hB i' oi (toOps hoi)).1
          rw [Nat.zero_add] at hb
          rw [hb] at hk
          rcases foldl_testBit _ _ hk with h | ⟨ed, hed, hbd, h⟩
          · simp at h
          · have hl1 := hall ed (by simpa using hed) hbd
            rcases h with rfl | h
            · exact hl1
            · have : ed.on < ops.size := by
                have := (okB_spec hB i' oi (toOps hoi)).2 ed (by simpa using hed) hbd
                omega
              exact hcl ed.on this hl1 _ h
        · rw [getD_set_ne false hji] at hlj
          exact getD_set_true (hcl j hj hlj k hk)
      · exact pairs_drop M₁ hp
end
end Go.Proofs.YtecnmodeggnjoaaGreat.Ac
set_option linter.unusedVariables false
set_option linter.unusedSimpArgs false
namespace Go.Proofs.YtecnmodeggnjoaaGreat.Ac
open Go.RowKit
def put1 (H : Hp) (n : Nat) (o : Option Ob) : Hp := fun m => if m = n then some o else H m
def Phi.set (φ : Phi) (n : Nat) (f : List (Nat × Nat) → Option Hd) : Phi := ⟨fun X => if X.1 = n then f X.2 else φ X, φ.out⟩
section
variable {h h' : Array Obj} {H H' : Hp} {φ φ' : Phi}
theorem put1_self (n : Nat) (o : Option Ob) : put1 H n o n = some o := by simp [put1]
theorem put1_ne {n m : Nat} (o : Option Ob) (hne : m ≠ n) : put1 H n o m = H m := by simp [put1, hne]
theorem set_self (n : Nat) (f : List (Nat × Nat) → Option Hd) (q : List (Nat × Nat)) : (φ.set n f) (n, q) = f q := by simp [Phi.set]
theorem set_ne {n : Nat} (f : List (Nat × Nat) → Option Hd) {X : Place} (hne : X.1 ≠ n) : (φ.set n f) X = φ X := by simp [Phi.set, hne]
theorem all_ob (hob : ∀ n ob, H' n = some (some ob) → ObOK h' H' φ' n ob) (hlt : ∀ X hd, φ' X = some hd → hd.b < h'.size) (hap : ∀ X hd, φ' X = some hd → ¬ φ'.out hd.b) (ho : ∀ b, φ'.out b → b < h'.size)
    (hi : ∀ X Y hd hd', φ' X = some hd → φ' Y = some hd' → hd.b = hd'.b → X = Y) : HeapOK h' H' φ' := ⟨hob, hlt, hap, ho, hi⟩
theorem newG_ok (k : HeapOK h H φ) {n : Nat} (hn : H n = none) {ob : Ob} {o : Obj} {cap : Nat}
    (hob : Turn h H φ (h.push o) (put1 H n (some ob)) (φ.set n fun q => if q = [] then some ⟨h.size, 0, cap⟩ else none) → ObOK (h.push o) (put1 H n (some ob)) (φ.set n fun q => if q = [] then some ⟨h.size, 0, cap⟩ else none) n ob) :
    HeapOK (h.push o) (put1 H n (some ob)) (φ.set n fun q => if q = [] then some ⟨h.size, 0, cap⟩ else none) ∧
    Turn h H φ (h.push o) (put1 H n (some ob)) (φ.set n fun q => if q = [] then some ⟨h.size, 0, cap⟩ else none) := by
  have hne : ∀ m x, H m = some x → m ≠ n := fun m x hm e => by rw [e, hn] at hm; cases hm
  have own : ∀ X hd, (φ.set n fun q => if q = [] then some ⟨h.size, 0, cap⟩ else none) X = some hd → (X = (n, []) ∧ hd = ⟨h.size, 0, cap⟩) ∨ φ X = some hd := by
    rintro ⟨m, q⟩ hd hX
    by_cases e : m = n
    · subst e
      rw [set_self] at hX
      by_cases e2 : q = []
      · subst e2; cases hX; exact .inl ⟨rfl, rfl⟩
      · rw [if_neg e2] at hX; cases hX
    · rw [set_ne _ e] at hX; exact .inr hX
  have t : Turn h H φ (h.push o) (put1 H n (some ob)) (φ.set n fun q => if q = [] then some ⟨h.size, 0, cap⟩ else none) := by
    refine ⟨rfl, fun b hb hO => ⟨?_, ?_⟩, fun m hm => ?_, fun m x hm => .inr ⟨x, ?_, ?_, rfl, Nat.le_refl _⟩⟩
    · rintro ⟨X, hd, hX, rfl⟩
      rcases own X hd hX with ⟨_, rfl⟩ | hX
      · exact Nat.lt_irrefl _ hb
      · exact hO ⟨X, hd, hX, rfl⟩
    · rw [Array.getElem?_push_lt hb, Array.getElem?_eq_getElem hb]
    · rw [put1_ne _ (hne m _ hm)]; exact hm
    · rw [put1_ne _ (hne m _ hm)]; exact hm
    · exact set_ne _ (hne m _ hm)
  refine ⟨all_ob (fun m x hm => ?_) (fun X hd hX => ?_) (fun X hd hX ho => ?_) (fun b hb => ?_) (fun X Y hd hd' hX hY hb => ?_), t⟩
  · by_cases e : m = n
    · subst e
      rw [put1_self] at hm
      cases hm
      exact hob t
    · rw [put1_ne _ e] at hm
      refine (k.ob m x hm).keep (fun _ _ r => r.turn t) (fun q => set_ne _ e) fun q hd hq => ?_
      have := k.lt _ hd hq
      rw [Array.getElem?_push_lt this, Array.getElem?_eq_getElem this]
  · rcases own X hd hX with ⟨_, rfl⟩ | hX
    · simp
    · have := k.lt _ hd hX; simp; omega
  · rcases own X hd hX with ⟨_, rfl⟩ | hX
    · exact Nat.lt_irrefl _ (k.old _ ho)
    · exact k.apart X hd hX ho
  · have := k.old b hb; simp; omega
  · rcases own X hd hX with ⟨rfl, rfl⟩ | hX <;> rcases own Y hd' hY with ⟨rfl, rfl⟩ | hY
    · rfl
    · have := k.lt _ _ hY; simp at hb; omega
    · have := k.lt _ _ hX; simp at hb; omega
    · exact k.inj X Y hd hd' hX hY hb
theorem new_ok (k : HeapOK h H φ) {n : Nat} (hn : H n = none) {ob : Ob} (h4 : ob.fl ≠ 4) {c : Array Value} {ty : TypeId} {cap : Nat} (ok : RowOK ob.wd ob.es ⟨h.size, 0, cap⟩ c) (hfl : ob.fl ≠ 0 → ob.es.length = cap)
    (hc : ∀ i e j x, ob.es[i]? = some e → e[j]? = some x → RepE h H φ x (c.getD (i * ob.wd + j) undef)) :
    HeapOK (h.push (.cells c ty (0, 0))) (put1 H n (some ob)) (φ.set n fun q => if q = [] then some ⟨h.size, 0, cap⟩ else none) ∧
    Turn h H φ (h.push (.cells c ty (0, 0))) (put1 H n (some ob)) (φ.set n fun q => if q = [] then some ⟨h.size, 0, cap⟩ else none) := by
  refine newG_ok k hn fun t => obRow ok.wd0 h4 (.inr ⟨_, c, ty, by rw [set_self]; rfl, by simp, ok, hfl, fun i e j x hi hj => .e _ x _ ?_⟩)
  rw [Nat.zero_add]
  exact (hc i e j x hi hj).turn t
theorem updG_ok (k : HeapOK h H φ) {n : Nat} {ob ob' : Ob} {hd : Hd} {o : Obj} (hn : H n = some (some ob)) (hp : φ (n, []) = some hd) (hsame : ∀ m, m ≠ hd.b → h'[m]? = h[m]?) (hb' : h'[hd.b]? = some o)
    (hwd : ob'.wd = ob.wd) (hle : ob.es.length ≤ ob'.es.length) (hob : Turn h H φ h' (put1 H n (some ob')) φ → (∀ (X : Place) hd2, φ X = some hd2 → X ≠ (n, []) → h'[hd2.b]? = h[hd2.b]?) → ObOK h' (put1 H n (some ob')) φ n ob') : HeapOK h' (put1 H n (some ob')) φ ∧ Turn h H φ h' (put1 H n (some ob')) φ := by
  have hsz : h.size ≤ h'.size := by
    rcases Nat.lt_or_ge h'.size h.size with hlt | hge
    · exfalso
      by_cases e : h'.size = hd.b
      · have := lt_of_get hb'; omega
      · have := hsame _ e
        rw [Array.getElem?_eq_none (Nat.le_refl _), Array.getElem?_eq_getElem hlt] at this
        cases this
    · exact hge
  have t : Turn h H φ h' (put1 H n (some ob')) φ := by
    refine ⟨rfl, fun b hb hO => ⟨hO, hsame b fun e => hO ⟨_, hd, hp, e.symm⟩⟩, fun m hm => ?_, fun m x hm => .inr ?_⟩
    · have e : m ≠ n := fun e => by rw [e, hn] at hm; cases hm
      rw [put1_ne _ e]; exact hm
    · by_cases e : m = n
      · subst e
        rw [hn] at hm
        cases hm
        exact ⟨ob', put1_self _ _, rfl, hwd, hle⟩
      · exact ⟨x, (put1_ne _ e).trans hm, rfl, rfl, Nat.le_refl _⟩
  refine ⟨all_ob (fun m x hm => ?_) (fun X hd2 hX => Nat.lt_of_lt_of_le (k.lt X hd2 hX) hsz) k.apart (fun b hb => Nat.lt_of_lt_of_le (k.old b hb) hsz) k.inj, t⟩
  have other : ∀ (X : Place) hd2, φ X = some hd2 → X ≠ (n, []) → h'[hd2.b]? = h[hd2.b]? := fun X hd2 hX hne => hsame _ fun e => hne (k.inj X _ hd2 hd hX hp e)
  by_cases e : m = n
  · subst e
    rw [put1_self] at hm
    cases hm
    exact hob t other
  · rw [put1_ne _ e] at hm
    exact (k.ob m x hm).keep (fun _ _ r => r.turn t) (fun q => rfl) fun q hd2 hq => other _ hd2 hq fun e2 => e (congrArg Prod.fst e2)
theorem upd_ok (k : HeapOK h H φ) {n : Nat} {ob ob' : Ob} (h4 : ob'.fl ≠ 4) {hd : Hd} {c' : Array Value} {ty : TypeId} (hn : H n = some (some ob)) (hp : φ (n, []) = some hd) (hsame : ∀ m, m ≠ hd.b → h'[m]? = h[m]?) (hb' : h'[hd.b]? = some (.cells c' ty (0, 0)))
    (hwd : ob'.wd = ob.wd) (hle : ob.es.length ≤ ob'.es.length) (ok : RowOK ob'.wd ob'.es hd c') (hfl : ob'.fl ≠ 0 → ob'.es.length = hd.cap)
    (hc : ∀ i e j x, ob'.es[i]? = some e → e[j]? = some x → RepA h H φ (n, [(i, j)]) x (c'.getD (hd.off + i * ob'.wd + j) undef)) : HeapOK h' (put1 H n (some ob')) φ ∧ Turn h H φ h' (put1 H n (some ob')) φ :=
  updG_ok k hn hp hsame hb' hwd hle fun t other => obRow ok.wd0 h4 (.inr ⟨hd, c', ty, hp, hb', ok, hfl, fun i e j x hi hj => (hc i e j x hi hj).keep (fun _ _ r => r.turn t) _ (fun q => rfl) fun q hd2 hq => other _ hd2 hq (by simp)⟩)
theorem kill_ok (k : HeapOK h H φ) {n : Nat} {ob : Ob} (hn : H n = some (some ob)) : HeapOK h (put1 H n none) φ ∧ Turn h H φ h (put1 H n none) φ := by
  have t : Turn h H φ h (put1 H n none) φ := by
    refine ⟨rfl, fun b hb hO => ⟨hO, rfl⟩, fun m hm => ?_, fun m x hm => ?_⟩
    · have e : m ≠ n := fun e => by rw [e, hn] at hm; cases hm
      rw [put1_ne _ e]; exact hm
    · by_cases e : m = n
      · subst e; exact .inl (put1_self _ _)
      · exact .inr ⟨x, (put1_ne _ e).trans hm, rfl, rfl, Nat.le_refl _⟩
  refine ⟨all_ob (fun m x hm => ?_) k.lt k.apart k.old k.inj, t⟩
  have e : m ≠ n := fun e => by rw [e, put1_self] at hm; cases hm
  rw [put1_ne _ e] at hm
  exact (k.ob m x hm).keep (fun _ _ r => r.turn t) (fun q => rfl) fun _ _ _ => rfl
theorem shift_ok (k : HeapOK h H φ) {n m : Nat} {ob ob' : Ob} (h4 : ob'.fl ≠ 4) {hd : Hd} {c' : Array Value} {ty : TypeId} (hn : H n = some (some ob)) (hm : H m = none) (hsz : h.size ≤ h'.size)
    (hsame : ∀ b, b < h.size → (∀ hd, φ (n, []) = some hd → b ≠ hd.b) → h'[b]? = h[b]?) (hnew : h.size ≤ hd.b ∨ ∃ hd0, φ (n, []) = some hd0 ∧ hd0.b = hd.b) (hb' : h'[hd.b]? = some (.cells c' ty (0, 0)))
    (ok : RowOK ob'.wd ob'.es hd c') (hfl : ob'.fl ≠ 0 → ob'.es.length = hd.cap)
    (hc : ∀ i e j x, ob'.es[i]? = some e → e[j]? = some x → RepA h H φ (n, [(i, j)]) x (c'.getD (hd.off + i * ob'.wd + j) undef)) :
    ∃ φ', HeapOK h' (put1 (put1 H n none) m (some ob')) φ' ∧ Turn h H φ h' (put1 (put1 H n none) m (some ob')) φ' ∧ φ' (m, []) = some hd := by
  have hnm : n ≠ m := fun e => by rw [e, hm] at hn; cases hn
  let φ' : Phi := (φ.set n fun _ => none).set m fun q => if q = [] then some hd else φ (n, q)
  have pm : ∀ q, φ' (m, q) = if q = [] then some hd else φ (n, q) := fun q => set_self _ _ _
  have po : ∀ X : Place, X.1 ≠ m → X.1 ≠ n → φ' X = φ X := fun X h1 h2 => (set_ne _ h1).trans (set_ne _ h2)
  have own : ∀ X hd2, φ' X = some hd2 → (X = (m, []) ∧ hd2 = hd) ∨ (∃ q, q ≠ [] ∧ X = (m, q) ∧ φ (n, q) = some hd2) ∨ (X.1 ≠ n ∧ X.1 ≠ m ∧ φ X = some hd2) := by
    rintro ⟨l, q⟩ hd2 hX
    by_cases e : l = m
    · subst e
      rw [pm] at hX
      by_cases e2 : q = []
      · subst e2; cases hX; exact .inl ⟨rfl, rfl⟩
      · rw [if_neg e2] at hX; exact .inr (.inl ⟨q, e2, rfl, hX⟩)
    · by_cases e2 : l = n
      · subst e2
        have : φ' (l, q) = none := (set_ne _ e).trans (set_self _ _ _)
        rw [this] at hX; cases hX
      · rw [po _ e e2] at hX; exact .inr (.inr ⟨e2, e, hX⟩)
  have t : Turn h H φ h' (put1 (put1 H n none) m (some ob')) φ' := by
    refine ⟨rfl, fun b hb hO => ⟨?_, hsame b hb fun hd0 h0 e => hO ⟨_, hd0, h0, e.symm⟩⟩, fun l hl => ?_, fun l x hl => ?_⟩
    · rintro ⟨X, hd2, hX, rfl⟩
      rcases own X hd2 hX with ⟨_, rfl⟩ | ⟨q, _, _, hq⟩ | ⟨_, _, hq⟩
      · rcases hnew with h1 | ⟨hd0, h1, h2⟩
        · omega
        · exact hO ⟨_, hd0, h1, h2⟩
      · exact hO ⟨_, hd2, hq, rfl⟩
      · exact hO ⟨_, hd2, hq, rfl⟩
    · have e1 : l ≠ m := fun e => by rw [e, hm] at hl; cases hl
      have e2 : l ≠ n := fun e => by rw [e, hn] at hl; cases hl
      rw [put1_ne _ e1, put1_ne _ e2]; exact hl
    · have e1 : l ≠ m := fun e => by rw [e, hm] at hl; cases hl
      rw [put1_ne _ e1]
      by_cases e2 : l = n
      · subst e2; exact .inl (put1_self _ _)
      · exact .inr ⟨x, (put1_ne _ e2).trans hl, po _ e1 e2, rfl, Nat.le_refl _⟩
  have other : ∀ (X : Place) hd2, φ X = some hd2 → X ≠ (n, []) → h'[hd2.b]? = h[hd2.b]? := fun X hd2 hX hne => hsame _ (k.lt X hd2 hX) fun hd0 h0 e => hne (k.inj X _ hd2 hd0 hX h0 e)
  refine ⟨φ', all_ob (fun l x hl => ?_) (fun X hd2 hX => ?_) (fun X hd2 hX ho => ?_) (fun b hb => Nat.lt_of_lt_of_le (k.old b hb) hsz) (fun X Y hd1 hd2 hX hY hb => ?_), t, by rw [pm]; rfl⟩
  · by_cases e : l = m
    · subst e
      rw [put1_self] at hl
      cases hl
      refine obRow ok.wd0 h4 (.inr ⟨hd, c', ty, by rw [pm]; rfl, hb', ok, hfl, fun i e j x hi hj => (hc i e j x hi hj).keep (fun _ _ r => r.turn t) _ (fun q => ?_) fun q hd2 hq => other _ hd2 hq (by simp)⟩)
      rw [pm, if_neg (by simp)]
    · rw [put1_ne _ e] at hl
      have e2 : l ≠ n := fun e2 => by rw [e2, put1_self] at hl; cases hl
      rw [put1_ne _ e2] at hl
      exact (k.ob l x hl).keep (fun _ _ r => r.turn t) (fun q => po _ e e2) fun q hd2 hq => other _ hd2 hq fun e3 => e2 (congrArg Prod.fst e3)
  · rcases own X hd2 hX with ⟨_, rfl⟩ | ⟨q, _, _, hq⟩ | ⟨_, _, hq⟩
    · exact lt_of_get hb'
    · exact Nat.lt_of_lt_of_le (k.lt _ _ hq) hsz
    · exact Nat.lt_of_lt_of_le (k.lt _ _ hq) hsz
  · rcases own X hd2 hX with ⟨_, rfl⟩ | ⟨q, _, _, hq⟩ | ⟨_, _, hq⟩
    · rcases hnew with h1 | ⟨hd0, h1, h2⟩
      · have := k.old _ ho; omega
      · exact k.apart _ hd0 h1 (h2 ▸ ho)
    · exact k.apart _ _ hq ho
    · exact k.apart _ _ hq ho
  · have key : ∀ X hd2, (∃ q, q ≠ [] ∧ X = (m, q) ∧ φ (n, q) = some hd2) ∨ (X.1 ≠ n ∧ X.1 ≠ m ∧ φ X = some hd2) → hd.b ≠ hd2.b := by
      rintro X hd2 hX e
      rcases hnew with h1 | ⟨hd0, h1, h2⟩
      · rcases hX with ⟨q, _, _, hq⟩ | ⟨_, _, hq⟩ <;> have := k.lt _ _ hq <;> omega
      · rcases hX with ⟨q, hq0, _, hq⟩ | ⟨hq0, _, hq⟩
        · have := k.inj _ _ _ _ h1 hq (h2.trans e); simp only [Prod.mk.injEq, true_and] at this; exact hq0 this.symm
        · have := k.inj _ _ _ _ h1 hq (h2.trans e); exact hq0 (congrArg Prod.fst this).symm
    have hX2 := own X hd1 hX
    have hY2 := own Y hd2 hY
    clear hX hY
    rcases hX2 with ⟨rfl, rfl⟩ | hX <;> rcases hY2 with ⟨rfl, rfl⟩ | hY
    · rfl
    · exact absurd hb (key Y hd2 hY)
    · exact absurd hb.symm (key X hd1 hX)
    · rcases hX with ⟨q, hq0, rfl, hq⟩ | ⟨hq0, hq1, hq⟩ <;> rcases hY with ⟨q', hq0', rfl, hq'⟩ | ⟨hq0', hq1', hq'⟩
      · have := k.inj _ _ _ _ hq hq' hb
        simp only [Prod.mk.injEq, true_and] at this
        rw [this]
      · have := k.inj _ _ _ _ hq hq' hb
        exact absurd (congrArg Prod.fst this).symm hq0'
      · have := k.inj _ _ _ _ hq hq' hb
        exact absurd (congrArg Prod.fst this) hq0
      · exact k.inj _ _ _ _ hq hq' hb
end
end Go.Proofs.YtecnmodeggnjoaaGreat.Ac
