/- Chapter 2 in plain Lean: numbers, texts, sums and frames; what the program's and the reference's functions come to. -/
import Derived.Test.YtnppmhijoaeibaaPWirex
import Derived.Test.YtnppmhijoaeibaaAid
set_option linter.unusedVariables false
set_option linter.unusedSimpArgs false
namespace Go.Proofs.Ytnppmhijoaeibaa.H
open Go.RowKit Go.Proofs.YtnppmhijoaeibaaW.PrintWords Go.Proofs.Ytnppmhijoaeibaa.Q

theorem tmodE {a b : Int} (h : 0 ≤ a) : Int.tmod a b = a % b := Int.tmod_eq_emod_of_nonneg h
theorem tdivE {a b : Int} (h : 0 ≤ a) : Int.tdiv a b = a / b := Int.tdiv_eq_ediv_of_nonneg h
theorem Ev.val {α : Type} {g : Nat → Option α} {r : α} (K : Nat) (h : ∀ k, g (k + K) = some r) : Ev g r := ⟨K, fun k hk => by have := h (k - K); rwa [Nat.sub_add_cancel hk] at this⟩
theorem Ev.const {α : Type} {x : Option α} {r : α} (h : x = some r) : Ev (fun _ => x) r := ⟨0, fun _ _ => h⟩

/-- A number's bytes as a text. -/
def putS (n : Int) : ByteArray := strOfNums (putL n)
theorem strOfNums_size (xs : List Int) : (strOfNums xs).size = xs.length := by simp [strOfNums, ByteArray.size]
theorem putS_size (n : Int) : (putS n).size = (putL n).length := strOfNums_size _
theorem putS_len (n : Int) : (putS n).size ≤ 3 := by rw [putS_size]; exact putL_len n
theorem number_eq {n : Int} (h : n < 2097152) : impl_number.f n = some (putS n) := by unfold impl_number.f; rw [if_pos h]; rfl

theorem l01Put_eq {n : Int} (h0 : 0 ≤ n) (h : n < 2097152) : Ev (fun k => spec_l01Put.f k n) (putS n) := by
  refine Ev.val 4 fun k => ?_
  unfold spec_l01Put.f putS putL
  by_cases h3 : 16383 < n
  · simp (disch := omega) only [spec_l01Put.l0, if_pos, if_neg, wid, tmodE, tdivE, List.length_nil, List.length_append, List.length_cons, List.nil_append, List.cons_append, h3]
    congr 2
    simp; omega
  · by_cases h2 : 127 < n
    · simp (disch := omega) only [spec_l01Put.l0, if_pos, if_neg, wid, tmodE, tdivE, List.length_nil, List.length_append, List.length_cons, List.nil_append, List.cons_append, h3, h2]
      congr 2
      simp; omega
    · simp (disch := omega) only [spec_l01Put.l0, if_pos, if_neg, wid, tmodE, tdivE, List.length_nil, List.length_append, List.length_cons, List.nil_append, List.cons_append, h3, h2]
      rw [if_neg (by simp)]

/-! ### numbers are taken -/
/-- The number whose bytes stand in t from at on, the place behind it, the code. -/
def takeP (t : ByteArray) (p : Int) : Int × Int × Int :=
  if (t.size : Int) ≤ p then (0, 0, 8) else if bt t p < 128 then (bt t p, p + 1, 0) else
  if (t.size : Int) ≤ p + 1 then (0, 0, 8) else if bt t (p + 1) < 128 then (if bt t (p + 1) = 0 then (0, 0, 3) else (bt t p - 128 + bt t (p + 1) * 128, p + 2, 0)) else
  if (t.size : Int) ≤ p + 2 then (0, 0, 8) else if 128 ≤ bt t (p + 2) then (0, 0, 4) else if bt t (p + 2) = 0 then (0, 0, 3) else
  if 999999 < bt t p - 128 + (bt t (p + 1) - 128) * 128 + bt t (p + 2) * 16384 then (0, 0, 4) else (bt t p - 128 + (bt t (p + 1) - 128) * 128 + bt t (p + 2) * 16384, p + 3, 0)
theorem ite_both {α : Type} {P : α → Prop} {c : Prop} [Decidable c] {a b : α} (h1 : c → P a) (h2 : ¬c → P b) : P (if c then a else b) := by
  split
  · exact h1 ‹_›
  · exact h2 ‹_›
def TakeOk (t : ByteArray) (p : Int) (r : Int × Int × Int) : Prop := r.2.2 = 0 → 0 ≤ r.1 ∧ r.1 ≤ 999999 ∧ r.2.1 = p + (putL r.1).length ∧ r.2.1 ≤ t.size
theorem takeP_ok {t : ByteArray} {p : Int} (h0 : 0 ≤ p) (h1 : p ≤ t.size) : TakeOk t p (takeP t p) := by
  have r0 := bt_range t p
  have r1 := bt_range t (p + 1)
  have r2 := bt_range t (p + 2)
  unfold takeP
  refine ite_both (fun _ h => by simp at h) (fun _ => ?_)
  refine ite_both (fun _ _ => ⟨by omega, by show bt t p ≤ _; omega, ?_, by show p + 1 ≤ _; omega⟩) (fun _ => ?_)
  · unfold putL; rw [if_neg (by show ¬ 16383 < bt t p; omega), if_neg (by show ¬ 127 < bt t p; omega)]; rfl
  refine ite_both (fun _ h => by simp at h) (fun _ => ?_)
  refine ite_both (fun _ => ite_both (fun _ h => by simp at h) (fun _ _ => ⟨?_, ?_, ?_, by show p + 2 ≤ _; omega⟩)) (fun _ => ?_)
  · show 0 ≤ bt t p - 128 + bt t (p + 1) * 128; omega
  · show bt t p - 128 + bt t (p + 1) * 128 ≤ _; omega
  · show p + 2 = p + ((putL (bt t p - 128 + bt t (p + 1) * 128)).length : Int)
    unfold putL; rw [if_neg (by omega), if_pos (by omega)]; rfl
  refine ite_both (fun _ h => by simp at h) (fun _ => ?_)
  refine ite_both (fun _ h => by simp at h) (fun _ => ?_)
  refine ite_both (fun _ h => by simp at h) (fun _ => ?_)
  refine ite_both (fun _ h => by simp at h) (fun _ _ => ⟨?_, ?_, ?_, by show p + 3 ≤ _; omega⟩)
  · show 0 ≤ bt t p - 128 + (bt t (p + 1) - 128) * 128 + bt t (p + 2) * 16384; omega
  · show bt t p - 128 + (bt t (p + 1) - 128) * 128 + bt t (p + 2) * 16384 ≤ _; omega
  · show p + 3 = p + ((putL (bt t p - 128 + (bt t (p + 1) - 128) * 128 + bt t (p + 2) * 16384)).length : Int)
    unfold putL; rw [if_pos (by omega)]; rfl
theorem take_round (k : Nat) (t : ByteArray) (p n s i : Int) (hp : 0 ≤ p) (hi : p ≤ i) (hi' : i < t.size) (h2 : t.size ≤ 1048576) (hn : 0 ≤ n) (hn' : n ≤ 999999) (hs : s = 1 ∨ s = 128 ∨ s = 16384) :
    spec_l01Take.l0 (k + 2) t p n s i = if bt t i < 128 then (if bt t i = 0 ∧ p < i then some (0, 0, 3) else if 999999 < n + bt t i * s then some (0, 0, 4) else some (n + bt t i * s, i + 1, 0))
      else if i = p + 2 then some (0, 0, 4) else spec_l01Take.l0 (k + 1) t p (n + (bt t i - 128) * s) (s * 128) (i + 1) := by
  have r0 := bt_range t i
  have e0 : wrap64 (bt t i) = bt t i := wid (by omega) (by omega)
  have e1 : Int.tmod (bt t i) 128 = bt t i % 128 := tmodE (by omega)
  have e2 : wrap64 (i + 1) = i + 1 := wid (by omega) (by omega)
  have e3 : wrap64 (p + 2) = p + 2 := wid (by omega) (by omega)
  have e4 : wrap64 (wrap64 (n + wrap64 (bt t i % 128 * s))) = n + bt t i % 128 * s := by
    rcases hs with rfl | rfl | rfl
    · rw [wid (x := bt t i % 128 * 1) (by omega) (by omega), wid (x := n + bt t i % 128 * 1) (by omega) (by omega), wid (by omega) (by omega)]
    · rw [wid (x := bt t i % 128 * 128) (by omega) (by omega), wid (x := n + bt t i % 128 * 128) (by omega) (by omega), wid (by omega) (by omega)]
    · rw [wid (x := bt t i % 128 * 16384) (by omega) (by omega), wid (x := n + bt t i % 128 * 16384) (by omega) (by omega), wid (by omega) (by omega)]
  have e5 : wrap64 (n + wrap64 (bt t i % 128 * s)) = n + bt t i % 128 * s := by
    rcases hs with rfl | rfl | rfl
    · rw [wid (x := bt t i % 128 * 1) (by omega) (by omega), wid (x := n + bt t i % 128 * 1) (by omega) (by omega)]
    · rw [wid (x := bt t i % 128 * 128) (by omega) (by omega), wid (x := n + bt t i % 128 * 128) (by omega) (by omega)]
    · rw [wid (x := bt t i % 128 * 16384) (by omega) (by omega), wid (x := n + bt t i % 128 * 16384) (by omega) (by omega)]
  have e6 : wrap64 (s * 128) = s * 128 := by rcases hs with rfl | rfl | rfl <;> exact wid (by omega) (by omega)
  rw [spec_l01Take.l0, if_pos hi', if_pos (by omega)]
  simp only [e0, e1, e2, e3, e5, e6]
  by_cases b : bt t i < 128
  · have e7 : bt t i % 128 = bt t i := by omega
    rw [if_pos b, if_pos b, e7]
    by_cases z : bt t i = 0
    · rw [if_pos z, spec_l01Take.j1]
      by_cases q : p < i
      · rw [if_pos (by simpa using q), if_pos ⟨z, q⟩]
      · have q2 : ¬ (bt t i = 0 ∧ p < i) := fun h => q h.2
        rw [if_neg (by simpa using q), if_neg q2, e2]
    · have q2 : ¬ (bt t i = 0 ∧ p < i) := fun h => z h.1
      rw [if_neg z, spec_l01Take.j1, if_neg (by decide), if_neg q2, e2]
  · have e7 : bt t i % 128 = bt t i - 128 := by omega
    rw [if_neg b, if_neg b, e7]
theorem take_end (k : Nat) (t : ByteArray) (p n s i : Int) (hi' : (t.size : Int) ≤ i) : spec_l01Take.l0 (k + 1) t p n s i = some (0, 0, 8) := by rw [spec_l01Take.l0, if_neg (by omega)]
theorem l01Take_eq {t : ByteArray} {p : Int} (h0 : 0 ≤ p) (h1 : p ≤ t.size) (h2 : t.size ≤ 1048576) : Ev (fun k => spec_l01Take.f k t p) (takeP t p) := by
  have r0 := bt_range t p
  have r1 := bt_range t (p + 1)
  have r2 := bt_range t (p + 2)
  refine Ev.val 5 fun k => ?_
  unfold spec_l01Take.f takeP
  by_cases a0 : (t.size : Int) ≤ p
  · rw [if_pos a0, take_end _ _ _ _ _ _ a0]
  rw [if_neg a0, take_round _ _ _ _ _ _ h0 (by omega) (by omega) h2 (by omega) (by omega) (by simp)]
  by_cases b0 : bt t p < 128
  · rw [if_pos b0, if_pos b0, if_neg (by omega), if_neg (by omega)]; congr 2; omega
  rw [if_neg b0, if_neg b0, if_neg (by omega)]
  by_cases a1 : (t.size : Int) ≤ p + 1
  · rw [if_pos a1, take_end _ _ _ _ _ _ a1]
  rw [if_neg a1, take_round _ _ _ _ _ _ h0 (by omega) (by omega) h2 (by omega) (by omega) (by simp)]
  by_cases b1 : bt t (p + 1) < 128
  · rw [if_pos b1, if_pos b1]
    by_cases z : bt t (p + 1) = 0
    · rw [if_pos z, if_pos ⟨z, by omega⟩]
    · rw [if_neg z, if_neg (fun h => z h.1), if_neg (by omega)]; congr 2
      · omega
      · congr 1; omega
  rw [if_neg b1, if_neg b1, if_neg (by omega), show p + 1 + 1 = p + 2 by omega]
  by_cases a2 : (t.size : Int) ≤ p + 2
  · rw [if_pos a2, take_end _ _ _ _ _ _ a2]
  rw [if_neg a2, take_round _ _ _ _ _ _ h0 (by omega) (by omega) h2 (by omega) (by omega) (by simp)]
  by_cases b2 : 128 ≤ bt t (p + 2)
  · rw [if_pos b2, if_neg (by omega), if_pos rfl]
  rw [if_neg b2, if_pos (by omega)]
  by_cases z : bt t (p + 2) = 0
  · rw [if_pos z, if_pos ⟨z, by omega⟩]
  rw [if_neg z, if_neg (fun h => z h.1)]
  have e : 0 + (bt t p - 128) * 1 + (bt t (p + 1) - 128) * (1 * 128) + bt t (p + 2) * (1 * 128 * 128) = bt t p - 128 + (bt t (p + 1) - 128) * 128 + bt t (p + 2) * 16384 := by omega
  rw [e]
  by_cases c : 999999 < bt t p - 128 + (bt t (p + 1) - 128) * 128 + bt t (p + 2) * 16384
  · rw [if_pos c, if_pos c]
  · rw [if_neg c, if_neg c, show p + 2 + 1 = p + 3 by omega]

/-! ### the program's own takeNumber -/
theorem shl_by {x y : Int} (j : Nat) (hy : y = j) (hj : j ≤ 14) (h0 : 0 ≤ x) (h1 : x < 128) : shl .i64 x y = x * 2 ^ j := by
  subst hy
  unfold shl
  have hm : min (Int.toNat (j : Int)) IntKind.i64.bits = j := by
    have : IntKind.i64.bits = 64 := rfl
    rw [this, Int.toNat_natCast]; omega
  rw [hm, IntKind.wrap_i64]
  have : (2 : Int) ^ j ≤ 2 ^ 14 := by exact_mod_cast Nat.pow_le_pow_right (by omega) hj
  have p0 : (0 : Int) < 2 ^ j := by exact_mod_cast Nat.pow_pos (n := j) (by omega : 0 < 2)
  have b0 : 0 ≤ x * 2 ^ j := Int.mul_nonneg h0 (by omega)
  have b1 : x * 2 ^ j ≤ 127 * 2 ^ 14 := Int.mul_le_mul (by omega) this (by omega) (by omega)
  generalize x * 2 ^ j = y at *
  have h14 : (2 : Int) ^ 14 = 16384 := rfl
  rw [h14] at b1
  have := wid (x := y) (by omega) (by omega)
  unfold wrap64 at this
  exact this
theorem ntake_round (k : Nat) (t : ByteArray) (p n : Int) (i : Nat) (hp : 0 ≤ p) (hi' : p + i < t.size) (h2 : t.size ≤ 1048576) (hn : 0 ≤ n) (hn' : n ≤ 999999) (hi : i ≤ 2) :
    impl_takeNumber.l0 (k + 3) t p n i = if bt t (p + i) < 128 then (if bt t (p + i) = 0 ∧ 0 < i then some (0, 3) else if 999999 < n + bt t (p + i) * 2 ^ (7 * i) then some (0, 4) else some (n + bt t (p + i) * 2 ^ (7 * i), 0))
      else if i = 2 then some (0, 4) else impl_takeNumber.l0 (k + 1) t p (n + (bt t (p + i) - 128) * 2 ^ (7 * i)) (i + 1 : Nat) := by
  have r0 := bt_range t (p + i)
  have g0 : ¬ (p + (i : Int) ≥ t.size) := by omega
  have g1 : 0 ≤ p + (i : Int) := by omega
  have g2 : 0 ≤ 7 * (i : Int) := by omega
  have g3 : bt t (p + i) < 128 → ¬ bt t (p + i) ≥ 128 ∧ bt t (p + i) % 128 = bt t (p + i) := by omega
  have g4 : ¬ bt t (p + i) < 128 → bt t (p + i) ≥ 128 ∧ bt t (p + i) % 128 = bt t (p + i) - 128 := by omega
  have g5 : i ≠ 2 → ((i : Int) == 2) = false := by intro h; simp; omega
  have hw : (2 : Int) ^ (7 * i) = 1 ∨ (2 : Int) ^ (7 * i) = 128 ∨ (2 : Int) ^ (7 * i) = 16384 := by
    have : i = 0 ∨ i = 1 ∨ i = 2 := by omega
    rcases this with rfl | rfl | rfl <;> simp
  have e5 : ∀ s : Int, s = 1 ∨ s = 128 ∨ s = 16384 → wrap64 (n + bt t (p + i) % 128 * s) = n + bt t (p + i) % 128 * s := by
    clear hw
    intro s hs
    rcases hs with rfl | rfl | rfl
    · exact wid (x := n + bt t (p + i) % 128 * 1) (by omega) (by omega)
    · exact wid (x := n + bt t (p + i) % 128 * 128) (by omega) (by omega)
    · exact wid (x := n + bt t (p + i) % 128 * 16384) (by omega) (by omega)
  replace e5 := e5 _ hw
  have e0 : wrap64 (p + (i : Int)) = p + i := wid (by omega) (by omega)
  have e1 : wrap64 (bt t (p + i)) = bt t (p + i) := wid (by omega) (by omega)
  have e2 : Int.tmod (bt t (p + i)) 128 = bt t (p + i) % 128 := tmodE (by omega)
  have e3 : wrap64 (7 * (i : Int)) = 7 * i := wid (by omega) (by omega)
  have e4 : shl .i64 (bt t (p + i) % 128) (7 * (i : Int)) = bt t (p + i) % 128 * 2 ^ (7 * i) := shl_by (7 * i) (by omega) (by omega) (by omega) (by omega)
  generalize (2 : Int) ^ (7 * i) = s at *
  have e6 : wrap64 ((i : Int) + 1) = (i + 1 : Nat) := by rw [wid (by omega) (by omega)]; omega
  rw [impl_takeNumber.l0]
  simp only [e0, e1, e2, e3, e4, e5]
  rw [if_neg g0, if_pos g1, if_pos hi', if_pos g2]
  by_cases b : bt t (p + i) < 128
  · rw [if_neg (g3 b).1, if_pos b, (g3 b).2, impl_takeNumber.j1, if_neg (by decide), if_neg (g3 b).1]
    by_cases z : bt t (p + i) = 0
    · rw [if_pos z, impl_takeNumber.j2]
      by_cases q : 0 < i
      · rw [if_pos (by simpa using q), if_pos ⟨z, q⟩]
      · have q2 : ¬ (bt t (p + i) = 0 ∧ 0 < i) := fun h => q h.2
        rw [if_neg (by simpa using q), if_neg q2]
    · have q2 : ¬ (bt t (p + i) = 0 ∧ 0 < i) := fun h => z h.1
      rw [if_neg z, impl_takeNumber.j2, if_neg (by decide), if_neg q2]
  · rw [if_pos (g4 b).1, if_neg b, (g4 b).2, impl_takeNumber.j1]
    by_cases q : i = 2
    · rw [if_pos (by simp [q]), if_pos q]
    · rw [if_neg (by rw [g5 q]; decide), if_neg q, if_pos (g4 b).1, e6]
theorem ntake_end (k : Nat) (t : ByteArray) (p n : Int) (i : Nat) (hp : 0 ≤ p) (hi' : (t.size : Int) ≤ p + i) (hi : i ≤ 2) (h : p ≤ t.size) (h2 : t.size ≤ 1048576) : impl_takeNumber.l0 (k + 1) t p n i = some (0, 8) := by
  rw [impl_takeNumber.l0, wid (x := p + i) (by omega) (by omega), if_pos (by omega)]
theorem takeNumber_in {t : ByteArray} {p : Int} (h0 : 0 ≤ p) (h1 : p ≤ t.size) (h2 : t.size ≤ 1048576) : Ev (fun k => impl_takeNumber.f k t p) ((takeP t p).1, (takeP t p).2.2) := by
  have r0 := bt_range t p
  have r1 := bt_range t (p + 1)
  have r2 := bt_range t (p + 2)
  refine Ev.val 8 fun k => ?_
  unfold impl_takeNumber.f impl_within.f
  rw [if_pos (by omega)]
  simp only [Option.bind_some, decide_eq_true_eq]
  rw [if_pos (by omega)]
  unfold takeP
  have n0 : p + ((0 : Nat) : Int) = p := by omega
  have n1 : p + ((1 : Nat) : Int) = p + 1 := by omega
  have n2 : p + ((2 : Nat) : Int) = p + 2 := by omega
  show impl_takeNumber.l0 (k + 8) t p 0 ((0 : Nat) : Int) = _
  by_cases a0 : (t.size : Int) ≤ p
  · rw [if_pos a0, ntake_end _ _ _ _ _ h0 (by omega) (by omega) h1 h2]
  rw [if_neg a0, ntake_round _ _ _ _ _ h0 (by omega) h2 (by omega) (by omega) (by omega), n0]
  by_cases b0 : bt t p < 128
  · rw [if_pos b0, if_pos b0, if_neg (by simp), if_neg (by simp; omega)]; simp
  rw [if_neg b0, if_neg b0, if_neg (by omega)]
  by_cases a1 : (t.size : Int) ≤ p + 1
  · rw [if_pos a1, ntake_end _ _ _ _ _ h0 (by omega) (by omega) h1 h2]
  rw [if_neg a1, ntake_round _ _ _ _ _ h0 (by omega) h2 (by simp; omega) (by simp; omega) (by omega), n1]
  by_cases b1 : bt t (p + 1) < 128
  · rw [if_pos b1, if_pos b1]
    by_cases z : bt t (p + 1) = 0
    · rw [if_pos z, if_pos ⟨z, by omega⟩]
    · rw [if_neg z, if_neg (fun h => z h.1), if_neg (by simp; omega)]; simp
  rw [if_neg b1, if_neg b1, if_neg (by omega)]
  by_cases a2 : (t.size : Int) ≤ p + 2
  · rw [if_pos a2, ntake_end _ _ _ _ _ h0 (by omega) (by omega) h1 h2]
  rw [if_neg a2, ntake_round _ _ _ _ _ h0 (by omega) h2 (by simp; omega) (by simp; omega) (by omega), n2]
  by_cases b2 : 128 ≤ bt t (p + 2)
  · rw [if_pos b2, if_neg (by omega), if_pos rfl]
  rw [if_neg b2, if_pos (by omega)]
  by_cases z : bt t (p + 2) = 0
  · rw [if_pos z, if_pos ⟨z, by omega⟩]
  have q2 : ¬ (bt t (p + 2) = 0 ∧ 0 < 2) := fun h => z h.1
  rw [if_neg z, if_neg q2]
  have e : 0 + (bt t p - 128) * 2 ^ (7 * 0) + (bt t (p + 1) - 128) * 2 ^ (7 * 1) + bt t (p + 2) * 2 ^ (7 * 2) = bt t p - 128 + (bt t (p + 1) - 128) * 128 + bt t (p + 2) * 16384 := by simp
  rw [e]
  by_cases c : 999999 < bt t p - 128 + (bt t (p + 1) - 128) * 128 + bt t (p + 2) * 16384
  · rw [if_pos c, if_pos c]
  · rw [if_neg c, if_neg c]
theorem takeNumber_out {t : ByteArray} {p : Int} (h : ¬ (0 ≤ p ∧ p ≤ t.size)) : Ev (fun k => impl_takeNumber.f k t p) (0, 8) := by
  refine Ev.val 0 fun k => ?_
  unfold impl_takeNumber.f impl_within.f
  by_cases h0 : p ≥ 0
  · rw [if_pos h0]; simp only [Option.bind_some, decide_eq_true_eq]; rw [if_neg (by omega)]
  · rw [if_neg h0]; simp

end Go.Proofs.Ytnppmhijoaeibaa.H
