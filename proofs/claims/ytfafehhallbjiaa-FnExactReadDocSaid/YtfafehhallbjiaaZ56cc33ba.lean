/- Several of our texts, one behind the other, without what this claim does not need: WireP, WireT, ReadA, RdDocP, DocP, DocQ, DocR, RdDocE, DocLa, PureFnExactReadDoc. -/
import Derived.Test.YtfafehhallbjiaaZdc52c2dd
import Derived.Test.YtfafehhallbjiaaZ692b6499
import Derived.Test.YtfafehhallbjiaaZ3aecfc4f
import Derived.Test.YtfafehhallbjiaaZba34092a
import Derived.Lib.Strings
import Derived.Test.YtfafehhallbjiaaZa06c9b0d
set_option linter.unusedVariables false
set_option linter.unusedSimpArgs false
namespace Go.Proofs.Ytfafehhallbjiaa.H
open Go.RowKit Go.Proofs.YtfafehhallbjiaaW.PrintWords Go.Proofs.Ytfafehhallbjiaa.Q
def takeP (t : ByteArray) (p : Int) : Int × Int × Int :=
  if (t.size : Int) ≤ p then (0, 0, 8) else if bt t p < 128 then (bt t p, p + 1, 0) else
  if (t.size : Int) ≤ p + 1 then (0, 0, 8) else if bt t (p + 1) < 128 then (if bt t (p + 1) = 0 then (0, 0, 3) else (bt t p - 128 + bt t (p + 1) * 128, p + 2, 0)) else
  if (t.size : Int) ≤ p + 2 then (0, 0, 8) else if 128 ≤ bt t (p + 2) then (0, 0, 4) else if bt t (p + 2) = 0 then (0, 0, 3) else
  if 999999 < bt t p - 128 + (bt t (p + 1) - 128) * 128 + bt t (p + 2) * 16384 then (0, 0, 4) else (bt t p - 128 + (bt t (p + 1) - 128) * 128 + bt t (p + 2) * 16384, p + 3, 0)
theorem ite_both {α : Type} {P : α → Prop} {c : Prop} [Decidable c] {a b : α} (h1 : c → P a) (h2 : ¬c → P b) : P (if c then a else b) := by
  split
  · exact h1 ‹_›
  · exact h2 ‹_›
def TakeOk (t : ByteArray) (p : Int) (r : Int × Int × Int) : Prop := r.2.2 = 0 → 0 ≤ r.1 ∧ r.1 ≤ 999999 ∧ r.2.1 = p + (putL r.1).length ∧ r.2.1 ≤ t.size
theorem takeP_ok {t : ByteArray} {p : Int} (h0 : 0 ≤ p) (h1 : p ≤ t.size) : TakeOk t p (takeP t p) := by
  have r0 := bt_range t p
  have r1 := bt_range t (p + 1)
  have r2 := bt_range t (p + 2)
  unfold takeP
  refine ite_both (fun _ h => by simp at h) (fun _ => ?_)
  refine ite_both (fun _ _ => ⟨by omega, by show bt t p ≤ _; omega, ?_, by show p + 1 ≤ _; omega⟩) (fun _ => ?_)
  · unfold putL; rw [if_neg (by show ¬ 16383 < bt t p; omega), if_neg (by show ¬ 127 < bt t p; omega)]; rfl
  refine ite_both (fun _ h => by simp at h) (fun _ => ?_)
  refine ite_both (fun _ => ite_both (fun _ h => by simp at h) (fun _ _ => ⟨?_, ?_, ?_, by show p + 2 ≤ _; omega⟩)) (fun _ => ?_)
  · show 0 ≤ bt t p - 128 + bt t (p + 1) * 128; omega
  · show bt t p - 128 + bt t (p + 1) * 128 ≤ _; omega
  · show p + 2 = p + ((putL (bt t p - 128 + bt t (p + 1) * 128)).length : Int)
    unfold putL; rw [if_neg (by omega), if_pos (by omega)]; rfl
  refine ite_both (fun _ h => by simp at h) (fun _ => ?_)
  refine ite_both (fun _ h => by simp at h) (fun _ => ?_)
  refine ite_both (fun _ h => by simp at h) (fun _ => ?_)
  refine ite_both (fun _ h => by simp at h) (fun _ _ => ⟨?_, ?_, ?_, by show p + 3 ≤ _; omega⟩)
  · show 0 ≤ bt t p - 128 + (bt t (p + 1) - 128) * 128 + bt t (p + 2) * 16384; omega
  · show bt t p - 128 + (bt t (p + 1) - 128) * 128 + bt t (p + 2) * 16384 ≤ _; omega
  · show p + 3 = p + ((putL (bt t p - 128 + (bt t (p + 1) - 128) * 128 + bt t (p + 2) * 16384)).length : Int)
    unfold putL; rw [if_pos (by omega)]; rfl
theorem take_round (k : Nat) (t : ByteArray) (p n s i : Int) (hp : 0 ≤ p) (hi : p ≤ i) (hi' : i < t.size) (h2 : t.size ≤ 1048576) (hn : 0 ≤ n) (hn' : n ≤ 999999) (hs : s = 1 ∨ s = 128 ∨ s = 16384) :
    spec_l01Take.l0 (k + 2) t p n s i = if bt t i < 128 then (if bt t i = 0 ∧ p < i then some (0, 0, 3) else if 999999 < n + bt t i * s then some (0, 0, 4) else some (n + bt t i * s, i + 1, 0))
      else if i = p + 2 then some (0, 0, 4) else spec_l01Take.l0 (k + 1) t p (n + (bt t i - 128) * s) (s * 128) (i + 1) := by
  have r0 := bt_range t i
  have e0 : wrap64 (bt t i) = bt t i := wid (by omega) (by omega)
  have e1 : Int.tmod (bt t i) 128 = bt t i % 128 := tmodE (by omega)
  have e2 : wrap64 (i + 1) = i + 1 := wid (by omega) (by omega)
  have e3 : wrap64 (p + 2) = p + 2 := wid (by omega) (by omega)
  have e4 : wrap64 (wrap64 (n + wrap64 (bt t i % 128 * s))) = n + bt t i % 128 * s := by
    rcases hs with rfl | rfl | rfl
    · rw [wid (x := bt t i % 128 * 1) (by omega) (by omega), wid (x := n + bt t i % 128 * 1) (by omega) (by omega), wid (by omega) (by omega)]
    · rw [wid (x := bt t i % 128 * 128) (by omega) (by omega), wid (x := n + bt t i % 128 * 128) (by omega) (by omega), wid (by omega) (by omega)]
    · rw [wid (x := bt t i % 128 * 16384) (by omega) (by omega), wid (x := n + bt t i % 128 * 16384) (by omega) (by omega), wid (by omega) (by omega)]
  have e5 : wrap64 (n + wrap64 (bt t i % 128 * s)) = n + bt t i % 128 * s := by
    rcases hs with rfl | rfl | rfl
    · rw [wid (x := bt t i % 128 * 1) (by omega) (by omega), wid (x := n + bt t i % 128 * 1) (by omega) (by omega)]
    · rw [wid (x := bt t i % 128 * 128) (by omega) (by omega), wid (x := n + bt t i % 128 * 128) (by omega) (by omega)]
    · rw [wid (x := bt t i % 128 * 16384) (by omega) (by omega), wid (x := n + bt t i % 128 * 16384) (by omega) (by omega)]
  have e6 : wrap64 (s * 128) = s * 128 := by rcases hs with rfl | rfl | rfl <;> exact wid (by omega) (by omega)
  rw [spec_l01Take.l0, if_pos hi', if_pos (by omega)]
  simp only [e0, e1, e2, e3, e5, e6]
  by_cases b : bt t i < 128
  · have e7 : bt t i % 128 = bt t i := by omega
    rw [if_pos b, if_pos b, e7]
    by_cases z : bt t i = 0
    · rw [if_pos z, spec_l01Take.j1]
      by_cases q : p < i
      · rw [if_pos (by simpa using q), if_pos ⟨z, q⟩]
      · have q2 : ¬ (bt t i = 0 ∧ p < i) := fun h => q h.2
        rw [if_neg (by simpa using q), if_neg q2, e2]
    · have q2 : ¬ (bt t i = 0 ∧ p < i) := fun h => z h.1
      rw [if_neg z, spec_l01Take.j1, if_neg (by decide), if_neg q2, e2]
  · have e7 : bt t i % 128 = bt t i - 128 := by omega
    rw [if_neg b, if_neg b, e7]
theorem take_end (k : Nat) (t : ByteArray) (p n s i : Int) (hi' : (t.size : Int) ≤ i) : spec_l01Take.l0 (k + 1) t p n s i = some (0, 0, 8) := by rw [spec_l01Take.l0, if_neg (by omega)]
theorem l01Take_eq {t : ByteArray} {p : Int} (h0 : 0 ≤ p) (h1 : p ≤ t.size) (h2 : t.size ≤ 1048576) : Ev (fun k => spec_l01Take.f k t p) (takeP t p) := by
  have r0 := bt_range t p
  have r1 := bt_range t (p + 1)
  have r2 := bt_range t (p + 2)
  refine Ev.val 5 fun k => ?_
  unfold spec_l01Take.f takeP
  by_cases a0 : (t.size : Int) ≤ p
  · rw [if_pos a0, take_end _ _ _ _ _ _ a0]
  rw [if_neg a0, take_round _ _ _ _ _ _ h0 (by omega) (by omega) h2 (by omega) (by omega) (by simp)]
  by_cases b0 : bt t p < 128
  · rw [if_pos b0, if_pos b0, if_neg (by omega), if_neg (by omega)]; congr 2; omega
  rw [if_neg b0, if_neg b0, if_neg (by omega)]
  by_cases a1 : (t.size : Int) ≤ p + 1
  · rw [if_pos a1, take_end _ _ _ _ _ _ a1]
  rw [if_neg a1, take_round _ _ _ _ _ _ h0 (by omega) (by omega) h2 (by omega) (by omega) (by simp)]
  by_cases b1 : bt t (p + 1) < 128
  · rw [if_pos b1, if_pos b1]
    by_cases z : bt t (p + 1) = 0
    · rw [if_pos z, if_pos ⟨z, by omega⟩]
    · rw [if_neg z, if_neg (fun h => z h.1), if_neg (by omega)]; congr 2
      · omega
      · congr 1; omega
  rw [if_neg b1, if_neg b1, if_neg (by omega), show p + 1 + 1 = p + 2 by omega]
  by_cases a2 : (t.size : Int) ≤ p + 2
  · rw [if_pos a2, take_end _ _ _ _ _ _ a2]
  rw [if_neg a2, take_round _ _ _ _ _ _ h0 (by omega) (by omega) h2 (by omega) (by omega) (by simp)]
  by_cases b2 : 128 ≤ bt t (p + 2)
  · rw [if_pos b2, if_neg (by omega), if_pos rfl]
  rw [if_neg b2, if_pos (by omega)]
  by_cases z : bt t (p + 2) = 0
  · rw [if_pos z, if_pos ⟨z, by omega⟩]
  rw [if_neg z, if_neg (fun h => z h.1)]
  have e : 0 + (bt t p - 128) * 1 + (bt t (p + 1) - 128) * (1 * 128) + bt t (p + 2) * (1 * 128 * 128) = bt t p - 128 + (bt t (p + 1) - 128) * 128 + bt t (p + 2) * 16384 := by omega
  rw [e]
  by_cases c : 999999 < bt t p - 128 + (bt t (p + 1) - 128) * 128 + bt t (p + 2) * 16384
  · rw [if_pos c, if_pos c]
  · rw [if_neg c, if_neg c, show p + 2 + 1 = p + 3 by omega]
theorem shl_by {x y : Int} (j : Nat) (hy : y = j) (hj : j ≤ 14) (h0 : 0 ≤ x) (h1 : x < 128) : shl .i64 x y = x * 2 ^ j := by
  subst hy
  unfold shl
  have hm : min (Int.toNat (j : Int)) IntKind.i64.bits = j := by
    have : IntKind.i64.bits = 64 := rfl
    rw [this, Int.toNat_natCast]; omega
  rw [hm, IntKind.wrap_i64]
  have : (2 : Int) ^ j ≤ 2 ^ 14 := by exact_mod_cast Nat.pow_le_pow_right (by omega) hj
  have p0 : (0 : Int) < 2 ^ j := by exact_mod_cast Nat.pow_pos (n := j) (by omega : 0 < 2)
  have b0 : 0 ≤ x * 2 ^ j := Int.mul_nonneg h0 (by omega)
  have b1 : x * 2 ^ j ≤ 127 * 2 ^ 14 := Int.mul_le_mul (by omega) this (by omega) (by omega)
  generalize x * 2 ^ j = y at *
  have h14 : (2 : Int) ^ 14 = 16384 := rfl
  rw [h14] at b1
  have := wid (x := y) (by omega) (by omega)
  unfold wrap64 at this
  exact this
theorem ntake_round (k : Nat) (t : ByteArray) (p n : Int) (i : Nat) (hp : 0 ≤ p) (hi' : p + i < t.size) (h2 : t.size ≤ 1048576) (hn : 0 ≤ n) (hn' : n ≤ 999999) (hi : i ≤ 2) :
    impl_takeNumber.l0 (k + 3) t p n i = if bt t (p + i) < 128 then (if bt t (p + i) = 0 ∧ 0 < i then some (0, 3) else if 999999 < n + bt t (p + i) * 2 ^ (7 * i) then some (0, 4) else some (n + bt t (p + i) * 2 ^ (7 * i), 0))
      else if i = 2 then some (0, 4) else impl_takeNumber.l0 (k + 1) t p (n + (bt t (p + i) - 128) * 2 ^ (7 * i)) (i + 1 : Nat) := by
  have r0 := bt_range t (p + i)
  have g0 : ¬ (p + (i : Int) ≥ t.size) := by omega
  have g1 : 0 ≤ p + (i : Int) := by omega
  have g2 : 0 ≤ 7 * (i : Int) := by omega
  have g3 : bt t (p + i) < 128 → ¬ bt t (p + i) ≥ 128 ∧ bt t (p + i) % 128 = bt t (p + i) := by omega
  have g4 : ¬ bt t (p + i) < 128 → bt t (p + i) ≥ 128 ∧ bt t (p + i) % 128 = bt t (p + i) - 128 := by omega
  have g5 : i ≠ 2 → ((i : Int) == 2) = false := by intro h; simp; omega
  have hw : (2 : Int) ^ (7 * i) = 1 ∨ (2 : Int) ^ (7 * i) = 128 ∨ (2 : Int) ^ (7 * i) = 16384 := by
    have : i = 0 ∨ i = 1 ∨ i = 2 := by omega
    rcases this with rfl | rfl | rfl <;> simp
  have e5 : ∀ s : Int, s = 1 ∨ s = 128 ∨ s = 16384 → wrap64 (n + bt t (p + i) % 128 * s) = n + bt t (p + i) % 128 * s := by
    clear hw
    intro s hs
    rcases hs with rfl | rfl | rfl
    · exact wid (x := n + bt t (p + i) % 128 * 1) (by omega) (by omega)
    · exact wid (x := n + bt t (p + i) % 128 * 128) (by omega) (by omega)
    · exact wid (x := n + bt t (p + i) % 128 * 16384) (by omega) (by omega)
  replace e5 := e5 _ hw
  have e0 : wrap64 (p + (i : Int)) = p + i := wid (by omega) (by omega)
  have e1 : wrap64 (bt t (p + i)) = bt t (p + i) := wid (by omega) (by omega)
  have e2 : Int.tmod (bt t (p + i)) 128 = bt t (p + i) % 128 := tmodE (by omega)
  have e3 : wrap64 (7 * (i : Int)) = 7 * i := wid (by omega) (by omega)
  have e4 : shl .i64 (bt t (p + i) % 128) (7 * (i : Int)) = bt t (p + i) % 128 * 2 ^ (7 * i) := shl_by (7 * i) (by omega) (by omega) (by omega) (by omega)
  generalize (2 : Int) ^ (7 * i) = s at *
  have e6 : wrap64 ((i : Int) + 1) = (i + 1 : Nat) := by rw [wid (by omega) (by omega)]; omega
  rw [impl_takeNumber.l0]
  simp only [e0, e1, e2, e3, e4, e5]
  rw [if_neg g0, if_pos g1, if_pos hi', if_pos g2]
  by_cases b : bt t (p + i) < 128
  · rw [if_neg (g3 b).1, if_pos b, (g3 b).2, impl_takeNumber.j1, if_neg (by decide), if_neg (g3 b).1]
    by_cases z : bt t (p + i) = 0
    · rw [if_pos z, impl_takeNumber.j2]
      by_cases q : 0 < i
      · rw [if_pos (by simpa using q), if_pos ⟨z, q⟩]
      · have q2 : ¬ (bt t (p + i) = 0 ∧ 0 < i) := fun h => q h.2
        rw [if_neg (by simpa using q), if_neg q2]
    · have q2 : ¬ (bt t (p + i) = 0 ∧ 0 < i) := fun h => z h.1
      rw [if_neg z, impl_takeNumber.j2, if_neg (by decide), if_neg q2]
  · rw [if_pos (g4 b).1, if_neg b, (g4 b).2, impl_takeNumber.j1]
    by_cases q : i = 2
    · rw [if_pos (by simp [q]), if_pos q]
    · rw [if_neg (by rw [g5 q]; decide), if_neg q, if_pos (g4 b).1, e6]
theorem ntake_end (k : Nat) (t : ByteArray) (p n : Int) (i : Nat) (hp : 0 ≤ p) (hi' : (t.size : Int) ≤ p + i) (hi : i ≤ 2) (h : p ≤ t.size) (h2 : t.size ≤ 1048576) : impl_takeNumber.l0 (k + 1) t p n i = some (0, 8) := by
  rw [impl_takeNumber.l0, wid (x := p + i) (by omega) (by omega), if_pos (by omega)]
theorem takeNumber_in {t : ByteArray} {p : Int} (h0 : 0 ≤ p) (h1 : p ≤ t.size) (h2 : t.size ≤ 1048576) : Ev (fun k => impl_takeNumber.f k t p) ((takeP t p).1, (takeP t p).2.2) := by
  have r0 := bt_range t p
  have r1 := bt_range t (p + 1)
  have r2 := bt_range t (p + 2)
  refine Ev.val 8 fun k => ?_
  unfold impl_takeNumber.f impl_within.f
  rw [if_pos (by omega)]
  simp only [Option.bind_some, decide_eq_true_eq]
  rw [if_pos (by omega)]
  unfold takeP
  have n0 : p + ((0 : Nat) : Int) = p := by omega
  have n1 : p + ((1 : Nat) : Int) = p + 1 := by omega
  have n2 : p + ((2 : Nat) : Int) = p + 2 := by omega
  show impl_takeNumber.l0 (k + 8) t p 0 ((0 : Nat) : Int) = _
  by_cases a0 : (t.size : Int) ≤ p
  · rw [if_pos a0, ntake_end _ _ _ _ _ h0 (by omega) (by omega) h1 h2]
  rw [if_neg a0, ntake_round _ _ _ _ _ h0 (by omega) h2 (by omega) (by omega) (by omega), n0]
  by_cases b0 : bt t p < 128
  · rw [if_pos b0, if_pos b0, if_neg (by simp), if_neg (by simp; omega)]; simp
  rw [if_neg b0, if_neg b0, if_neg (by omega)]
  by_cases a1 : (t.size : Int) ≤ p + 1
  · rw [if_pos a1, ntake_end _ _ _ _ _ h0 (by omega) (by omega) h1 h2]
  rw [if_neg a1, ntake_round _ _ _ _ _ h0 (by omega) h2 (by simp; omega) (by simp; omega) (by omega), n1]
  by_cases b1 : bt t (p + 1) < 128
  · rw [if_pos b1, if_pos b1]
    by_cases z : bt t (p + 1) = 0
    · rw [if_pos z, if_pos ⟨z, by omega⟩]
    · rw [if_neg z, if_neg (fun h => z h.1), if_neg (by simp; omega)]; simp
  rw [if_neg b1, if_neg b1, if_neg (by omega)]
  by_cases a2 : (t.size : Int) ≤ p + 2
  · rw [if_pos a2, ntake_end _ _ _ _ _ h0 (by omega) (by omega) h1 h2]
  rw [if_neg a2, ntake_round _ _ _ _ _ h0 (by omega) h2 (by simp; omega) (by simp; omega) (by omega), n2]
  by_cases b2 : 128 ≤ bt t (p + 2)
  · rw [if_pos b2, if_neg (by omega), if_pos rfl]
  rw [if_neg b2, if_pos (by omega)]
  by_cases z : bt t (p + 2) = 0
  · rw [if_pos z, if_pos ⟨z, by omega⟩]
  have q2 : ¬ (bt t (p + 2) = 0 ∧ 0 < 2) := fun h => z h.1
  rw [if_neg z, if_neg q2]
  have e : 0 + (bt t p - 128) * 2 ^ (7 * 0) + (bt t (p + 1) - 128) * 2 ^ (7 * 1) + bt t (p + 2) * 2 ^ (7 * 2) = bt t p - 128 + (bt t (p + 1) - 128) * 128 + bt t (p + 2) * 16384 := by simp
  rw [e]
  by_cases c : 999999 < bt t p - 128 + (bt t (p + 1) - 128) * 128 + bt t (p + 2) * 16384
  · rw [if_pos c, if_pos c]
  · rw [if_neg c, if_neg c]
end Go.Proofs.Ytfafehhallbjiaa.H
set_option linter.unusedVariables false
set_option linter.unusedSimpArgs false
namespace Go.Proofs.Ytfafehhallbjiaa.H
open Go.RowKit Go.Proofs.YtfafehhallbjiaaW.PrintWords Go.Proofs.Ytfafehhallbjiaa.Q
def noS : ByteArray := ⟨#[]⟩
def takeTextP (t : ByteArray) (p : Int) : ByteArray × Int × Int :=
  if (takeP t p).2.2 = 0 then (if (takeP t p).1 > (t.size : Int) - (takeP t p).2.1 then (noS, 0, 8) else (t.extract (takeP t p).2.1.toNat ((takeP t p).2.1 + (takeP t p).1).toNat, (takeP t p).2.1 + (takeP t p).1, 0)) else (noS, 0, (takeP t p).2.2)
theorem l01TakeText_eq {t : ByteArray} {p : Int} (h0 : 0 ≤ p) (h1 : p ≤ t.size) (h2 : t.size ≤ 1048576) : Ev (fun k => spec_l01TakeText.f k t p) (takeTextP t p) := by
  refine (l01Take_eq h0 h1 h2).bind (Ev.const ?_)
  have ok := takeP_ok h0 h1
  unfold takeTextP
  generalize takeP t p = r at *
  obtain ⟨n, nx, c⟩ := r
  by_cases hc : c = 0
  · subst hc
    obtain ⟨n0, n1, n2, n3⟩ := ok rfl
    simp only at n0 n1 n2 n3
    have e1 : wrap64 ((t.size : Int) - nx) = t.size - nx := wid (by omega) (by omega)
    have e2 : wrap64 (nx + n) = nx + n := wid (by omega) (by omega)
    simp only [e1, e2, if_true]
    by_cases g : n > (t.size : Int) - nx
    · rw [if_pos g, if_pos g]; rfl
    · rw [if_neg g, if_neg g, if_pos (by omega), if_pos (by omega), if_pos (by omega)]
  · rw [if_neg hc, if_neg hc]; rfl
theorem takeText_in {t : ByteArray} {p : Int} (h0 : 0 ≤ p) (h1 : p ≤ t.size) (h2 : t.size ≤ 1048576) : Ev (fun k => impl_takeText.f k t p) (takeTextP t p) := by
  refine (takeNumber_in h0 h1 h2).bind (Ev.const ?_)
  have ok := takeP_ok h0 h1
  unfold takeTextP
  generalize takeP t p = r at *
  obtain ⟨n, nx, c⟩ := r
  by_cases hc : c = 0
  · subst hc
    obtain ⟨n0, n1, n2, n3⟩ := ok rfl
    simp only at n0 n1 n2 n3
    rw [← putS_size] at n2
    have hp := putS_len n
    simp only [if_true]
    rw [number_eq (by omega), Option.bind_some]
    have e0 : wrap64 (p + ((putS n).size : Int)) = nx := by rw [wid (by omega) (by omega)]; omega
    have e1 : wrap64 ((t.size : Int) - nx) = t.size - nx := wid (by omega) (by omega)
    have e2 : wrap64 (nx + n) = nx + n := wid (by omega) (by omega)
    simp only [e0, e1, e2]
    by_cases g : n > (t.size : Int) - nx
    · rw [if_pos g, if_pos g]; rfl
    · rw [if_neg g, if_neg g, if_pos (by omega), if_pos (by omega), if_pos (by omega)]
  · rw [if_neg hc, if_neg hc]; rfl
def isCO (t : ByteArray) : Bool := (t.extract 0 2).toList == ([67, 79] : List UInt8)
def readFrameP (t : ByteArray) : ByteArray × Int :=
  if (t.size : Int) < 5 then (noS, 3) else if isCO t = false then (noS, 3) else
  if (takeTextP t 2).2.2 = 0 then (if (takeTextP t 2).2.1 = (t.size : Int) - 2 then (if (sum2 (t.extract 0 (takeTextP t 2).2.1.toNat)).toList = (t.extract (takeTextP t 2).2.1.toNat t.size).toList then ((takeTextP t 2).1, 0) else (noS, 9)) else (noS, 8)) else (noS, (takeTextP t 2).2.2)
theorem takeTextP_ok {t : ByteArray} {p : Int} (h0 : 0 ≤ p) (h1 : p ≤ t.size) (h : (takeTextP t p).2.2 = 0) : 0 ≤ (takeTextP t p).2.1 ∧ (takeTextP t p).2.1 ≤ t.size := by
  have ok := takeP_ok h0 h1
  unfold takeTextP at h ⊢
  generalize takeP t p = r at *
  obtain ⟨n, nx, c⟩ := r
  simp only at h ⊢
  by_cases hc : c = 0
  · obtain ⟨n0, n1, n2, n3⟩ := ok hc
    simp only at n0 n1 n2 n3
    rw [if_pos hc] at h ⊢
    by_cases g : n > (t.size : Int) - nx
    · rw [if_pos g] at h; simp at h
    · rw [if_neg g]; show 0 ≤ nx + n ∧ nx + n ≤ t.size; omega
  · rw [if_neg hc] at h; exact absurd h hc
theorem last_two (t : ByteArray) (m : Nat) (h : m + 2 = t.size) : (t.extract m t.size).toList.map (fun b => (b.toNat : Int)) = [bt t m, bt t ((m : Int) + 1)] := by
  rw [Lib.extract_toList, drop_step t m (by omega), drop_step t (m + 1) (by omega), bt_nat t m (by omega), show ((m : Int) + 1) = ((m + 1 : Nat) : Int) by omega, bt_nat t (m + 1) (by omega), show t.size - m = 2 by omega]
  rfl
theorem map_inj (l l' : List UInt8) : l = l' ↔ l.map (fun b => (b.toNat : Int)) = l'.map (fun b => (b.toNat : Int)) :=
  ⟨fun h => by rw [h], fun h => (List.map_inj_right (fun x y hxy => by
    have h2 : x.toNat = y.toNat := by omega
    exact UInt8.toNat_inj.1 h2)).1 h⟩
theorem strOfNums_two (a b : Int) (h0 : 0 ≤ a) (h1 : a < 256) (h2 : 0 ≤ b) (h3 : b < 256) : (strOfNums [a, b]).toList.map (fun b => (b.toNat : Int)) = [a, b] := by
  rw [Lib.toList_data]
  simp [strOfNums, UInt8.toNat_ofNat']
  omega
theorem sum2_same (t u : ByteArray) (m : Nat) (h : m + 2 = t.size) : ((sum2 u).toList = (t.extract m t.size).toList) ↔ (bt t m = sumP u % 256 ∧ bt t ((m : Int) + 1) = sumP u / 256) := by
  have r := sumP_range u
  rw [map_inj, last_two t m h]
  unfold sum2
  rw [strOfNums_two _ _ (by omega) (by omega) (by omega) (by omega)]
  constructor
  · intro h; simp at h; omega
  · intro h; simp [h.1, h.2]
theorem l01ReadFrame_eq {t : ByteArray} (h2 : t.size ≤ 1048576) : Ev (fun k => spec_l01ReadFrame.f k t) (readFrameP t) := by
  unfold readFrameP
  by_cases h5 : (t.size : Int) < 5
  · rw [if_pos h5]
    refine Ev.val 1 fun k => ?_
    unfold spec_l01ReadFrame.f; rw [if_pos h5, spec_l01ReadFrame.j0, if_pos rfl]; rfl
  rw [if_neg h5]
  by_cases hc : isCO t = false
  · rw [if_pos hc]
    refine Ev.val 1 fun k => ?_
    unfold isCO at hc
    unfold spec_l01ReadFrame.f; rw [if_neg h5, if_pos (by decide), if_pos (by omega), spec_l01ReadFrame.j0, if_pos (by simpa [bne] using hc)]; rfl
  rw [if_neg hc]
  have hc' : isCO t = true := by simpa using hc
  refine Ev.step (f := ?f) (fun k => ?h) ?e
  case h => unfold spec_l01ReadFrame.f; rw [if_neg h5, if_pos (by decide), if_pos (by omega), spec_l01ReadFrame.j0, if_neg (by unfold isCO at hc'; simpa [bne] using hc')]
  refine (l01TakeText_eq (by omega) (by omega) h2).bind ?_
  have ok := takeTextP_ok (t := t) (p := 2) (by omega) (by omega)
  generalize takeTextP t 2 = r at *
  obtain ⟨s, nx, c⟩ := r
  dsimp only at ok ⊢
  by_cases hc : c = 0
  · obtain ⟨n0, n1⟩ := ok hc
    have e1 : wrap64 ((t.size : Int) - 2) = t.size - 2 := wid (by omega) (by omega)
    simp only [if_pos hc, e1]
    by_cases g : nx = (t.size : Int) - 2
    · obtain ⟨m, rfl⟩ : ∃ m : Nat, nx = m := ⟨nx.toNat, by omega⟩
      have hm : m + 2 = t.size := by omega
      have e2 : wrap64 ((m : Int) + 1) = m + 1 := wid (by omega) (by omega)
      have hs : (t.extract 0 m).size ≤ 1048576 := by simp; omega
      have r1 := bt_range t m
      have r2 := bt_range t ((m : Int) + 1)
      have e3 : wrap64 (bt t m) = bt t m := wid (by omega) (by omega)
      have e4 : wrap64 (bt t ((m : Int) + 1)) = bt t ((m : Int) + 1) := wid (by omega) (by omega)
      simp only [if_pos g, e2, e3, e4, Int.toNat_natCast]
      simp only [if_pos (show (0 : Int) ≤ m by omega), if_pos (show (m : Int) ≤ t.size by omega), if_pos (show (m : Int) < t.size by omega), if_pos (show (0 : Int) ≤ m + 1 by omega), if_pos (show (m : Int) + 1 < t.size by omega)]
      refine (l01Sum_eq hs).bind (Ev.const ?_)
      have hz := sumP_range (t.extract 0 m)
      have h2s := sum2_same t (t.extract 0 m) m hm
      generalize sumP (t.extract 0 m) = z at *
      have e5 : Int.tmod z 256 = z % 256 := tmodE (by omega)
      have e6 : wrap64 (Int.tdiv z 256) = z / 256 := by rw [tdivE (by omega)]; exact wid (by omega) (by omega)
      rw [e5, e6]
      by_cases q : (sum2 (t.extract 0 m)).toList = (t.extract m t.size).toList
      · rw [if_pos q, if_pos (h2s.1 q).1, if_pos (h2s.1 q).2]
      · rw [if_neg q]
        by_cases q1 : bt t m = z % 256
        · rw [if_pos q1, if_neg (fun q2 => q (h2s.2 ⟨q1, q2⟩))]; rfl
        · rw [if_neg q1]; rfl
    · simp only [if_neg g]; exact Ev.const rfl
  · simp only [if_neg hc]; exact Ev.const rfl
theorem readFrame_eq {t : ByteArray} (h2 : t.size ≤ 1048576) : Ev (fun k => impl_readFrame.f k t) (readFrameP t) := by
  unfold readFrameP
  by_cases h5 : (t.size : Int) < 5
  · rw [if_pos h5]
    refine Ev.val 1 fun k => ?_
    unfold impl_readFrame.f; rw [if_pos h5, impl_readFrame.j0, if_pos rfl]; rfl
  rw [if_neg h5]
  have hp : strings_HasPrefix.f t (⟨#[67, 79]⟩ : ByteArray) = some (isCO t) := by
    unfold strings_HasPrefix.f stringslite_HasPrefix.f
    have : (⟨#[67, 79]⟩ : ByteArray).size = 2 := rfl
    rw [this, if_pos (by omega), if_pos (by omega), if_pos (by omega), Option.bind_some, Lib.toList_data ⟨#[67, 79]⟩]; rfl
  by_cases hc : isCO t = false
  · rw [if_pos hc]
    refine Ev.val 1 fun k => ?_
    unfold impl_readFrame.f; rw [if_neg h5, hp, Option.bind_some, impl_readFrame.j0, if_pos (by rw [hc]; rfl)]; rfl
  rw [if_neg hc]
  have hc' : isCO t = true := by simpa using hc
  have hh : ∀ k, impl_readFrame.f k t = impl_readFrame.j0 k t (!isCO t) := fun k => by unfold impl_readFrame.f; rw [if_neg h5, hp, Option.bind_some]
  refine Ev.step (fun k => (hh (k + 1)).trans ((impl_readFrame.j0.eq_2 _ _ _).trans (if_neg (by rw [hc']; decide)))) ?_
  refine (takeText_in (by omega) (by omega) h2).bind ?_
  have ok := takeTextP_ok (t := t) (p := 2) (by omega) (by omega)
  generalize takeTextP t 2 = r at *
  obtain ⟨s, nx, c⟩ := r
  dsimp only at ok ⊢
  by_cases hc : c = 0
  · obtain ⟨n0, n1⟩ := ok hc
    have e1 : wrap64 (nx + 2) = nx + 2 := wid (by omega) (by omega)
    simp only [if_pos hc, e1]
    by_cases g : nx = (t.size : Int) - 2
    · simp only [if_pos g, if_pos (show (t.size : Int) = nx + 2 by omega), if_pos n0, if_pos n1]
      refine (sumText_eq (by simp; omega)).bind (Ev.const ?_)
      by_cases q : (sum2 (t.extract 0 nx.toNat)).toList = (t.extract nx.toNat t.size).toList
      · rw [if_pos q, if_pos q]
      · rw [if_neg q, if_neg q]; rfl
    · simp only [if_neg g, if_neg (show ¬ (t.size : Int) = nx + 2 by omega)]; exact Ev.const rfl
  · simp only [if_neg hc]; exact Ev.const rfl
end Go.Proofs.Ytfafehhallbjiaa.H
set_option linter.unusedVariables false
set_option linter.unusedSimpArgs false
namespace Go.Proofs.Ytfafehhallbjiaa.H
open Go.RowKit Go.Proofs.YtfafehhallbjiaaW.PrintWords Go.Proofs.YtfafehhallbjiaaW.PrintLast Go.Proofs.YtfafehhallbjiaaW.PrintMore Go.Proofs.Ytfafehhallbjiaa.Q
def StOK (s : St) : Prop := 0 ≤ s.2.1 ∧ s.2.1 ≤ s.1.size ∧ s.1.size ≤ 65536
theorem takeP_err (t : ByteArray) (p : Int) : (takeP t p).2.2 = 0 ∨ (takeP t p).1 = 0 := by
  unfold takeP
  repeat' split
  all_goals simp
theorem takeTextP_err (t : ByteArray) (p : Int) : (takeTextP t p).2.2 = 0 ∨ (takeTextP t p).1 = noS := by
  unfold takeTextP
  split
  · split
    · right; rfl
    · left; rfl
  · right; rfl
def numP (s : St) : Int × St := if s.2.2 = 0 then (if (takeP s.1 s.2.1).2.2 = 0 then ((takeP s.1 s.2.1).1, s.1, (takeP s.1 s.2.1).2.1, 0) else (0, s.1, s.2.1, (takeP s.1 s.2.1).2.2)) else (0, s)
def strP (s : St) : ByteArray × St := if s.2.2 = 0 then (if (takeTextP s.1 s.2.1).2.2 = 0 then ((takeTextP s.1 s.2.1).1, s.1, (takeTextP s.1 s.2.1).2.1, 0) else (noS, s.1, s.2.1, (takeTextP s.1 s.2.1).2.2)) else (noS, s)
theorem numP_ok {s : St} (h : StOK s) : StOK (numP s).2 := by
  obtain ⟨t, p, c⟩ := s
  obtain ⟨h0, h1, h2⟩ := h
  simp only at h0 h1 h2
  have ok := takeP_ok h0 h1
  unfold numP
  simp only
  split
  · split
    · rename_i g
      obtain ⟨n0, n1, n2, n3⟩ := ok g
      exact ⟨by show 0 ≤ (takeP t p).2.1; omega, n3, h2⟩
    · exact ⟨h0, h1, h2⟩
  · exact ⟨h0, h1, h2⟩
theorem strP_ok {s : St} (h : StOK s) : StOK (strP s).2 := by
  obtain ⟨t, p, c⟩ := s
  obtain ⟨h0, h1, h2⟩ := h
  simp only at h0 h1 h2
  unfold strP
  simp only
  split
  · split
    · rename_i g
      have := takeTextP_ok h0 h1 g
      exact ⟨this.1, this.2, h2⟩
    · exact ⟨h0, h1, h2⟩
  · exact ⟨h0, h1, h2⟩
theorem num_in {s : St} (h : StOK s) : Ev (fun k => num k s) (numP s) := by
  obtain ⟨t, p, c⟩ := s
  obtain ⟨h0, h1, h2⟩ := h
  simp only at h0 h1 h2
  unfold num impl_reader_number.f numP
  simp only
  by_cases c0 : c = 0
  · simp only [if_pos c0]
    refine (takeNumber_in h0 h1 (by omega)).bind (Ev.const ?_)
    have ok := takeP_ok h0 h1
    have er := takeP_err t p
    generalize takeP t p = r at *
    obtain ⟨n, nx, cd⟩ := r
    simp only at ok er ⊢
    by_cases c1 : cd = 0
    · obtain ⟨n0, n1, n2, n3⟩ := ok c1
      simp only at n0 n1 n2 n3
      rw [if_pos c1, if_pos c1, number_eq (by omega), Option.bind_some, putS_size, wid (by omega) (by omega), ← n2]
    · rw [if_neg c1, if_neg c1]
      rcases er with er | er
      · exact absurd er c1
      · rw [er]
  · simp only [if_neg c0]; exact Ev.const rfl
theorem str_in {s : St} (h : StOK s) : Ev (fun k => str k s) (strP s) := by
  obtain ⟨t, p, c⟩ := s
  obtain ⟨h0, h1, h2⟩ := h
  simp only at h0 h1 h2
  unfold str impl_reader_string.f strP
  simp only
  by_cases c0 : c = 0
  · simp only [if_pos c0]
    refine (takeText_in h0 h1 (by omega)).bind (Ev.const ?_)
    have er := takeTextP_err t p
    generalize takeTextP t p = r at *
    obtain ⟨n, nx, cd⟩ := r
    simp only at er ⊢
    by_cases c1 : cd = 0
    · rw [if_pos c1, if_pos c1]
    · rw [if_neg c1, if_neg c1]
      rcases er with er | er
      · exact absurd er c1
      · rw [er]
  · simp only [if_neg c0]; exact Ev.const rfl
theorem num_es {s : St} (h : StOK s) : Ev (fun k => numS k s) (numP s) := by
  obtain ⟨t, p, c⟩ := s
  obtain ⟨h0, h1, h2⟩ := h
  simp only at h0 h1 h2
  unfold numS spec_l10Reader_number.f numP
  simp only
  by_cases c0 : c = 0
  · simp only [if_pos c0]
    refine (l01Take_eq h0 h1 (by omega)).bind (Ev.const ?_)
    generalize takeP t p = r at *
    obtain ⟨n, nx, cd⟩ := r
    simp only
    by_cases c1 : cd = 0
    · rw [if_pos c1, if_pos c1, c1]
    · rw [if_neg c1, if_neg c1]
  · simp only [if_neg c0]; exact Ev.const rfl
theorem str_es {s : St} (h : StOK s) : Ev (fun k => strS k s) (strP s) := by
  obtain ⟨t, p, c⟩ := s
  obtain ⟨h0, h1, h2⟩ := h
  simp only at h0 h1 h2
  unfold strS spec_l10Reader_text.f strP
  simp only
  by_cases c0 : c = 0
  · simp only [if_pos c0]
    refine (l01TakeText_eq h0 h1 (by omega)).bind (Ev.const ?_)
    generalize takeTextP t p = r at *
    obtain ⟨n, nx, cd⟩ := r
    simp only
    by_cases c1 : cd = 0
    · rw [if_pos c1, if_pos c1, c1]
    · rw [if_neg c1, if_neg c1]; rfl
  · simp only [if_neg c0]; exact Ev.const rfl
def endP (s : St) : Int := if s.2.2 = 0 ∧ s.2.1 < s.1.size then 8 else s.2.2
theorem end_in {s : St} (h : StOK s) : (impl_reader_end.f s.1 s.2.1 s.2.2) = some (endP s, s) := by
  obtain ⟨t, p, c⟩ := s
  obtain ⟨h0, h1, h2⟩ := h
  simp only at h0 h1 h2
  unfold impl_reader_end.f endP
  simp only
  by_cases c0 : c = 0
  · by_cases c1 : p < (t.size : Int)
    · rw [if_pos c0, if_pos c1, if_pos ⟨c0, c1⟩]
    · rw [if_pos c0, if_neg c1, if_neg (fun h => c1 h.2)]
  · rw [if_neg c0, if_neg (fun h => c0 h.1)]
theorem end_es {s : St} (h : StOK s) : (spec_l10Reader_end.f s.1 s.2.1 s.2.2) = some (endP s, s) := by
  obtain ⟨t, p, c⟩ := s
  obtain ⟨h0, h1, h2⟩ := h
  simp only at h0 h1 h2
  unfold spec_l10Reader_end.f endP
  simp only
  by_cases c0 : c = 0
  · by_cases c1 : p < (t.size : Int)
    · rw [if_pos c0, if_neg (by omega), if_pos ⟨c0, c1⟩]
    · rw [if_pos c0, if_pos (by omega), if_neg (fun h => c1 h.2)]
  · rw [if_neg c0, if_neg (fun h => c0 h.1)]
theorem readFrameP_size (t : ByteArray) (h : t.size ≤ 65536) : (readFrameP t).1.size ≤ 65536 := by
  unfold readFrameP takeTextP
  have z : noS.size ≤ 65536 := by show 0 ≤ 65536; omega
  have e : ∀ i j, (t.extract i j).size ≤ 65536 := fun i j => by rw [ByteArray.size_extract]; omega
  repeat' split
  all_goals first
    | exact z
    | exact e _ _
end Go.Proofs.Ytfafehhallbjiaa.H
set_option linter.unusedVariables false
set_option linter.unusedSimpArgs false
namespace Go.Proofs.Ytfafehhallbjiaa.H
open Go.RowKit Go.Proofs.YtfafehhallbjiaaW.PrintWords Go.Proofs.YtfafehhallbjiaaW.PrintLast Go.Proofs.YtfafehhallbjiaaW.PrintMore Go.Proofs.Ytfafehhallbjiaa.Q
theorem numP_stop {s : St} (h : s.2.2 ≠ 0) : numP s = (0, s) := by unfold numP; rw [if_neg h]
theorem strP_stop {s : St} (h : s.2.2 ≠ 0) : strP s = (noS, s) := by unfold strP; rw [if_neg h]
theorem numP_range {s : St} (h : StOK s) : 0 ≤ (numP s).1 ∧ (numP s).1 ≤ 999999 := by
  obtain ⟨t, p, c⟩ := s
  obtain ⟨h0, h1, h2⟩ := h
  simp only at h0 h1 h2
  have ok := takeP_ok h0 h1
  unfold numP
  simp only
  split
  · split
    · rename_i g
      obtain ⟨n0, n1, n2, n3⟩ := ok g
      exact ⟨by show 0 ≤ (takeP t p).1; omega, by show (takeP t p).1 ≤ 999999; omega⟩
    · exact ⟨show (0 : Int) ≤ 0 by decide, show (0 : Int) ≤ 999999 by decide⟩
  · exact ⟨show (0 : Int) ≤ 0 by decide, show (0 : Int) ≤ 999999 by decide⟩
def chk (m : Int) (s : St) : St := if (numP s).1 > m ∧ (numP s).2.2.2 = 0 then ((numP s).2.1, (numP s).2.2.1, 6) else (numP s).2
def cnt (m : Int) (s : St) : Int := if (chk m s).2.2 = 0 then (numP s).1 else 0
theorem chk_ok {m : Int} {s : St} (h : StOK s) : StOK (chk m s) := by
  have := numP_ok h
  unfold chk
  split
  · exact this
  · exact this
theorem chk_stop {m : Int} {s : St} (h : s.2.2 ≠ 0) : chk m s = s := by
  unfold chk
  rw [numP_stop h, if_neg (fun h2 => h h2.2)]
theorem cnt_range {m : Int} {s : St} (h : StOK s) (hm : 0 ≤ m) : 0 ≤ cnt m s ∧ cnt m s ≤ m := by
  have hr := numP_range h
  unfold cnt chk
  by_cases g : (numP s).1 > m ∧ (numP s).2.2.2 = 0
  · rw [if_pos g, if_neg (show ¬ (6 : Int) = 0 by decide)]; exact ⟨by decide, hm⟩
  · rw [if_neg g]
    by_cases g2 : (numP s).2.2.2 = 0
    · rw [if_pos g2]; exact ⟨hr.1, by rcases Int.lt_or_le m (numP s).1 with q | q; exact absurd ⟨q, g2⟩ g; exact q⟩
    · rw [if_neg g2]; exact ⟨by decide, hm⟩
theorem many_in {m : Int} {s : St} (h : StOK s) : Ev (fun k => impl_reader_many.f k s.1 s.2.1 s.2.2 m) (cnt m s, chk m s) := by
  unfold impl_reader_many.f
  refine (num_in h).bind (Ev.const ?_)
  unfold cnt chk
  obtain ⟨n, t, a, c⟩ := numP s
  simp only
  by_cases g2 : c = 0
  · rw [if_pos g2]
    by_cases g : n > m
    · have e : (if n > m ∧ c = 0 then ((t, a, 6) : St) else (t, a, c)) = (t, a, 6) := if_pos ⟨g, g2⟩
      rw [if_pos g, e, if_neg (show ¬ (6 : Int) = 0 by decide)]
    · have e : (if n > m ∧ c = 0 then ((t, a, 6) : St) else (t, a, c)) = (t, a, c) := if_neg (fun h => g h.1)
      rw [if_neg g, e, if_pos g2, g2]
  · have e : (if n > m ∧ c = 0 then ((t, a, 6) : St) else (t, a, c)) = (t, a, c) := if_neg (fun h => g2 h.2)
    rw [if_neg g2, e, if_neg g2]
def kidsI : Nat → List Int → St → List Int × St
  | 0, l, s => (l, s)
  | n + 1, l, s => kidsI n (l ++ [(numP s).1]) (numP s).2
def kidsS : Nat → List Int → St → List Int × St
  | 0, l, s => (l, s)
  | n + 1, l, s => if s.2.2 = 0 then kidsS n (l ++ [(numP s).1]) (numP s).2 else (l, s)
theorem kidsI_stop : ∀ (n : Nat) (l : List Int) (s : St), s.2.2 ≠ 0 → (kidsI n l s).2 = s
  | 0, _, _, _ => rfl
  | n + 1, l, s, h => by
    show (kidsI n (l ++ [(numP s).1]) (numP s).2).2 = s
    rw [numP_stop h]; exact kidsI_stop n _ s h
theorem kids_eq : ∀ (n : Nat) (l : List Int) (s : St), (kidsI n l s).2 = (kidsS n l s).2 ∧ ((kidsS n l s).2.2.2 = 0 → kidsI n l s = kidsS n l s)
  | 0, _, _ => ⟨rfl, fun _ => rfl⟩
  | n + 1, l, s => by
    by_cases h : s.2.2 = 0
    · have e1 : kidsS (n + 1) l s = kidsS n (l ++ [(numP s).1]) (numP s).2 := by show (if s.2.2 = 0 then _ else _) = _; rw [if_pos h]
      have e2 : kidsI (n + 1) l s = kidsI n (l ++ [(numP s).1]) (numP s).2 := rfl
      rw [e1, e2]; exact kids_eq n _ _
    · have e1 : kidsS (n + 1) l s = (l, s) := by show (if s.2.2 = 0 then _ else _) = _; rw [if_neg h]
      rw [e1]
      exact ⟨kidsI_stop _ _ _ h, fun h2 => absurd h2 h⟩
theorem kidsI_ok : ∀ (n : Nat) (l : List Int) (s : St), StOK s → StOK (kidsI n l s).2
  | 0, _, _, h => h
  | n + 1, l, s, h => kidsI_ok n _ _ (numP_ok h)
theorem kidsS_ok (n : Nat) (l : List Int) (s : St) (h : StOK s) : StOK (kidsS n l s).2 := by rw [← (kids_eq n l s).1]; exact kidsI_ok n l s h
theorem kidsI_all : ∀ (n : Nat) (l : List Int) (s : St), StOK s → (∀ x ∈ l, 0 ≤ x ∧ x ≤ 999999) → ∀ x ∈ (kidsI n l s).1, 0 ≤ x ∧ x ≤ 999999
  | 0, _, _, _, hl => hl
  | n + 1, l, s, h, hl => kidsI_all n _ _ (numP_ok h) (fun x hx => by
    rcases List.mem_append.1 hx with hx | hx
    · exact hl x hx
    · rw [List.mem_singleton.1 hx]; exact numP_range h)
theorem kidsI_len : ∀ (n : Nat) (l : List Int) (s : St), (kidsI n l s).1.length = l.length + n
  | 0, _, _ => rfl
  | n + 1, l, s => by
    show (kidsI n (l ++ [(numP s).1]) (numP s).2).1.length = _
    rw [kidsI_len n]; simp; omega
def hd1 (s : St) : St := (numP s).2
def hd2 (s : St) : St := (numP (hd1 s)).2
def hd3 (s : St) : St := (numP (hd2 s)).2
def hd4 (s : St) : St := (strP (hd3 s)).2
theorem hd4_ok {s : St} (h : StOK s) : StOK (hd1 s) ∧ StOK (hd2 s) ∧ StOK (hd3 s) ∧ StOK (hd4 s) :=
  ⟨numP_ok h, numP_ok (numP_ok h), numP_ok (numP_ok (numP_ok h)), strP_ok (numP_ok (numP_ok (numP_ok h)))⟩
theorem hd4_stop {s : St} (h : s.2.2 ≠ 0) : hd4 s = s := by
  unfold hd4 hd3 hd2 hd1
  rw [numP_stop h]; simp only; rw [numP_stop h]; simp only; rw [numP_stop h]; simp only; rw [strP_stop h]
def mkN (s : St) (l : List Int) : Nd := ⟨(numP s).1, (numP (hd1 s)).1, (numP (hd2 s)).1, (strP (hd3 s)).1, l⟩
def nodeI (s : St) : Nd × St := (mkN s (kidsI (cnt 12 (hd4 s)).toNat [] (chk 12 (hd4 s))).1, (kidsI (cnt 12 (hd4 s)).toNat [] (chk 12 (hd4 s))).2)
def nodeS (s : St) : Nd × St := (mkN s (kidsS (numP (hd4 s)).1.toNat [] (chk 12 (hd4 s))).1, (kidsS (numP (hd4 s)).1.toNat [] (chk 12 (hd4 s))).2)
theorem kidsS_stop (n : Nat) (l : List Int) (s : St) (h : s.2.2 ≠ 0) : kidsS n l s = (l, s) := by
  cases n with
  | zero => rfl
  | succ n => show (if s.2.2 = 0 then _ else _) = _; rw [if_neg h]
theorem node_eq (s : St) : (nodeI s).2 = (nodeS s).2 ∧ ((nodeS s).2.2.2 = 0 → nodeI s = nodeS s) := by
  by_cases h : (chk 12 (hd4 s)).2.2 = 0
  · have e : cnt 12 (hd4 s) = (numP (hd4 s)).1 := by unfold cnt; rw [if_pos h]
    obtain ⟨h1, h2⟩ := kids_eq (numP (hd4 s)).1.toNat [] (chk 12 (hd4 s))
    unfold nodeI nodeS
    rw [e]
    exact ⟨h1, fun h3 => by rw [h2 h3]⟩
  · have e : cnt 12 (hd4 s) = 0 := by unfold cnt; rw [if_neg h]
    unfold nodeI nodeS
    rw [e, kidsS_stop _ _ _ h]
    exact ⟨rfl, fun h3 => absurd h3 h⟩
theorem nodeI_stop {s : St} (h : s.2.2 ≠ 0) : (nodeI s).2 = s := by
  unfold nodeI
  simp only
  rw [hd4_stop h, chk_stop h]
  exact kidsI_stop _ _ _ h
theorem nodeI_ok {s : St} (h : StOK s) : StOK (nodeI s).2 := kidsI_ok _ _ _ (chk_ok (hd4_ok h).2.2.2)
theorem nodeS_ok {s : St} (h : StOK s) : StOK (nodeS s).2 := kidsS_ok _ _ _ (chk_ok (hd4_ok h).2.2.2)
def nodesI : Nat → List Nd → St → List Nd × St
  | 0, l, s => (l, s)
  | n + 1, l, s => nodesI n (l ++ [(nodeI s).1]) (nodeI s).2
def nodesS : Nat → List Nd → St → List Nd × St
  | 0, l, s => (l, s)
  | n + 1, l, s => if s.2.2 = 0 then nodesS n (l ++ [(nodeS s).1]) (nodeS s).2 else (l, s)
theorem nodesI_stop : ∀ (n : Nat) (l : List Nd) (s : St), s.2.2 ≠ 0 → (nodesI n l s).2 = s
  | 0, _, _, _ => rfl
  | n + 1, l, s, h => by
    show (nodesI n (l ++ [(nodeI s).1]) (nodeI s).2).2 = s
    rw [nodeI_stop h]; exact nodesI_stop n _ s h
theorem nodesS_stop (n : Nat) (l : List Nd) (s : St) (h : s.2.2 ≠ 0) : nodesS n l s = (l, s) := by
  cases n with
  | zero => rfl
  | succ n => show (if s.2.2 = 0 then _ else _) = _; rw [if_neg h]
theorem nodes_eq : ∀ (n : Nat) (l : List Nd) (s : St), (nodesI n l s).2 = (nodesS n l s).2 ∧ ((nodesS n l s).2.2.2 = 0 → nodesI n l s = nodesS n l s)
  | 0, _, _ => ⟨rfl, fun _ => rfl⟩
  | n + 1, l, s => by
    by_cases h : s.2.2 = 0
    · have e1 : nodesS (n + 1) l s = nodesS n (l ++ [(nodeS s).1]) (nodeS s).2 := by show (if s.2.2 = 0 then _ else _) = _; rw [if_pos h]
      have e2 : nodesI (n + 1) l s = nodesI n (l ++ [(nodeI s).1]) (nodeI s).2 := rfl
      obtain ⟨q1, q2⟩ := node_eq s
      by_cases g : (nodeS s).2.2.2 = 0
      · rw [e1, e2, q2 g]; exact nodes_eq n _ _
      · rw [e1, e2, q1, nodesS_stop _ _ _ g]
        exact ⟨nodesI_stop _ _ _ g, fun h3 => absurd h3 g⟩
    · rw [nodesS_stop _ _ _ h]
      exact ⟨nodesI_stop _ _ _ h, fun h2 => absurd h2 h⟩
theorem nodesI_ok : ∀ (n : Nat) (l : List Nd) (s : St), StOK s → StOK (nodesI n l s).2
  | 0, _, _, h => h
  | n + 1, l, s, h => nodesI_ok n _ _ (nodeI_ok h)
def KidR (x : Nd) : Prop := x.f4.length ≤ 12 ∧ ∀ k ∈ x.f4, 0 ≤ k ∧ k ≤ 999999
theorem nodeI_kids {s : St} (h : StOK s) : KidR (nodeI s).1 := by
  have hc := cnt_range (hd4_ok h).2.2.2 (show (0 : Int) ≤ 12 by decide)
  refine ⟨?_, kidsI_all _ _ _ (chk_ok (hd4_ok h).2.2.2) (by simp)⟩
  show (kidsI (cnt 12 (hd4 s)).toNat [] (chk 12 (hd4 s))).1.length ≤ 12
  rw [kidsI_len, List.length_nil]; omega
theorem nodesI_all : ∀ (n : Nat) (l : List Nd) (s : St), StOK s → (∀ x ∈ l, KidR x) → (∀ x ∈ (nodesI n l s).1, KidR x) ∧ (nodesI n l s).1.length = l.length + n
  | 0, _, _, _, hl => ⟨hl, rfl⟩
  | n + 1, l, s, h, hl => by
    obtain ⟨h1, h2⟩ := nodesI_all n (l ++ [(nodeI s).1]) _ (nodeI_ok h) (fun x hx => by
      rcases List.mem_append.1 hx with hx | hx
      · exact hl x hx
      · rw [List.mem_singleton.1 hx]; exact nodeI_kids h)
    refine ⟨h1, ?_⟩
    show (nodesI n (l ++ [(nodeI s).1]) (nodeI s).2).1.length = _
    rw [h2]; simp; omega
abbrev Dd := Int × Int × List Nd × St
def docI (s : St) : Dd := ((numP s).1, (numP (hd1 s)).1, nodesI (cnt 40 (hd2 s)).toNat [] (chk 40 (hd2 s)))
def docS (s : St) : Dd := ((numP s).1, (numP (hd1 s)).1, nodesS (numP (hd2 s)).1.toNat [] (chk 40 (hd2 s)))
theorem doc_eq (s : St) : (docI s).2.2.2 = (docS s).2.2.2 ∧ ((docS s).2.2.2.2.2 = 0 → docI s = docS s) := by
  by_cases h : (chk 40 (hd2 s)).2.2 = 0
  · have e : cnt 40 (hd2 s) = (numP (hd2 s)).1 := by unfold cnt; rw [if_pos h]
    obtain ⟨h1, h2⟩ := nodes_eq (numP (hd2 s)).1.toNat [] (chk 40 (hd2 s))
    unfold docI docS
    rw [e]
    exact ⟨h1, fun h3 => by rw [h2 h3]⟩
  · have e : cnt 40 (hd2 s) = 0 := by unfold cnt; rw [if_neg h]
    unfold docI docS
    rw [e, nodesS_stop _ _ _ h]
    exact ⟨rfl, fun h3 => absurd h3 h⟩
theorem docI_ok {s : St} (h : StOK s) : StOK (docI s).2.2.2 := nodesI_ok _ _ _ (chk_ok (hd4_ok h).2.1)
theorem docI_all {s : St} (h : StOK s) : (∀ x ∈ (docI s).2.2.1, KidR x) ∧ (docI s).2.2.1.length ≤ 40 := by
  have hc := cnt_range (hd4_ok h).2.1 (show (0 : Int) ≤ 40 by decide)
  obtain ⟨h1, h2⟩ := nodesI_all (cnt 40 (hd2 s)).toNat [] (chk 40 (hd2 s)) (chk_ok (hd4_ok h).2.1) (by simp)
  refine ⟨h1, ?_⟩
  show (nodesI (cnt 40 (hd2 s)).toNat [] (chk 40 (hd2 s))).1.length ≤ 40
  rw [h2, List.length_nil]; omega
theorem docI_64 {s : St} (h : StOK s) : All64 (docI s).1 (docI s).2.2.1 := by
  have hr := numP_range h
  refine ⟨⟨by show -9223372036854775808 ≤ (numP s).1; omega, by show (numP s).1 ≤ _; omega⟩, fun t ht k hk => ?_⟩
  have := (docI_all h).1 (rdN (docI s).2.2.1 (t : Int)) (by rw [rdN_get ht]; exact List.getElem_mem ht)
  have := this.2 k hk
  exact ⟨by omega, by omega⟩
theorem w_nx {i : Nat} (h : i ≤ 1000000) : wrap64 ((i : Int) + 1) = ((i + 1 : Nat) : Int) := by unfold wrap64; omega
section
variable (x11 x12 rt nx : Int) (a b c : Int) (d : ByteArray)
theorem kids_in (ns : List Nd) (hns : ns.length ≤ 1000) (r : Dd) : ∀ (n i : Nat) (l : List Int) (s : St), StOK s → i + n ≤ 1000 → l.length + n ≤ 1000 →
    Ev (fun k => impl_reader_doc.l0 k x11 (wrap64 (x12 + 1)) (kidsI n l s).2.1 (kidsI n l s).2.2.1 (kidsI n l s).2.2.2 rt nx (ns ++ [⟨a, b, c, d, (kidsI n l s).1⟩])) r →
    Ev (fun k => impl_reader_doc.l1 k x11 x12 ((i + n : Nat) : Int) (i : Int) s.1 s.2.1 s.2.2 rt nx ns a b c d l) r
  | 0, i, l, s, h, hi, hl, hr => by
    refine Ev.step (fun k => ?_) hr
    rw [impl_reader_doc.l1, if_neg (by omega), if_pos (by omega)]
    rfl
  | n + 1, i, l, s, h, hi, hl, hr => by
    have h2 := kids_in ns hns r n (i + 1) (l ++ [(numP s).1]) (numP s).2 (numP_ok h) (by omega) (by simp; omega) hr
    refine Ev.step (f := fun k => (num k s).bind fun y => impl_reader_doc.l1 k x11 x12 ((i + 1 + n : Nat) : Int) ((i + 1 : Nat) : Int) y.2.1 y.2.2.1 y.2.2.2 rt nx ns a b c d (l ++ [y.1])) (fun k => ?_) ((num_in h).bind h2)
    rw [impl_reader_doc.l1, if_pos (by omega), w_nx (by omega), show i + (n + 1) = i + 1 + n by omega]
    refine congrArg (Option.bind _) (funext fun y => ?_)
    rw [if_pos (by omega)]
theorem kids_es (ns : List Nd) (hns : ns.length ≤ 1000) (r : Dd) : ∀ (n i : Nat) (l : List Int) (s : St), StOK s → i + n ≤ 1000000 → i ≤ 1000000 → l.length + n ≤ 1000000 →
    Ev (fun k => spec_l10Reader_doc.l0 k x11 (wrap64 (x12 + 1)) (kidsS n l s).2.1 (kidsS n l s).2.2.1 (kidsS n l s).2.2.2 rt nx (ns ++ [⟨a, b, c, d, (kidsS n l s).1⟩])) r →
    Ev (fun k => spec_l10Reader_doc.l1 k x11 x12 ((i + n : Nat) : Int) (i : Int) s.1 s.2.1 s.2.2 rt nx ns a b c d l) r
  | 0, i, l, s, h, hi, _, hl, hr => by
    refine Ev.step (fun k => ?_) hr
    rw [spec_l10Reader_doc.l1, if_neg (by omega), if_pos (by omega)]
    rfl
  | n + 1, i, l, s, h, hi, hi2, hl, hr => by
    by_cases g : s.2.2 = 0
    · have e1 : kidsS (n + 1) l s = kidsS n (l ++ [(numP s).1]) (numP s).2 := by show (if s.2.2 = 0 then _ else _) = _; rw [if_pos g]
      rw [e1] at hr
      have h2 := kids_es ns hns r n (i + 1) (l ++ [(numP s).1]) (numP s).2 (numP_ok h) (by omega) (by omega) (by simp; omega) hr
      refine Ev.step (f := fun k => (numS k s).bind fun y => spec_l10Reader_doc.l1 k x11 x12 ((i + 1 + n : Nat) : Int) ((i + 1 : Nat) : Int) y.2.1 y.2.2.1 y.2.2.2 rt nx ns a b c d (l ++ [y.1])) (fun k => ?_) ((num_es h).bind h2)
      rw [spec_l10Reader_doc.l1, if_pos (by omega), if_pos g, w_nx (by omega), show i + (n + 1) = i + 1 + n by omega]
      refine congrArg (Option.bind _) (funext fun y => ?_)
      rw [if_pos (by omega)]
    · rw [kidsS_stop _ _ _ g] at hr
      refine Ev.step (fun k => ?_) hr
      rw [spec_l10Reader_doc.l1, if_pos (by omega), if_neg g, if_pos (by omega)]
end
theorem nodes_in (rt nx : Int) : ∀ (n i : Nat) (l : List Nd) (s : St), StOK s → i + n ≤ 1000 → l.length + n ≤ 1000 →
    Ev (fun k => impl_reader_doc.l0 k ((i + n : Nat) : Int) (i : Int) s.1 s.2.1 s.2.2 rt nx l) (rt, nx, nodesI n l s)
  | 0, i, l, s, h, hi, hl => by
    refine ⟨1, fun k hk => ?_⟩
    obtain ⟨k, rfl⟩ : ∃ j, k = j + 1 := ⟨k - 1, by omega⟩
    show impl_reader_doc.l0 (k + 1) _ _ _ _ _ _ _ _ = _
    rw [impl_reader_doc.l0, if_neg (by omega)]
    rfl
  | n + 1, i, l, s, h, hi, hl => by
    obtain ⟨o1, o2, o3, o4⟩ := hd4_ok h
    have hc := cnt_range o4 (show (0 : Int) ≤ 12 by decide)
    obtain ⟨m, hm⟩ : ∃ m : Nat, cnt 12 (hd4 s) = (m : Int) := ⟨(cnt 12 (hd4 s)).toNat, by omega⟩
    have h2 := nodes_in rt nx n (i + 1) (l ++ [(nodeI s).1]) (nodeI s).2 (nodeI_ok h) (by omega) (by simp; omega)
    have h3 := kids_in ((i + 1 + n : Nat) : Int) (i : Int) rt nx (numP s).1 (numP (hd1 s)).1 (numP (hd2 s)).1 (strP (hd3 s)).1 l (by omega) (rt, nx, nodesI n (l ++ [(nodeI s).1]) (nodeI s).2) m 0 [] (chk 12 (hd4 s)) (chk_ok o4) (by omega) (by simp; omega) (by
      rw [w_nx (by omega)]
      have e : nodeI s = (mkN s (kidsI m [] (chk 12 (hd4 s))).1, (kidsI m [] (chk 12 (hd4 s))).2) := by unfold nodeI; rw [hm, Int.toNat_natCast]
      have e1 : (nodeI s).2 = (kidsI m [] (chk 12 (hd4 s))).2 := by rw [e]
      have e2 : (⟨(numP s).1, (numP (hd1 s)).1, (numP (hd2 s)).1, (strP (hd3 s)).1, (kidsI m [] (chk 12 (hd4 s))).1⟩ : Nd) = (nodeI s).1 := by rw [e]; rfl
      rw [← e1, e2]; exact h2)
    refine Ev.step (f := fun k => (num k s).bind fun y1 => (num k y1.2).bind fun y2 => (num k y2.2).bind fun y3 => (str k y3.2).bind fun y4 => (impl_reader_many.f k y4.2.1 y4.2.2.1 y4.2.2.2 12).bind fun y5 => impl_reader_doc.l1 k ((i + 1 + n : Nat) : Int) (i : Int) y5.1 0 y5.2.1 y5.2.2.1 y5.2.2.2 rt nx l y1.1 y2.1 y3.1 y4.1 []) (fun k => ?_) ((num_in h).bind ((num_in o1).bind ((num_in o2).bind ((str_in o3).bind ((many_in o4).bind ?_)))))
    · rw [impl_reader_doc.l0, if_pos (by omega), show i + (n + 1) = i + 1 + n by omega]
      rfl
    · rw [hm]
      have e3 : ((0 + m : Nat) : Int) = (m : Int) := by omega
      rw [e3] at h3
      exact h3
theorem nodes_es (rt nx : Int) : ∀ (n i : Nat) (l : List Nd) (s : St), StOK s → i ≤ 1000 → (s.2.2 = 0 → i + n ≤ 1000 ∧ l.length + n ≤ 1000) →
    Ev (fun k => spec_l10Reader_doc.l0 k ((i + n : Nat) : Int) (i : Int) s.1 s.2.1 s.2.2 rt nx l) (rt, nx, nodesS n l s)
  | 0, i, l, s, h, hi, hl => by
    refine ⟨2, fun k hk => ?_⟩
    obtain ⟨k, rfl⟩ : ∃ j, k = j + 1 + 1 := ⟨k - 2, by omega⟩
    show spec_l10Reader_doc.l0 (k + 1 + 1) _ _ _ _ _ _ _ _ = _
    rw [spec_l10Reader_doc.l0, if_neg (by omega), spec_l10Reader_doc.j3, if_neg (by decide)]
    rfl
  | n + 1, i, l, s, h, hi, hl => by
    by_cases g : s.2.2 = 0
    case neg =>
      rw [nodesS_stop _ _ _ g]
      refine ⟨2, fun k hk => ?_⟩
      obtain ⟨k, rfl⟩ : ∃ j, k = j + 1 + 1 := ⟨k - 2, by omega⟩
      show spec_l10Reader_doc.l0 (k + 1 + 1) _ _ _ _ _ _ _ _ = _
      rw [spec_l10Reader_doc.l0, if_pos (by omega), spec_l10Reader_doc.j3, if_neg (by simpa using g)]
    obtain ⟨hi2, hl2⟩ := hl g
    obtain ⟨o1, o2, o3, o4⟩ := hd4_ok h
    have hrn := numP_range o4
    obtain ⟨m, hm⟩ : ∃ m : Nat, (numP (hd4 s)).1 = (m : Int) := ⟨(numP (hd4 s)).1.toNat, by omega⟩
    have e0 : nodesS (n + 1) l s = nodesS n (l ++ [(nodeS s).1]) (nodeS s).2 := by show (if s.2.2 = 0 then _ else _) = _; rw [if_pos g]
    rw [e0]
    have h2 := nodes_es rt nx n (i + 1) (l ++ [(nodeS s).1]) (nodeS s).2 (nodeS_ok h) (by omega) (fun _ => ⟨by omega, by simp; omega⟩)
    have h3 := kids_es ((i + 1 + n : Nat) : Int) (i : Int) rt nx (numP s).1 (numP (hd1 s)).1 (numP (hd2 s)).1 (strP (hd3 s)).1 l (by omega) (rt, nx, nodesS n (l ++ [(nodeS s).1]) (nodeS s).2) m 0 [] (chk 12 (hd4 s)) (chk_ok o4) (by omega) (by omega) (by simp; omega) (by
      rw [w_nx (by omega)]
      have e : nodeS s = (mkN s (kidsS m [] (chk 12 (hd4 s))).1, (kidsS m [] (chk 12 (hd4 s))).2) := by unfold nodeS; rw [hm, Int.toNat_natCast]
      have e1 : (nodeS s).2 = (kidsS m [] (chk 12 (hd4 s))).2 := by rw [e]
      have e2 : (⟨(numP s).1, (numP (hd1 s)).1, (numP (hd2 s)).1, (strP (hd3 s)).1, (kidsS m [] (chk 12 (hd4 s))).1⟩ : Nd) = (nodeS s).1 := by rw [e]; rfl
      rw [← e1, e2]; exact h2)
    rw [show ((0 + m : Nat) : Int) = (m : Int) by omega] at h3
    have h4 : ∀ st : St, st = chk 12 (hd4 s) → Ev (fun k => spec_l10Reader_doc.j5 k ((i + 1 + n : Nat) : Int) (i : Int) (m : Int) st.1 st.2.1 st.2.2 rt nx l (numP s).1 (numP (hd1 s)).1 (numP (hd2 s)).1 (strP (hd3 s)).1 []) (rt, nx, nodesS n (l ++ [(nodeS s).1]) (nodeS s).2) := fun st e => by
      subst e
      exact Ev.step (fun k => by rw [spec_l10Reader_doc.j5]; rfl) h3
    refine Ev.step (f := fun k => spec_l10Reader_doc.j3 k ((i + 1 + n : Nat) : Int) (i : Int) (s.2.2 == 0) s.1 s.2.1 s.2.2 rt nx l) (fun k => ?_) (Ev.step (f := fun k => (numS k s).bind fun y1 => (numS k y1.2).bind fun y2 => (numS k y2.2).bind fun y3 => (strS k y3.2).bind fun y4 => (numS k y4.2).bind fun y5 => if y5.1 > 12 then spec_l10Reader_doc.j4 k ((i + 1 + n : Nat) : Int) (i : Int) y5.1 (y5.2.2.2 == 0) y5.2.1 y5.2.2.1 y5.2.2.2 rt nx l y1.1 y2.1 y3.1 y4.1 [] else spec_l10Reader_doc.j4 k ((i + 1 + n : Nat) : Int) (i : Int) y5.1 false y5.2.1 y5.2.2.1 y5.2.2.2 rt nx l y1.1 y2.1 y3.1 y4.1 []) (fun k => ?_) ((num_es h).bind ((num_es o1).bind ((num_es o2).bind ((str_es o3).bind ((num_es o4).bind ?_))))))
    · rw [spec_l10Reader_doc.l0, if_pos (by omega), show i + (n + 1) = i + 1 + n by omega]
    · rw [spec_l10Reader_doc.j3, if_pos (by simpa using g)]
      rfl
    · by_cases q : (numP (hd4 s)).1 > 12
      · by_cases q2 : (numP (hd4 s)).2.2.2 = 0
        · refine Ev.step (f := fun k => spec_l10Reader_doc.j5 k ((i + 1 + n : Nat) : Int) (i : Int) (m : Int) (numP (hd4 s)).2.1 (numP (hd4 s)).2.2.1 6 rt nx l (numP s).1 (numP (hd1 s)).1 (numP (hd2 s)).1 (strP (hd3 s)).1 []) (fun k => ?_) (h4 ((numP (hd4 s)).2.1, (numP (hd4 s)).2.2.1, 6) (by unfold chk; rw [if_pos ⟨q, q2⟩]))
          show (if (numP (hd4 s)).1 > 12 then _ else _) = _
          rw [if_pos q, spec_l10Reader_doc.j4, if_pos (by simpa using q2), hm]
        · refine Ev.step (f := fun k => spec_l10Reader_doc.j5 k ((i + 1 + n : Nat) : Int) (i : Int) (m : Int) (numP (hd4 s)).2.1 (numP (hd4 s)).2.2.1 (numP (hd4 s)).2.2.2 rt nx l (numP s).1 (numP (hd1 s)).1 (numP (hd2 s)).1 (strP (hd3 s)).1 []) (fun k => ?_) (h4 (numP (hd4 s)).2 (by unfold chk; rw [if_neg (fun h => q2 h.2)]))
          show (if (numP (hd4 s)).1 > 12 then _ else _) = _
          rw [if_pos q, spec_l10Reader_doc.j4, if_neg (by simpa using q2), hm]
      · refine Ev.step (f := fun k => spec_l10Reader_doc.j5 k ((i + 1 + n : Nat) : Int) (i : Int) (m : Int) (numP (hd4 s)).2.1 (numP (hd4 s)).2.2.1 (numP (hd4 s)).2.2.2 rt nx l (numP s).1 (numP (hd1 s)).1 (numP (hd2 s)).1 (strP (hd3 s)).1 []) (fun k => ?_) (h4 (numP (hd4 s)).2 (by unfold chk; rw [if_neg (fun h => q h.1)]))
        show (if (numP (hd4 s)).1 > 12 then _ else _) = _
        rw [if_neg q, spec_l10Reader_doc.j4, if_neg (by decide), hm]
theorem doc_in {s : St} (h : StOK s) : Ev (fun k => impl_reader_doc.f k s.1 s.2.1 s.2.2) (docI s) := by
  obtain ⟨o1, o2, o3, o4⟩ := hd4_ok h
  have hc := cnt_range o2 (show (0 : Int) ≤ 40 by decide)
  obtain ⟨m, hm⟩ : ∃ m : Nat, cnt 40 (hd2 s) = (m : Int) := ⟨(cnt 40 (hd2 s)).toNat, by omega⟩
  unfold impl_reader_doc.f docI
  refine (num_in h).bind ((num_in o1).bind ((many_in o2).bind ?_))
  have := nodes_in (numP s).1 (numP (hd1 s)).1 m 0 [] (chk 40 (hd2 s)) (chk_ok o2) (by omega) (by simp; omega)
  rw [show ((0 + m : Nat) : Int) = (m : Int) by omega] at this
  rw [hm, Int.toNat_natCast]
  exact this
theorem doc_es {s : St} (h : StOK s) : Ev (fun k => spec_l10Reader_doc.f k s.1 s.2.1 s.2.2) (docS s) := by
  obtain ⟨o1, o2, o3, o4⟩ := hd4_ok h
  have hrn := numP_range o2
  obtain ⟨m, hm⟩ : ∃ m : Nat, (numP (hd2 s)).1 = (m : Int) := ⟨(numP (hd2 s)).1.toNat, by omega⟩
  unfold spec_l10Reader_doc.f docS
  refine (num_es h).bind ?_
  simp only [Option.bind_some]
  refine (num_es o1).bind ((num_es o2).bind ?_)
  have key : ∀ st : St, st = chk 40 (hd2 s) → Ev (fun k => spec_l10Reader_doc.j1 k (m : Int) st.1 st.2.1 st.2.2 (numP s).1 (numP (hd1 s)).1 []) ((numP s).1, (numP (hd1 s)).1, nodesS (numP (hd2 s)).1.toNat [] (chk 40 (hd2 s))) := fun st e => by
    subst e
    have := nodes_es (numP s).1 (numP (hd1 s)).1 m 0 [] (chk 40 (hd2 s)) (chk_ok o2) (by omega) (fun g => by
      have hm40 : (m : Int) ≤ 40 := by
        have := cnt_range o2 (show (0 : Int) ≤ 40 by decide)
        unfold cnt at this
        rw [if_pos g] at this
        omega
      exact ⟨by omega, by simp; omega⟩)
    rw [show ((0 + m : Nat) : Int) = (m : Int) by omega] at this
    rw [hm, Int.toNat_natCast]
    exact Ev.step (fun k => by rw [spec_l10Reader_doc.j1]; rfl) this
  by_cases q : (numP (hd2 s)).1 > 40
  · by_cases q2 : (numP (hd2 s)).2.2.2 = 0
    · refine Ev.step (f := fun k => spec_l10Reader_doc.j1 k (m : Int) (numP (hd2 s)).2.1 (numP (hd2 s)).2.2.1 6 (numP s).1 (numP (hd1 s)).1 []) (fun k => ?_) (key ((numP (hd2 s)).2.1, (numP (hd2 s)).2.2.1, 6) (by unfold chk; rw [if_pos ⟨q, q2⟩]))
      show (if (numP (hd2 s)).1 > 40 then _ else _) = _
      rw [if_pos q, spec_l10Reader_doc.j0, if_pos (by simpa using q2), hm]
    · refine Ev.step (f := fun k => spec_l10Reader_doc.j1 k (m : Int) (numP (hd2 s)).2.1 (numP (hd2 s)).2.2.1 (numP (hd2 s)).2.2.2 (numP s).1 (numP (hd1 s)).1 []) (fun k => ?_) (key (numP (hd2 s)).2 (by unfold chk; rw [if_neg (fun h => q2 h.2)]))
      show (if (numP (hd2 s)).1 > 40 then _ else _) = _
      rw [if_pos q, spec_l10Reader_doc.j0, if_neg (by simpa using q2), hm]
  · refine Ev.step (f := fun k => spec_l10Reader_doc.j1 k (m : Int) (numP (hd2 s)).2.1 (numP (hd2 s)).2.2.1 (numP (hd2 s)).2.2.2 (numP s).1 (numP (hd1 s)).1 []) (fun k => ?_) (key (numP (hd2 s)).2 (by unfold chk; rw [if_neg (fun h => q h.1)]))
    show (if (numP (hd2 s)).1 > 40 then _ else _) = _
    rw [if_neg q, spec_l10Reader_doc.j0, if_neg (by decide), hm]
end Go.Proofs.Ytfafehhallbjiaa.H
set_option linter.unusedVariables false
set_option linter.unusedSimpArgs false
namespace Go.Proofs.Ytfafehhallbjiaa.H
open Go.RowKit Go.Proofs.YtfafehhallbjiaaW.PrintWords Go.Proofs.YtfafehhallbjiaaW.PrintLast Go.Proofs.YtfafehhallbjiaaW.PrintMore Go.Proofs.Ytfafehhallbjiaa.Q
theorem rdI {xs : List Int} {i : Nat} (h : i < xs.length) : rd xs (i : Int) = xs[i] := by unfold rd; rw [Int.toNat_natCast, List.getD_eq_getElem?_getD, List.getElem?_eq_getElem h]; rfl
theorem in_f (a b c : Int) : spec_l01In.f a b c = some (decide (b ≤ a ∧ a ≤ c)) := by
  unfold spec_l01In.f
  by_cases h : a ≥ b
  · rw [if_pos h]; congr 1; simp; omega
  · rw [if_neg h]; congr 1; simp; omega
theorem l02Has_loop (l : List Int) (a : Int) (hl : l.length ≤ 4096) (d : Nat) : ∀ (i k : Nat), i + d = l.length → spec_l02Has.l0 (k + d + 1) l a i = some (decide (a ∈ l.drop i)) := by
  induction d with
  | zero => intro i k hi; rw [spec_l02Has.l0, if_neg (by omega), List.drop_of_length_le (by omega)]; simp
  | succ d ih =>
    intro i k hi
    rw [spec_l02Has.l0, if_pos (by omega), if_pos (by omega), rdI (by omega), w64_nat (by omega), List.drop_eq_getElem_cons (by omega)]
    by_cases e : l[i] = a
    · rw [if_pos e]; simp [e]
    · rw [if_neg e, show k + (d + 1) = k + d + 1 by omega, ih (i + 1) k (by omega)]
      have : ¬ a = l[i] := fun h => e h.symm
      exact congrArg some (decide_eq_decide.2 ⟨fun h => List.mem_cons_of_mem _ h, fun h => (List.mem_cons.1 h).resolve_left this⟩)
theorem l02Has_eq {l : List Int} {a : Int} (hl : l.length ≤ 4096) : Ev (fun k => spec_l02Has.f k l a) (decide (a ∈ l)) :=
  Ev.val (l.length + 1) fun k => by
    have := l02Has_loop l a hl l.length 0 k (by omega)
    rw [List.drop_zero] at this
    exact this
def atP (ns : List Nd) (id : Int) : Int := match ns.findIdx? (fun x => x.f0 == id) with | some i => (i : Int) | none => -1
theorem l02At_loop (root next : Int) (ns : List Nd) (id : Int) (hl : ns.length ≤ 4096) (d : Nat) : ∀ (i k : Nat), i + d = ns.length → spec_l02At.l0 (k + d + 1) id i root next ns = some (match (ns.drop i).findIdx? (fun x => x.f0 == id) with | some j => ((i + j : Nat) : Int) | none => -1) := by
  induction d with
  | zero => intro i k hi; rw [spec_l02At.l0, if_neg (by omega), List.drop_of_length_le (by omega)]; rfl
  | succ d ih =>
    intro i k hi
    have hr := rdN_get (ns := ns) (t := i) (by omega)
    rw [spec_l02At.l0, if_pos (by omega), if_pos (by omega), show rd_T88 ns (i : Int) = ns[i] from hr, w64_nat (by omega), List.drop_eq_getElem_cons (by omega), List.findIdx?_cons]
    by_cases e : ns[i].f0 = id
    · rw [if_pos e]; simp [e]
    · rw [if_neg e, show k + (d + 1) = k + d + 1 by omega, ih (i + 1) k (by omega), if_neg (by simpa using e)]
      cases (ns.drop (i + 1)).findIdx? (fun x => x.f0 == id) with
      | none => rfl
      | some j =>
        show some (((i + 1 + j : Nat) : Int)) = some (((i + (j + 1) : Nat)) : Int)
        rw [show i + 1 + j = i + (j + 1) by omega]
theorem l02At_eq {root next : Int} {ns : List Nd} {id : Int} (hl : ns.length ≤ 4096) : Ev (fun k => spec_l02At.f k root next ns id) (atP ns id) :=
  Ev.val (ns.length + 1) fun k => by
    have := l02At_loop root next ns id hl ns.length 0 k (by omega)
    rw [List.drop_zero] at this
    refine this.trans ?_
    unfold atP
    cases ns.findIdx? (fun x => x.f0 == id) with
    | none => rfl
    | some j => simp
theorem atP_has {ns : List Nd} {id : Int} (h : hasP ns id = true) : ∃ t : Nat, t < ns.length ∧ atP ns id = t ∧ (rdN ns (t : Int)).f0 = id := by
  unfold atP
  cases e : ns.findIdx? (fun x => x.f0 == id) with
  | none =>
    rw [List.findIdx?_eq_none_iff] at e
    obtain ⟨x, hx, hp⟩ := List.any_eq_true.1 h
    exact absurd hp (by rw [e x hx]; decide)
  | some t =>
    obtain ⟨h1, h2, _⟩ := List.findIdx?_eq_some_iff_getElem.1 e
    exact ⟨t, h1, rfl, by rw [rdN_get h1]; simpa using h2⟩
theorem atP_no {ns : List Nd} {id : Int} (h : hasP ns id = false) : atP ns id = -1 := by
  unfold atP
  have : ns.findIdx? (fun x => x.f0 == id) = none := by
    rw [List.findIdx?_eq_none_iff]
    intro x hx
    exact by simpa using List.any_eq_false.1 h x hx
  rw [this]
theorem atP_iff {ns : List Nd} {id : Int} : 0 ≤ atP ns id ↔ hasP ns id = true := by
  cases h : hasP ns id with
  | true => obtain ⟨t, _, e, _⟩ := atP_has h; rw [e]; simp
  | false => rw [atP_no h]; simp
instance (next : Int) (x : Nd) : Decidable (NodeOK next x) := by unfold NodeOK; infer_instance
theorem l02Node_eq {next : Int} {x : Nd} (hn : 2 ≤ next ∧ next ≤ 999999) : spec_l02Node.f x.f0 x.f1 x.f2 x.f3 x.f4 next = some (decide (NodeOK next x)) := by
  have hw : wrap64 (next - 1) = next - 1 := by unfold wrap64; omega
  unfold spec_l02Node.f spec_l02Kind.f
  simp only [in_f, hw, Option.bind_some, decide_eq_true_eq]
  by_cases h1 : 1 ≤ x.f0 ∧ x.f0 ≤ next - 1
  · rw [if_pos h1]
    by_cases h2 : 1 ≤ x.f1 ∧ x.f1 ≤ 8
    · rw [if_pos h2]
      by_cases h3 : 0 ≤ x.f2 ∧ x.f2 ≤ 99
      · rw [if_pos h3]
        by_cases h4 : (x.f3.size : Int) ≤ 20
        · rw [if_pos h4]
          congr 1
          exact decide_eq_decide.2 ⟨fun h5 => ⟨h1, h2, h3, by omega, by omega⟩, fun h => by have := h.2.2.2.2; omega⟩
        · rw [if_neg h4]; congr 1; exact (decide_eq_false (fun h => h4 (by have := h.2.2.2.1; omega))).symm
      · rw [if_neg h3]; congr 1; exact (decide_eq_false (fun h => h3 h.2.2.1)).symm
    · rw [if_neg h2]; congr 1; exact (decide_eq_false (fun h => h2 h.2.1)).symm
  · rw [if_neg h1]; congr 1; exact (decide_eq_false (fun h => h1 h.1)).symm
def NODES (root next : Int) (ns : List Nd) : Prop := (∀ t : Nat, t < ns.length → StepOK next ns t) ∧ SetOK root ns (kidsAll ns) ∧ (kidsAll ns).length + 1 = ns.length ∧ hasP ns root = true
theorem Bk.no {b : Bool} {P : Prop} (h : Bk b P) (hn : ¬ P) : b = false := by cases b with | false => rfl | true => exact absurd (h.1 rfl) hn
theorem Bk.yes {b : Bool} {P : Prop} (h : Bk b P) (hn : P) : b = true := h.2 hn
theorem l02Nodes_loop {root next : Int} {ns : List Nd} (hn : 2 ≤ next ∧ next ≤ 999999) (hl : 1 ≤ ns.length ∧ ns.length ≤ 40) (b : Bool) (hb : Bk b (NODES root next ns)) (d : Nat) :
    ∀ i : Nat, i + d = ns.length → (∀ t : Nat, t < i → StepOK next ns t) → SetOK root ns (kidsTo ns i) → Ev (fun k => spec_l02Nodes.l0 k (kidsTo ns i) i root next ns) b := by
  induction d with
  | zero =>
    intro i hi hs hk
    obtain rfl : i = ns.length := by omega
    rw [kidsTo_all] at hk ⊢
    have hw : wrap64 ((ns.length : Int) - 1) = (ns.length : Int) - 1 := by unfold wrap64; omega
    by_cases e : (kidsAll ns).length + 1 = ns.length
    · refine Ev.step (f := fun k => (spec_l02At.f k root next ns root).bind fun t => some (decide (t ≥ 0))) (fun k => ?_) ((l02At_eq (by omega)).bind (Ev.const ?_))
      · rw [spec_l02Nodes.l0, if_neg (by omega), hw, if_pos (by omega)]
      · congr 1
        cases h : hasP ns root with
        | true => rw [hb.yes ⟨hs, hk, e, h⟩]; exact decide_eq_true (atP_iff.2 h)
        | false => rw [hb.no (fun hh => by have := hh.2.2.2; rw [h] at this; exact absurd this (by decide)), atP_no h]; rfl
    · refine Ev.val 1 fun k => ?_
      rw [spec_l02Nodes.l0, if_neg (by omega), hw, if_neg (by omega), hb.no (fun hh => e hh.2.2.1)]
  | succ d ih =>
    intro i hi hs hk
    have hr : rd_T88 ns (i : Int) = ns[i]'(by omega) := rdN_get (by omega)
    have key : StepOK next ns i → Ev (fun k => spec_l02Nodes.l1 k (kidsTo ns i) i 0 root next ns ns[i].f0 ns[i].f1 ns[i].f2 ns[i].f3 ns[i].f4) b := by
      intro hst
      have hs2 : ∀ t : Nat, t < i + 1 → StepOK next ns t := fun t ht => by
        by_cases q : t < i
        · exact hs t q
        · obtain rfl : t = i := by omega
          exact hst
      have h4 : (rdN ns (i : Int)).f4 = ns[i].f4 := by rw [rdN_get (by omega)]
      have h12 : ns[i].f4.length ≤ 12 := by rw [← h4]; exact hst.1.2.2.2.2
      have inner : ∀ (e j : Nat), j + e = ns[i].f4.length → SetOK root ns (kidsTo ns i ++ ns[i].f4.take j) → Ev (fun k => spec_l02Nodes.l1 k (kidsTo ns i ++ ns[i].f4.take j) i j root next ns ns[i].f0 ns[i].f1 ns[i].f2 ns[i].f3 ns[i].f4) b := by
        intro e
        induction e with
        | zero =>
          intro j hj hk2
          have ej : j = ns[i].f4.length := by omega
          rw [ej, List.take_length] at hk2 ⊢
          have e1 : kidsTo ns i ++ ns[i].f4 = kidsTo ns (i + 1) := by rw [kidsTo_step (by omega), h4]
          rw [e1] at hk2 ⊢
          refine Ev.step (f := fun k => spec_l02Nodes.l0 k (kidsTo ns (i + 1)) ((i + 1 : Nat) : Int) root next ns) (fun k => ?_) (ih (i + 1) (by omega) hs2 hk2)
          rw [spec_l02Nodes.l1, if_neg (by omega), w64_nat (by omega)]
        | succ e ihe =>
          intro j hj hk2
          have hjl : j < ns[i].f4.length := by omega
          obtain ⟨rest, hsp⟩ := kids_split (ns := ns) (j := i) (i := j) (by omega) (by rw [h4]; exact hjl)
          simp only [h4] at hsp
          have htk : ns[i].f4.take (j + 1) = ns[i].f4.take j ++ [ns[i].f4[j]] := by rw [List.take_add_one, List.getElem?_eq_getElem hjl]; rfl
          have hll : (kidsTo ns i ++ ns[i].f4.take j).length ≤ 4096 := by
            have h1 : (kidsTo ns i).length ≤ i * 12 := by
              have : ∀ q, q ≤ i → (kidsTo ns q).length ≤ q * 12 := by
                intro q
                induction q with
                | zero => intro _; simp [kidsTo]
                | succ q ihq =>
                  intro hq
                  have a1 := ihq (by omega)
                  have a2 := (hs q (by omega)).1.2.2.2.2
                  rw [kidsTo_step (by omega), List.length_append, Nat.succ_mul]; omega
              exact this i (Nat.le_refl _)
            rw [List.length_append, List.length_take]; omega
          have hbad : ∀ (P : Prop), (SetOK root ns (kidsAll ns) → P) → ¬ P → b = false := fun P h1 h2 => hb.no (fun hh => h2 (h1 hh.2.1))
          by_cases e1 : ns[i].f4[j] = root
          · have hf := hbad _ (fun h => (set_bad (hsp ▸ h)).2.1) (fun h => h e1)
            refine Ev.val 1 fun k => ?_
            rw [spec_l02Nodes.l1, if_pos (by omega), if_pos (by omega), rdI hjl, if_pos e1, hf]
          · refine Ev.step (f := fun k => (spec_l02Has.f k (kidsTo ns i ++ ns[i].f4.take j) ns[i].f4[j]).bind fun t => if t = true then some false else (spec_l02At.f k root next ns ns[i].f4[j]).bind fun t2 => if t2 < 0 then some false else spec_l02Nodes.l1 k (kidsTo ns i ++ ns[i].f4.take (j + 1)) i ((j + 1 : Nat) : Int) root next ns ns[i].f0 ns[i].f1 ns[i].f2 ns[i].f3 ns[i].f4) (fun k => ?_) ((l02Has_eq hll).bind ?_)
            · rw [spec_l02Nodes.l1, if_pos (by omega), if_pos (by omega), rdI hjl, if_neg e1, w64_nat (by omega), if_pos (by omega), htk, List.append_assoc]
            · by_cases e2 : ns[i].f4[j] ∈ kidsTo ns i ++ ns[i].f4.take j
              · have hf := hbad _ (fun h => (set_bad (hsp ▸ h)).1) (fun h => h e2)
                simp only [decide_eq_true e2, if_true, hf]
                exact Ev.const rfl
              · simp only [decide_eq_false e2, Bool.false_eq_true, if_false]
                refine (l02At_eq (by omega)).bind ?_
                cases e3 : hasP ns ns[i].f4[j] with
                | false =>
                  have hf := hbad _ (fun h => (set_bad (hsp ▸ h)).2.2) (by rw [e3]; decide)
                  simp only [atP_no e3, hf]
                  exact Ev.const rfl
                | true =>
                  have h0 := atP_iff.2 e3
                  refine Ev.congr (fun k => if_neg (by omega)) (ihe (j + 1) (by omega) ?_)
                  rw [htk, ← List.append_assoc]
                  exact set_step hk2 e2 e1 e3
      have := inner ns[i].f4.length 0 (by omega) (by simpa using hk)
      simpa using this
    by_cases h1 : NodeOK next ns[i]
    · by_cases hi0 : i = 0
      · subst hi0
        have hst : StepOK next ns 0 := ⟨by rw [rdN_get (by omega)]; exact h1, fun y hy => by omega⟩
        refine Ev.step (f := fun k => spec_l02Nodes.j1 k (kidsTo ns 0) ((0 : Nat) : Int) false root next ns ns[0].f0 ns[0].f1 ns[0].f2 ns[0].f3 ns[0].f4) (fun k => ?_) (Ev.step (fun k => ?_) (key hst))
        · rw [spec_l02Nodes.l0, if_pos (by omega), if_pos (by omega), hr, l02Node_eq hn, decide_eq_true h1, Option.bind_some, if_pos rfl, if_neg (by simp)]
        · rw [spec_l02Nodes.j1, if_neg (by simp)]
      · obtain ⟨y, rfl⟩ : ∃ y, i = y + 1 := ⟨i - 1, by omega⟩
        have hw : wrap64 (((y + 1 : Nat) : Int) - 1) = (y : Int) := by unfold wrap64; omega
        have hr2 : rd_T88 ns (y : Int) = ns[y]'(by omega) := rdN_get (by omega)
        have hstep : ∀ c, ∀ k, decide (ns[y + 1].f0 ≤ ns[y].f0) = c → spec_l02Nodes.l0 (k + 1) (kidsTo ns (y + 1)) ((y + 1 : Nat) : Int) root next ns = spec_l02Nodes.j1 k (kidsTo ns (y + 1)) ((y + 1 : Nat) : Int) c root next ns ns[y + 1].f0 ns[y + 1].f1 ns[y + 1].f2 ns[y + 1].f3 ns[y + 1].f4 := fun c k hc => by
          rw [spec_l02Nodes.l0, if_pos (by omega), if_pos (by omega), hr, l02Node_eq hn, decide_eq_true h1, Option.bind_some, if_pos rfl, if_pos (by omega), hw, if_pos (by omega), if_pos (by omega), hr2, hc]
        by_cases e : ns[y + 1].f0 ≤ ns[y].f0
        · have hf := hb.no (fun hh => by have := (hh.1 (y + 1) (by omega)).2 y rfl; rw [rdN_get (by omega), rdN_get (by omega)] at this; omega)
          refine Ev.step (fun k => hstep true k (decide_eq_true e)) (Ev.val 1 fun k => ?_)
          rw [spec_l02Nodes.j1, if_pos rfl, hf]
        · have hst : StepOK next ns (y + 1) := ⟨by rw [rdN_get (by omega)]; exact h1, fun y' hy' => by
            obtain rfl : y' = y := by omega
            rw [rdN_get (by omega), rdN_get (by omega)]; omega⟩
          refine Ev.step (fun k => hstep false k (decide_eq_false e)) (Ev.step (fun k => ?_) (key hst))
          rw [spec_l02Nodes.j1, if_neg (by simp)]
    · have hf := hb.no (fun hh => h1 (by have := (hh.1 i (by omega)).1; rwa [rdN_get (by omega)] at this))
      by_cases hi0 : (i : Int) > 0
      · refine Ev.step (f := fun k => spec_l02Nodes.j1 k (kidsTo ns i) i true root next ns ns[i].f0 ns[i].f1 ns[i].f2 ns[i].f3 ns[i].f4) (fun k => ?_) (Ev.val 1 fun k => ?_)
        · rw [spec_l02Nodes.l0, if_pos (by omega), if_pos (by omega), hr, l02Node_eq hn, decide_eq_false h1, Option.bind_some, if_neg (by simp)]
        · rw [spec_l02Nodes.j1, if_pos rfl, hf]
      · refine Ev.step (f := fun k => spec_l02Nodes.j1 k (kidsTo ns i) i true root next ns ns[i].f0 ns[i].f1 ns[i].f2 ns[i].f3 ns[i].f4) (fun k => ?_) (Ev.val 1 fun k => ?_)
        · rw [spec_l02Nodes.l0, if_pos (by omega), if_pos (by omega), hr, l02Node_eq hn, decide_eq_false h1, Option.bind_some, if_neg (by simp)]
        · rw [spec_l02Nodes.j1, if_pos rfl, hf]
theorem l02Nodes_eq {root next : Int} {ns : List Nd} (hn : 2 ≤ next ∧ next ≤ 999999) (hl : 1 ≤ ns.length ∧ ns.length ≤ 40) (b : Bool) (hb : Bk b (NODES root next ns)) : Ev (fun k => spec_l02Nodes.f k root next ns) b := by
  have := l02Nodes_loop hn hl b hb ns.length 0 (by omega) (fun t ht => absurd ht (Nat.not_lt_zero _)) ⟨List.nodup_nil, fun k hk => absurd hk (by simp [kidsTo])⟩
  exact this
end Go.Proofs.Ytfafehhallbjiaa.H
set_option linter.unusedVariables false
set_option linter.unusedSimpArgs false
namespace Go.Proofs.Ytfafehhallbjiaa.H
open Go.RowKit Go.Proofs.YtfafehhallbjiaaW.PrintWords Go.Proofs.YtfafehhallbjiaaW.PrintLast Go.Proofs.YtfafehhallbjiaaW.PrintMore Go.Proofs.Ytfafehhallbjiaa.Q
def parP (ns : List Nd) (id : Int) : Int := ((ns.find? (fun x => decide (id ∈ x.f4))).map (·.f0)).getD 0
theorem l02Parent_loop (root next : Int) (ns : List Nd) (id : Int) (hl : ns.length ≤ 4096) (h4 : ∀ x ∈ ns, x.f4.length ≤ 4096) (d : Nat) : ∀ i : Nat, i + d = ns.length → Ev (fun k => spec_l02Parent.l0 k id i root next ns) (((ns.drop i).find? (fun x => decide (id ∈ x.f4))).map (·.f0) |>.getD 0) := by
  induction d with
  | zero =>
    intro i hi
    refine Ev.val 1 fun k => ?_
    rw [spec_l02Parent.l0, if_neg (by omega), List.drop_of_length_le (by omega)]; rfl
  | succ d ih =>
    intro i hi
    have hr : rd_T88 ns (i : Int) = ns[i]'(by omega) := rdN_get (by omega)
    refine Ev.step (f := fun k => (spec_l02Has.f k ns[i].f4 id).bind fun t => if t = true then some ns[i].f0 else spec_l02Parent.l0 k id ((i + 1 : Nat) : Int) root next ns) (fun k => ?_) ((l02Has_eq (h4 _ (List.getElem_mem _))).bind ?_)
    · rw [spec_l02Parent.l0, if_pos (by omega), if_pos (by omega), hr, w64_nat (by omega)]
    · rw [List.drop_eq_getElem_cons (by omega), List.find?_cons]
      by_cases e : id ∈ ns[i].f4
      · simp only [decide_eq_true e, if_true]; exact Ev.const rfl
      · simp only [decide_eq_false e, Bool.false_eq_true, if_false]; exact ih (i + 1) (by omega)
theorem l02Parent_eq {root next : Int} {ns : List Nd} {id : Int} (hl : ns.length ≤ 4096) (h4 : ∀ x ∈ ns, x.f4.length ≤ 4096) : Ev (fun k => spec_l02Parent.f k root next ns id) (parP ns id) := by
  have := l02Parent_loop root next ns id hl h4 ns.length 0 (by omega)
  rw [List.drop_zero] at this
  exact this
def rch (ns : List Nd) (root : Int) : Nat → Int → Bool
  | 0, x => x == root
  | f + 1, x => x == root || (decide (x > 0) && rch ns root f (parP ns x))
theorem l02Reach_l1 {root next : Int} {ns : List Nd} (hl : ns.length ≤ 4000) (h4 : ∀ x ∈ ns, x.f4.length ≤ 4096) (i : Nat) (hi : i < ns.length) (rest : Bool) (hr : Ev (fun k => spec_l02Reach.l0 k ((i + 1 : Nat) : Int) root next ns) rest) (f : Nat) :
    ∀ (x : Int) (s : Nat), f + s = ns.length + 1 → Ev (fun k => spec_l02Reach.l1 k i x s root next ns) (rch ns root f x && rest) := by
  induction f with
  | zero =>
    intro x s hs
    by_cases e : x = root
    · refine Ev.step (f := fun k => spec_l02Reach.l0 k ((i + 1 : Nat) : Int) root next ns) (fun k => ?_) (by simpa [rch, e] using hr)
      rw [spec_l02Reach.l1, if_pos e, w64_nat (by omega)]
    · refine Ev.val 1 fun k => ?_
      rw [spec_l02Reach.l1, if_neg e]
      have : rch ns root 0 x = false := by simp [rch, e]
      rw [this]
      by_cases g : x > 0
      · rw [if_pos g, if_neg (by omega)]; rfl
      · rw [if_neg g]; rfl
  | succ f ih =>
    intro x s hs
    by_cases e : x = root
    · refine Ev.step (f := fun k => spec_l02Reach.l0 k ((i + 1 : Nat) : Int) root next ns) (fun k => ?_) (by simpa [rch, e] using hr)
      rw [spec_l02Reach.l1, if_pos e, w64_nat (by omega)]
    · by_cases g : x > 0
      · refine Ev.step (f := fun k => (spec_l02Parent.f k root next ns x).bind fun t => spec_l02Reach.l1 k i t ((s + 1 : Nat) : Int) root next ns) (fun k => ?_) ((l02Parent_eq (by omega) h4).bind ?_)
        · rw [spec_l02Reach.l1, if_neg e, if_pos g, if_pos (by omega), w64_nat (by omega)]
        · have h1 : rch ns root (f + 1) x = rch ns root f (parP ns x) := by simp [rch, e, g]
          rw [h1]
          exact ih (parP ns x) (s + 1) (by omega)
      · refine Ev.val 1 fun k => ?_
        have h1 : rch ns root (f + 1) x = false := by simp [rch, e, g]
        rw [spec_l02Reach.l1, if_neg e, if_neg g, h1]; rfl
theorem l02Reach_eq {root next : Int} {ns : List Nd} (hl : ns.length ≤ 4000) (h4 : ∀ x ∈ ns, x.f4.length ≤ 4096) : Ev (fun k => spec_l02Reach.f k root next ns) (ns.all (fun x => rch ns root (ns.length + 1) x.f0)) := by
  have key : ∀ (d i : Nat), i + d = ns.length → Ev (fun k => spec_l02Reach.l0 k i root next ns) ((ns.drop i).all (fun x => rch ns root (ns.length + 1) x.f0)) := by
    intro d
    induction d with
    | zero =>
      intro i hi
      refine Ev.val 1 fun k => ?_
      rw [spec_l02Reach.l0, if_neg (by omega), List.drop_of_length_le (by omega)]; rfl
    | succ d ih =>
      intro i hi
      have hr : rd_T88 ns (i : Int) = ns[i]'(by omega) := rdN_get (by omega)
      refine Ev.step (f := fun k => spec_l02Reach.l1 k i ns[i].f0 0 root next ns) (fun k => ?_) ?_
      · rw [spec_l02Reach.l0, if_pos (by omega), if_pos (by omega), hr]
      · rw [List.drop_eq_getElem_cons (by omega), List.all_cons]
        exact l02Reach_l1 hl h4 i (by omega) _ (ih (i + 1) (by omega)) (ns.length + 1) ns[i].f0 0 (by omega)
  have := key ns.length 0 (by omega)
  rw [List.drop_zero] at this
  exact this
theorem l02Deep_eq {root next : Int} {ns : List Nd} (hG : Good ns) (hK : KidsIn ns) (m : Nat) : ∀ id : Int, m ≤ 6 → hasP ns id = true → Ev (fun k => spec_l02Deep.f k root next ns id m) (depP ns (m + 1) id) := by
  induction m with
  | zero =>
    intro id hm hh
    refine Ev.val 1 fun k => ?_
    have h0 : ∀ l : List Int, l.foldl (fun d k => mx d (depP ns 0 k)) 0 = 0 := by
      intro l
      induction l with
      | nil => rfl
      | cons a l ih => rw [List.foldl_cons]; exact ih
    rw [spec_l02Deep.f, if_pos (show ((0 : Nat) : Int) = 0 from rfl)]
    show _ = some ((kidsOf ns id).foldl (fun d k => mx d (depP ns 0 k)) 0 + 1)
    rw [h0]; rfl
  | succ m ih =>
    intro id hm hh
    obtain ⟨t, ht, hat, hid⟩ := atP_has hh
    have hks := kidsOf_at hG.2 ht hid
    have hki := hK t ht
    rw [rdN_get ht] at hks hki
    have hr : rd_T88 ns (t : Int) = ns[t] := rdN_get ht
    have loop : ∀ (d i : Nat), i + d = ns[t].f4.length → Ev (fun k => spec_l02Deep.l0 k ((m + 1 : Nat) : Int) ((ns[t].f4.take i).foldl (fun d k => mx d (depP ns (m + 1) k)) 0) ns[t].f4 i root next ns) (ns[t].f4.foldl (fun d k => mx d (depP ns (m + 1) k)) 0 + 1) := by
      intro d
      induction d with
      | zero =>
        intro i hi
        refine Ev.val 1 fun k => ?_
        have hrg := depP_range ns (m + 2) id
        have e1 : depP ns (m + 2) id = ns[t].f4.foldl (fun d k => mx d (depP ns (m + 1) k)) 0 + 1 := by
          show (kidsOf ns id).foldl _ 0 + 1 = _
          rw [hks]
        rw [e1] at hrg
        rw [spec_l02Deep.l0, if_neg (by omega), List.take_of_length_le (by omega)]
        generalize ns[t].f4.foldl (fun d k => mx d (depP ns (m + 1) k)) 0 = z at hrg ⊢
        rw [wid (by omega) (by omega)]
      | succ d ihd =>
        intro i hi
        have hil : i < ns[t].f4.length := by omega
        have h12 := hki.1
        refine Ev.step (f := fun k => (spec_l02Deep.f k root next ns ns[t].f4[i] (m : Int)).bind fun x => spec_l02Deep.l0 k ((m + 1 : Nat) : Int) (mx ((ns[t].f4.take i).foldl (fun d k => mx d (depP ns (m + 1) k)) 0) x) ns[t].f4 ((i + 1 : Nat) : Int) root next ns) (fun k => ?_) ((ih ns[t].f4[i] (by omega) (hki.2 _ (List.getElem_mem hil)).1).bind ?_)
        · rw [spec_l02Deep.l0, if_pos (by omega), if_pos (by omega), rdI hil, w64_nat (by omega), show wrap64 (((m + 1 : Nat) : Int) - 1) = (m : Int) from by unfold wrap64; omega]
        · rw [← take_foldl ns (m + 1) ns[t].f4 i hil 0]
          exact ihd (i + 1) (by omega)
    have h0 := loop ns[t].f4.length 0 (by omega)
    refine Ev.step (f := fun k => (spec_l02At.f k root next ns id).bind fun x => if 0 ≤ x then (if x < (ns.length : Int) then spec_l02Deep.l0 k ((m + 1 : Nat) : Int) 0 ((rd_T88 ns x).f4) 0 root next ns else none) else none) (fun k => ?_) ((l02At_eq hG.1).bind ?_)
    · rw [spec_l02Deep.f, if_neg (by omega)]
    · rw [hat]
      refine Ev.congr (fun k => (if_pos (by omega)).trans ((if_pos (by omega)).trans (by rw [hr]))) ?_
      show Ev _ ((kidsOf ns id).foldl (fun d k => mx d (depP ns (m + 1) k)) 0 + 1)
      rw [hks]
      exact h0
end Go.Proofs.Ytfafehhallbjiaa.H
set_option linter.unusedVariables false
set_option linter.unusedSimpArgs false
namespace Go.Proofs.Ytfafehhallbjiaa.H
open Go.RowKit Go.Proofs.YtfafehhallbjiaaW.PrintWords Go.Proofs.YtfafehhallbjiaaW.PrintLast Go.Proofs.YtfafehhallbjiaaW.PrintMore Go.Proofs.Ytfafehhallbjiaa.Q
theorem len_le : ∀ {l1 l2 : List Int}, l1.Nodup → (∀ x ∈ l1, x ∈ l2) → l1.length ≤ l2.length
  | [], _, _, _ => Nat.zero_le _
  | a :: l1, l2, hn, hs => by
    have ha : a ∈ l2 := hs a (by simp)
    rw [List.nodup_cons] at hn
    have h1 := len_le (l1 := l1) (l2 := l2.erase a) hn.2 (fun x hx => (List.mem_erase_of_ne (fun (e : x = a) => hn.1 (by rw [← e]; exact hx))).2 (hs x (by simp [hx])))
    rw [List.length_erase_of_mem ha] at h1
    have : 0 < l2.length := List.length_pos_of_mem ha
    rw [List.length_cons]; omega
theorem sub_eq {l1 l2 : List Int} (hn : l1.Nodup) (hs : ∀ x ∈ l1, x ∈ l2) (hl : l2.length ≤ l1.length) : ∀ x ∈ l2, x ∈ l1 := by
  intro a ha
  by_cases h : a ∈ l1
  · exact h
  · have h1 := len_le (l1 := l1) (l2 := l2.erase a) hn (fun x hx => (List.mem_erase_of_ne (fun (e : x = a) => h (by rw [← e]; exact hx))).2 (hs x hx))
    rw [List.length_erase_of_mem ha] at h1
    have : 0 < l2.length := List.length_pos_of_mem ha
    omega
theorem nodup_flat {f : Int → List Int} : ∀ {L : List Int}, L.Nodup → (∀ k ∈ L, (f k).Nodup) → (∀ a ∈ L, ∀ b ∈ L, a ≠ b → ∀ x ∈ f a, x ∉ f b) → (L.flatMap f).Nodup
  | [], _, _, _ => List.nodup_nil
  | a :: L, hn, h1, h2 => by
    rw [List.nodup_cons] at hn
    rw [List.flatMap_cons, List.nodup_append]
    refine ⟨h1 a (by simp), nodup_flat hn.2 (fun k hk => h1 k (by simp [hk])) (fun x hx y hy => h2 x (by simp [hx]) y (by simp [hy])), fun x hx y hy e => ?_⟩
    subst e
    obtain ⟨k, hk, hx2⟩ := List.mem_flatMap.1 hy
    exact h2 a (by simp) k (by simp [hk]) (fun e => hn.1 (e ▸ hk)) x hx hx2
def upP (ns : List Nd) : Nat → Int → Int
  | 0, x => x
  | s + 1, x => upP ns s (parP ns x)
theorem up_add (ns : List Nd) : ∀ (a b : Nat) (x : Int), upP ns (a + b) x = upP ns b (upP ns a x)
  | 0, b, x => by rw [Nat.zero_add]; rfl
  | a + 1, b, x => by rw [Nat.succ_add]; exact up_add ns a b (parP ns x)
theorem up_succ (ns : List Nd) (s : Nat) (x : Int) : upP ns (s + 1) x = parP ns (upP ns s x) := by rw [up_add]; rfl
structure Tree (root : Int) (ns : List Nd) : Prop where
  good : Good ns
  set : SetOK root ns (kidsAll ns)
  kin : KidsIn ns
  top : hasP ns root = true
variable {root : Int} {ns : List Nd}
theorem has_pos (hT : Tree root ns) {x : Int} (h : hasP ns x = true) : 1 ≤ x := by
  obtain ⟨t, ht, rfl⟩ := hasP_at h
  exact (hT.good.2.2 t ht).1
theorem mem_all {t : Nat} (ht : t < ns.length) {k : Int} (hk : k ∈ ns[t].f4) : k ∈ kidsAll ns := List.mem_flatMap.2 ⟨_, List.getElem_mem ht, hk⟩
theorem one_parent (hT : Tree root ns) {a b : Nat} (ha : a < ns.length) (hb : b < ns.length) {k : Int} (h1 : k ∈ ns[a].f4) (h2 : k ∈ ns[b].f4) : a = b := by
  have key : ∀ {a b : Nat} (ha : a < ns.length) (hb : b < ns.length), k ∈ ns[a].f4 → k ∈ ns[b].f4 → ¬ a < b := by
    intro a b ha hb h1 h2 hab
    have e1 : kidsAll ns = kidsTo ns (a + 1) ++ (ns.drop (a + 1)).flatMap (·.f4) := by
      unfold kidsTo kidsAll
      rw [← List.flatMap_append, List.take_append_drop]
    have hn := hT.set.1
    rw [e1] at hn
    refine (List.nodup_append.1 hn).2.2 k ?_ k ?_ rfl
    · rw [kidsTo_step ha, rdN_get ha]; exact List.mem_append_right _ h1
    · refine List.mem_flatMap.2 ⟨ns[b], ?_, h2⟩
      rw [List.mem_drop_iff_getElem]
      exact ⟨b - (a + 1), by omega, by congr 1; omega⟩
  have := key ha hb h1 h2
  have := key hb ha h2 h1
  omega
theorem par_of_mem (hT : Tree root ns) {t : Nat} (ht : t < ns.length) {k : Int} (hk : k ∈ ns[t].f4) : parP ns k = ns[t].f0 := by
  unfold parP
  cases e : ns.find? (fun x => decide (k ∈ x.f4)) with
  | none =>
    have := List.find?_eq_none.1 e ns[t] (List.getElem_mem ht)
    exact absurd hk (by simpa using this)
  | some y =>
    have hy := List.find?_some e
    obtain ⟨b, hb, rfl⟩ := List.getElem_of_mem (List.mem_of_find?_eq_some e)
    obtain rfl := one_parent hT ht hb hk (by simpa using hy)
    rfl
theorem par_none {x : Int} (h : ∀ (t : Nat) (ht : t < ns.length), x ∉ ns[t].f4) : parP ns x = 0 := by
  unfold parP
  rw [List.find?_eq_none.2 (fun y hy => by
    obtain ⟨b, hb, rfl⟩ := List.getElem_of_mem hy
    simpa using h b hb)]
  rfl
theorem par_root (hT : Tree root ns) : parP ns root = 0 := par_none (fun t ht h => (hT.set.2 root (mem_all ht h)).1 rfl)
theorem par_zero (hT : Tree root ns) : parP ns 0 = 0 := par_none (fun t ht h => by have := has_pos hT (hT.set.2 0 (mem_all ht h)).2; omega)
theorem par_kid (hT : Tree root ns) {z id : Int} (h : parP ns z = id) (h1 : 1 ≤ id) : z ∈ kidsOf ns id ∧ hasP ns id = true := by
  unfold parP at h
  cases e : ns.find? (fun x => decide (z ∈ x.f4)) with
  | none => rw [e] at h; simp at h; omega
  | some y =>
    rw [e] at h
    have hy := List.find?_some e
    obtain ⟨b, hb, rfl⟩ := List.getElem_of_mem (List.mem_of_find?_eq_some e)
    have h2 : ns[b].f0 = id := by simpa using h
    have h3 := kidsOf_at hT.good.2 hb (id := id) (by rw [rdN_get hb]; exact h2)
    rw [rdN_get hb] at h3
    exact ⟨by rw [h3]; simpa using hy, hasP_true hb (by rw [rdN_get hb]; exact h2)⟩
theorem kid_par (hT : Tree root ns) {k id : Int} (hh : hasP ns id = true) (hk : k ∈ kidsOf ns id) : parP ns k = id ∧ hasP ns k = true := by
  obtain ⟨t, ht, he⟩ := hasP_at hh
  have h3 := kidsOf_at hT.good.2 ht he
  rw [h3] at hk
  refine ⟨?_, ((hT.kin t ht).2 k hk).1⟩
  rw [rdN_get ht] at hk he
  exact (par_of_mem hT ht hk).trans he
theorem kids_nodup (hT : Tree root ns) {id : Int} (hh : hasP ns id = true) : (kidsOf ns id).Nodup := by
  obtain ⟨t, ht, he⟩ := hasP_at hh
  rw [kidsOf_at hT.good.2 ht he]
  have e1 : kidsAll ns = kidsTo ns (t + 1) ++ (ns.drop (t + 1)).flatMap (·.f4) := by
    unfold kidsTo kidsAll
    rw [← List.flatMap_append, List.take_append_drop]
  have hn := hT.set.1
  rw [e1, kidsTo_step ht] at hn
  exact (List.nodup_append.1 (List.nodup_append.1 hn).1).2.1
theorem up_zero (hT : Tree root ns) : ∀ s, upP ns s 0 = 0
  | 0 => rfl
  | s + 1 => by show upP ns s (parP ns 0) = 0; rw [par_zero hT]; exact up_zero hT s
theorem no_cycle (hT : Tree root ns) {id : Int} (h : ∃ t, upP ns t id = root) (d : Nat) : upP ns (d + 1) id ≠ id := by
  intro e
  obtain ⟨t, ht⟩ := h
  have h1 : upP ns (t + (d + 1)) id = 0 := by
    rw [up_add, ht]
    show upP ns d (parP ns root) = 0
    rw [par_root hT]; exact up_zero hT d
  rw [Nat.add_comm, up_add, e, ht] at h1
  have := has_pos hT hT.top
  omega
theorem ord_up (hT : Tree root ns) : ∀ (m : Nat) (id x : Int), hasP ns id = true → x ∈ ordP ns m id → ∃ s, s < (ordP ns m id).length ∧ upP ns s x = id ∧ hasP ns x = true
  | 0, id, x, _, h => by simp [ordP] at h
  | m + 1, id, x, hh, h => by
    rw [ordP, List.mem_cons] at h
    rcases h with rfl | h
    · exact ⟨0, by rw [ordP]; simp, rfl, hh⟩
    · obtain ⟨k, hk, hx⟩ := List.mem_flatMap.1 h
      obtain ⟨h1, h2⟩ := kid_par hT hh hk
      obtain ⟨s, hs, hu, hp⟩ := ord_up hT m k x h2 hx
      refine ⟨s + 1, ?_, by rw [up_succ, hu, h1], hp⟩
      rw [ordP, List.length_cons]
      have : (ordP ns m k).length ≤ ((kidsOf ns id).flatMap (ordP ns m)).length := by
        obtain ⟨a, b, hab⟩ := List.append_of_mem hk
        rw [hab, List.flatMap_append, List.flatMap_cons]
        simp only [List.length_append]; omega
      omega
theorem ord_nodup (hT : Tree root ns) : ∀ (m : Nat) (id : Int), hasP ns id = true → (∃ t, upP ns t id = root) → (ordP ns m id).Nodup
  | 0, _, _, _ => List.nodup_nil
  | m + 1, id, hh, hr => by
    have hkr : ∀ k ∈ kidsOf ns id, ∃ t, upP ns t k = root := fun k hk => by
      obtain ⟨t, ht⟩ := hr
      exact ⟨t + 1, by show upP ns t (parP ns k) = root; rw [(kid_par hT hh hk).1]; exact ht⟩
    rw [ordP, List.nodup_cons]
    refine ⟨fun h => ?_, nodup_flat (kids_nodup hT hh) (fun k hk => ord_nodup hT m k (kid_par hT hh hk).2 (hkr k hk)) (fun a ha b hb hab x hxa hxb => ?_)⟩
    · obtain ⟨k, hk, hx⟩ := List.mem_flatMap.1 h
      obtain ⟨s, _, hu, _⟩ := ord_up hT m k id (kid_par hT hh hk).2 hx
      exact no_cycle hT hr s (by rw [up_succ, hu, (kid_par hT hh hk).1])
    · obtain ⟨s1, _, hu1, _⟩ := ord_up hT m a x (kid_par hT hh ha).2 hxa
      obtain ⟨s2, _, hu2, _⟩ := ord_up hT m b x (kid_par hT hh hb).2 hxb
      have key : ∀ {a b : Int} {s1 s2 : Nat}, a ∈ kidsOf ns id → b ∈ kidsOf ns id → a ≠ b → upP ns s1 x = a → upP ns s2 x = b → ¬ s1 ≤ s2 := by
        intro a b s1 s2 ha hb hab hu1 hu2 hle
        obtain ⟨d, rfl⟩ : ∃ d, s2 = s1 + d := ⟨s2 - s1, by omega⟩
        rw [up_add, hu1] at hu2
        cases d with
        | zero => exact hab hu2
        | succ d =>
          have h1 : upP ns d id = b := by rw [← (kid_par hT hh ha).1]; exact hu2
          exact no_cycle hT hr d (by rw [up_succ, h1, (kid_par hT hh hb).1])
      have := key ha hb hab hu1 hu2
      have := key hb ha (fun e => hab e.symm) hu2 hu1
      omega
theorem up_ord (hT : Tree root ns) : ∀ (s m : Nat) (id x : Int), Fits ns m id → hasP ns id = true → upP ns s x = id → x ∈ ordP ns m id
  | s, 0, id, x, hf, _, _ => hf.elim
  | 0, m + 1, id, x, _, _, h => by rw [ordP]; rw [show x = id from h]; simp
  | s + 1, m + 1, id, x, hf, hh, h => by
    rw [up_succ] at h
    obtain ⟨hz, _⟩ := par_kid hT h (has_pos hT hh)
    rw [ordP, List.mem_cons]
    exact .inr (List.mem_flatMap.2 ⟨_, hz, up_ord hT s m _ x (hf _ hz) (kid_par hT hh hz).2 rfl⟩)
theorem rch_up : ∀ (f : Nat) (x : Int), rch ns root f x = true → ∃ s, s ≤ f ∧ upP ns s x = root
  | 0, x, h => ⟨0, Nat.le_refl _, by simpa [rch, upP] using h⟩
  | f + 1, x, h => by
    by_cases e : x = root
    · exact ⟨0, Nat.zero_le _, e⟩
    · have h2 : rch ns root f (parP ns x) = true := by
        simp [rch, e] at h
        exact h.2
      obtain ⟨s, hs, hu⟩ := rch_up f (parP ns x) h2
      exact ⟨s + 1, by omega, hu⟩
theorem par_nonneg (hT : Tree root ns) (x : Int) : 0 ≤ parP ns x := by
  unfold parP
  cases e : ns.find? (fun y => decide (x ∈ y.f4)) with
  | none => simp
  | some y =>
    obtain ⟨b, hb, rfl⟩ := List.getElem_of_mem (List.mem_of_find?_eq_some e)
    have := (hT.good.2.2 b hb).1
    rw [rdN_get hb] at this
    simp; omega
theorem up_rch (hT : Tree root ns) : ∀ (f : Nat) (x : Int) (s : Nat), 1 ≤ x → s ≤ f → upP ns s x = root → rch ns root f x = true
  | 0, x, s, _, hs, hu => by
    obtain rfl : s = 0 := by omega
    simp [rch, show x = root from hu]
  | f + 1, x, s, hx, hs, hu => by
    by_cases e : x = root
    · simp [rch, e]
    · cases s with
      | zero => exact absurd hu e
      | succ s =>
        have hu2 : upP ns s (parP ns x) = root := hu
        have hp : 1 ≤ parP ns x := by
          have := par_nonneg hT x
          by_cases h0 : parP ns x = 0
          · rw [h0, up_zero hT] at hu2
            have := has_pos hT hT.top
            omega
          · omega
        simp [rch, e, show x > 0 by omega, up_rch hT f (parP ns x) s hp (by omega) hu2]
theorem ids_nodup (hs : Sorted ns) : (ns.map (·.f0)).Nodup := by
  rw [List.nodup_iff_pairwise_ne] 
  rw [List.pairwise_iff_getElem]
  intro i j hi hj hij
  simp at hi hj
  have := hs.1 i j hij hj
  rw [rdN_get hi, rdN_get hj] at this
  simp
  omega
theorem reach_iff (hT : Tree root ns) (hf : Fits ns 6 root) : (ns.all (fun x => rch ns root (ns.length + 1) x.f0) = true) ↔ (ordP ns 6 root).length = ns.length := by
  have hnd := ord_nodup hT 6 root hT.top ⟨0, rfl⟩
  have hsub : ∀ x ∈ ordP ns 6 root, x ∈ ns.map (·.f0) := fun x hx => by
    obtain ⟨_, _, _, hp⟩ := ord_up hT 6 root x hT.top hx
    obtain ⟨t, ht, rfl⟩ := hasP_at hp
    rw [rdN_get ht]
    exact List.mem_map.2 ⟨_, List.getElem_mem ht, rfl⟩
  have hle := len_le hnd hsub
  rw [List.length_map] at hle
  constructor
  · intro h
    have h2 : (ns.map (·.f0)).length ≤ (ordP ns 6 root).length := len_le (ids_nodup hT.good.2) (fun x hx => by
      obtain ⟨n, hn, rfl⟩ := List.mem_map.1 hx
      obtain ⟨s, _, hu⟩ := rch_up _ _ (List.all_eq_true.1 h n hn)
      exact up_ord hT s 6 root _ hf hT.top hu)
    rw [List.length_map] at h2
    omega
  · intro h
    refine List.all_eq_true.2 fun n hn => ?_
    have hin := sub_eq hnd hsub (by rw [List.length_map]; omega) n.f0 (List.mem_map.2 ⟨n, hn, rfl⟩)
    obtain ⟨s, hs, hu, hp⟩ := ord_up hT 6 root n.f0 hT.top hin
    exact up_rch hT _ _ s (has_pos hT hp) (by omega) hu
theorem l02OK_eq {next : Int} (h64 : All64 root ns) : Ev (fun k => spec_l02OK.f k root next ns) (docB root next ns) := by
  have hno : ¬ DOK root next ns → docB root next ns = false := fun h => by
    cases e : docB root next ns with
    | false => rfl
    | true => exact absurd (docB_iff.1 e) h
  unfold spec_l02OK.f
  simp only [in_f, Option.bind_some, decide_eq_true_eq]
  by_cases h1 : 1 ≤ (ns.length : Int) ∧ (ns.length : Int) ≤ 40
  · simp only [if_pos h1]
    by_cases h2 : 2 ≤ next ∧ next ≤ 999999
    · simp only [if_pos h2]
      have hl : 1 ≤ ns.length ∧ ns.length ≤ 40 := by omega
      by_cases hN : NODES root next ns
      · refine (l02Nodes_eq h2 hl true ⟨fun _ => hN, fun _ => rfl⟩).bind ?_
        simp only [if_true]
        obtain ⟨n1, n2, n3, n4⟩ := hN
        have hG := good_of h2.2 hl.2 n1
        have hK : KidsIn ns := fun t ht => ⟨(n1 t ht).1.2.2.2.2, fun k hk => ⟨(n2.2 k (List.mem_flatMap.2 ⟨_, List.getElem_mem ht, by rw [← rdN_get ht]; exact hk⟩)).2, h64.2 t ht k hk⟩⟩
        have hT : Tree root ns := ⟨hG, n2, hK, n4⟩
        have h4 : ∀ x ∈ ns, x.f4.length ≤ 4096 := fun x hx => by
          obtain ⟨t, ht, rfl⟩ := List.getElem_of_mem hx
          have := (hK t ht).1
          rw [rdN_get ht] at this
          omega
        refine (l02Reach_eq (by omega) h4).bind ?_
        have hdp : Ev (fun k => (spec_l02Deep.f k root next ns root 6).bind fun t => some (decide (t ≤ 6))) (decide (depP ns 7 root ≤ 6)) := (l02Deep_eq hG hK 6 root (by omega) n4).bind (Ev.const rfl)
        by_cases hd : depP ns 7 root ≤ 6
        · have hri := reach_iff hT (depP_fits 6 root hd)
          cases hr : ns.all (fun x => rch ns root (ns.length + 1) x.f0) with
          | true =>
            simp only [if_true]
            have : docB root next ns = true := docB_iff.2 ⟨hl, h2, n1, n2, ⟨n4, n3, hd⟩, hri.1 hr⟩
            rw [this]
            rw [decide_eq_true hd] at hdp
            exact hdp
          | false =>
            simp only [Bool.false_eq_true, if_false]
            rw [hno (fun h => by have := hri.2 h.2.2.2.2.2; rw [hr] at this; cases this)]
            exact Ev.const rfl
        · rw [hno (fun h => hd h.2.2.2.2.1.2.2)]
          rw [decide_eq_false hd] at hdp
          cases ns.all (fun x => rch ns root (ns.length + 1) x.f0) with
          | true => simp only [if_true]; exact hdp
          | false => simp only [Bool.false_eq_true, if_false]; exact Ev.const rfl
      · refine (l02Nodes_eq h2 hl false ⟨(fun h => by cases h), fun h => absurd h hN⟩).bind ?_
        rw [hno (fun h => hN ⟨h.2.2.1, h.2.2.2.1, h.2.2.2.2.1.2.1, h.2.2.2.2.1.1⟩)]
        exact Ev.const rfl
    · simp only [if_neg h2]
      rw [hno (fun h => h2 h.2.1)]
      exact Ev.const rfl
  · simp only [if_neg h1]
    rw [hno (fun h => h1 (by have := h.1; omega))]
    exact Ev.const rfl
end Go.Proofs.Ytfafehhallbjiaa.H
set_option linter.unusedVariables false
set_option linter.unusedSimpArgs false
namespace Go.Proofs.Ytfafehhallbjiaa.H
open Go.RowKit Go.Proofs.YtfafehhallbjiaaW.PrintWords Go.Proofs.YtfafehhallbjiaaW.PrintLast Go.Proofs.YtfafehhallbjiaaW.PrintMore Go.Proofs.Ytfafehhallbjiaa.Q
noncomputable def finD (s : St) : Dr :=
  if endP (docI s).2.2.2 = 0 then (if docB (docI s).1 (docI s).2.1 (docI s).2.2.1 = true then ((docI s).1, (docI s).2.1, (docI s).2.2.1, 0) else noDr 10) else noDr (endP (docI s).2.2.2)
noncomputable def readDocP (t : ByteArray) : Dr :=
  if (t.size : Int) > 65536 then noDr 2 else if (readFrameP t).2 = 0 then finD ((readFrameP t).1, 0, 0) else noDr (readFrameP t).2
theorem finD_bounds {s : St} (h : StOK s) : (∀ x ∈ (finD s).2.2.1, KidR x) ∧ (finD s).2.2.1.length ≤ 40 := by
  unfold finD
  split
  · split
    · exact docI_all h
    · exact ⟨by simp [noDr], by simp [noDr]⟩
  · exact ⟨by simp [noDr], by simp [noDr]⟩
theorem st_new {r : ByteArray} (h : r.size ≤ 65536) : StOK (r, 0, 0) := ⟨by simp, by simp, h⟩
theorem readDocP_bounds (t : ByteArray) : (∀ x ∈ (readDocP t).2.2.1, KidR x) ∧ (readDocP t).2.2.1.length ≤ 40 := by
  unfold readDocP
  split
  · exact ⟨by simp [noDr], by simp [noDr]⟩
  · split
    · exact finD_bounds (st_new (readFrameP_size t (by omega)))
    · exact ⟨by simp [noDr], by simp [noDr]⟩
theorem endP_zero {s : St} (h : endP s = 0) : s.2.2 = 0 := by
  unfold endP at h
  split at h
  · cases h
  · exact h
theorem ReadDoc_in (t : ByteArray) : Ev (fun k => impl_ReadDoc.f k t) (readDocP t) := by
  unfold impl_ReadDoc.f readDocP
  by_cases h0 : (t.size : Int) > 65536
  · simp only [if_pos h0]; exact Ev.const rfl
  simp only [if_neg h0]
  have hz := readFrameP_size t (by omega)
  refine (readFrame_eq (by omega)).bind ?_
  generalize readFrameP t = r at *
  by_cases c : r.2 = 0
  · simp only [if_pos c]
    have s0 := st_new hz
    refine (doc_in s0).bind (Ev.const ?_)
    have he := end_in (docI_ok s0)
    have h64 := docI_64 s0
    unfold finD
    generalize docI (r.1, 0, 0) = d at *
    obtain ⟨root, next, ns, t1, a1, c1⟩ := d
    simp only at he h64 ⊢
    rw [he, Option.bind_some]
    by_cases g : endP (t1, a1, c1) = 0
    · rw [if_pos g, if_pos g]
      unfold impl_DocOK.f
      rw [if_pos h64, Option.bind_some]
      cases docB root next ns <;> rfl
    · rw [if_neg g, if_neg g]
  · simp only [if_neg c]; exact Ev.const rfl
theorem ReadDoc_es (t : ByteArray) : Ev (fun k => spec_ReadDoc.f k t) (readDocP t) := by
  unfold spec_ReadDoc.f readDocP
  by_cases h0 : (t.size : Int) > 65536
  · simp only [if_pos h0]; exact Ev.const rfl
  simp only [if_neg h0]
  have hz := readFrameP_size t (by omega)
  refine Ev.bind (a := if (readFrameP t).2 = 0 then finD ((readFrameP t).1, 0, 0) else noDr (readFrameP t).2) ?_ (Ev.const rfl)
  unfold spec_l10ReadDoc.f
  refine (l01ReadFrame_eq (by omega)).bind ?_
  generalize readFrameP t = r at *
  by_cases c : r.2 = 0
  · simp only [if_pos c]
    have s0 := st_new hz
    refine (doc_es s0).bind ?_
    obtain ⟨q1, q2⟩ := doc_eq (r.1, 0, 0)
    have he := end_es (docI_ok s0)
    rw [q1] at he
    have h64 := docI_64 s0
    unfold finD
    rw [q1]
    by_cases g : endP (docS (r.1, 0, 0)).2.2.2 = 0
    · have e := q2 (endP_zero g)
      rw [e] at h64
      rw [e]
      simp only [he, Option.bind_some, if_pos g]
      refine (l02OK_eq h64).bind (Ev.const ?_)
      cases docB (docS (r.1, 0, 0)).1 (docS (r.1, 0, 0)).2.1 (docS (r.1, 0, 0)).2.2.1 <;> rfl
    · simp only [he, Option.bind_some, if_neg g]; exact Ev.const rfl
  · simp only [if_neg c]; exact Ev.const rfl
end Go.Proofs.Ytfafehhallbjiaa.H
set_option linter.unusedVariables false
set_option linter.unusedSimpArgs false
namespace Go.Proofs.Ytfafehhallbjiaa.H
open Go.RowKit Go.Proofs.YtfafehhallbjiaaW.PrintWords Go.Proofs.YtfafehhallbjiaaW.PrintLast Go.Proofs.YtfafehhallbjiaaW.PrintMore Go.Proofs.Ytfafehhallbjiaa.Q
abbrev Ln := S107
def nd (x : Ln) : Nd := ⟨x.f0, x.f1, x.f2, x.f3, x.f4⟩
theorem w64_big {i : Nat} (h : i ≤ 1048576) : wrap64 ((i : Int) + 1) = ((i + 1 : Nat) : Int) := by unfold wrap64; omega
theorem eqIntS_refl {l : List Int} (hl : l.length ≤ 1048576) : Ev (fun k => laws_eqIntS.f k l l) true := by
  have key : ∀ (d i : Nat), i + d = l.length → ∀ k, laws_eqIntS.l0 (k + d + 1) l l i = some true := by
    intro d
    induction d with
    | zero => intro i hi k; rw [laws_eqIntS.l0, if_neg (by omega)]
    | succ d ih =>
      intro i hi k
      rw [laws_eqIntS.l0, if_pos (by omega), if_pos (by omega), if_pos (by omega), if_pos rfl, w64_big (by omega), show k + (d + 1) = k + d + 1 by omega]
      exact ih (i + 1) (by omega) k
  refine Ev.val (l.length + 1) fun k => ?_
  unfold laws_eqIntS.f
  rw [if_pos rfl]
  exact key l.length 0 (by omega) k
theorem eqNodeS_refl {ns : List Nd} (hl : ns.length ≤ 1048576) (h4 : ∀ x ∈ ns, x.f4.length ≤ 1048576) : Ev (fun k => laws_eqNodeS.f k ns ns) true := by
  have key : ∀ (d i : Nat), i + d = ns.length → Ev (fun k => laws_eqNodeS.l0 k ns ns i) true := by
    intro d
    induction d with
    | zero => intro i hi; exact Ev.val 1 fun k => by rw [laws_eqNodeS.l0, if_neg (by omega)]
    | succ d ih =>
      intro i hi
      have hr : rd_T88 ns (i : Int) = ns[i]'(by omega) := rdN_get (by omega)
      refine Ev.step (f := fun k => (laws_eqNode.f k ns[i].f0 ns[i].f1 ns[i].f2 ns[i].f3 ns[i].f4 ns[i].f0 ns[i].f1 ns[i].f2 ns[i].f3 ns[i].f4).bind fun t => if t = true then laws_eqNodeS.l0 k ns ns ((i + 1 : Nat) : Int) else some false) (fun k => ?_) (Ev.bind (a := true) ?_ ?_)
      · rw [laws_eqNodeS.l0, if_pos (by omega), if_pos (by omega), if_pos (by omega), hr, w64_big (by omega)]
      · refine Ev.congr (f := fun k => (laws_eqIntS.f k ns[i].f4 ns[i].f4).bind fun t => if t = true then some true else some false) (fun k => ?_) ((eqIntS_refl (h4 (ns[i]'(by omega)) (List.getElem_mem _))).bind (f := fun _ t => if t = true then some true else some false) (Ev.const rfl))
        unfold laws_eqNode.f
        rw [if_pos rfl, if_pos rfl, if_pos rfl, if_pos rfl]
      · simp only [if_true]; exact ih (i + 1) (by omega)
  refine Ev.congr (fun k => ?_) (key ns.length 0 (by omega))
  unfold laws_eqNodeS.f
  rw [if_pos rfl]; rfl
theorem eqDoc_refl {a b : Int} {ns : List Nd} (hl : ns.length ≤ 1048576) (h4 : ∀ x ∈ ns, x.f4.length ≤ 1048576) : Ev (fun k => laws_eqDoc.f k a b ns a b ns) true := by
  refine Ev.congr (fun k => ?_) ((eqNodeS_refl hl h4).bind (f := fun _ t => if t = true then some true else some false) (Ev.const rfl))
  unfold laws_eqDoc.f
  rw [if_pos rfl, if_pos rfl]
end Go.Proofs.Ytfafehhallbjiaa.H
set_option linter.unusedVariables false
set_option linter.unusedSimpArgs false
namespace Go.Proofs.Ytfafehhallbjiaa.Pure
open Go.RowKit Go.Proofs.Ytfafehhallbjiaa.Q Go.Proofs.YtfafehhallbjiaaW.PrintWords Go.Proofs.YtfafehhallbjiaaW.PrintLast Go.Proofs.YtfafehhallbjiaaW.PrintMore Go.Proofs.Ytfafehhallbjiaa.H
theorem markN_bound {ns : List S88} (h : ∀ x ∈ ns, x.f4.length ≤ 1048576) : markN ns ≤ 1048580 * ns.length := by
  induction ns with
  | nil => simp [markN]
  | cons x r ih =>
    have h1 := h x (by simp)
    have h2 := ih (fun y hy => h y (by simp [hy]))
    simp only [markN, List.length_cons]
    omega
theorem FnExactReadDoc : laws_FnExactReadDoc.Pure := by
  intro a0 h0
  obtain ⟨b1, b2⟩ := readDocP_bounds a0
  obtain ⟨K1, e1⟩ := ReadDoc_es a0
  obtain ⟨K2, e2⟩ := ReadDoc_in a0
  generalize readDocP a0 = r at *
  obtain ⟨root, next, ns, code⟩ := r
  simp only at b1 b2
  have b3 : ∀ x ∈ ns, x.f4.length ≤ 1048576 := fun x hx => by have := (b1 x hx).1; omega
  have b4 := markN_bound b3
  obtain ⟨K3, e3⟩ := eqDoc_refl (a := root) (b := next) (ns := ns) (by omega) b3
  obtain ⟨K4, e4⟩ := heldDoc_eq (root := root) (next := next) (m := 1) (ns := ns) (by decide) (by omega) (by omega)
  refine ⟨K1 + K2 + K3 + K4, ?_⟩
  unfold laws_FnExactReadDoc.f
  rw [if_pos]
  exact .inr ⟨_, _, _, _, e1 _ (by omega), e2 _ (by omega), e3 _ (by omega), by omega, by omega, e4 _ (by omega)⟩
end Go.Proofs.Ytfafehhallbjiaa.Pure
