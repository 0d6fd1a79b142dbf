/- Chapter 2 in plain Lean, second part: sums, texts and frames. -/
import Derived.Test.YtnppmhijoaeibaaWireP
set_option linter.unusedVariables false
set_option linter.unusedSimpArgs false
namespace Go.Proofs.Ytnppmhijoaeibaa.H
open Go.RowKit Go.Proofs.YtnppmhijoaeibaaW.PrintWords Go.Proofs.Ytnppmhijoaeibaa.Q

/-! ### sums -/
def sumL (l : List UInt8) (n : Int) : Int := l.foldl (fun n b => (31 * n + b.toNat) % 65521) n
def sumP (t : ByteArray) : Int := sumL t.data.toList 1
theorem sumL_range (l : List UInt8) : ∀ {n : Int}, 0 ≤ n → n < 65521 → 0 ≤ sumL l n ∧ sumL l n < 65521 := by
  induction l with
  | nil => intro n h0 h1; exact ⟨h0, h1⟩
  | cons b l ih => intro n h0 h1; exact ih (n := (31 * n + b.toNat) % 65521) (by omega) (by omega)
theorem sumP_range (t : ByteArray) : 0 ≤ sumP t ∧ sumP t < 65521 := sumL_range _ (by omega) (by omega)
theorem bt_nat (t : ByteArray) (i : Nat) (h : i < t.size) : bt t i = (t[i].toNat : Int) := by unfold bt; simp [h]
theorem drop_step (t : ByteArray) (i : Nat) (h : i < t.size) : t.data.toList.drop i = t[i] :: t.data.toList.drop (i + 1) := by
  rw [List.drop_eq_getElem_cons (by simpa using h)]; rfl
theorem sum_step (t : ByteArray) (i : Nat) (h : i < t.size) (n : Int) : sumL (t.data.toList.drop i) n = sumL (t.data.toList.drop (i + 1)) ((31 * n + bt t i) % 65521) := by
  rw [drop_step t i h, bt_nat t i h]; rfl
theorem sum_done (t : ByteArray) (i : Nat) (h : t.size ≤ i) (n : Int) : sumL (t.data.toList.drop i) n = n := by
  rw [List.drop_of_length_le (by simpa using h)]; rfl
theorem sum_arith {n b : Int} (h0 : 0 ≤ n) (h1 : n < 65521) (b0 : 0 ≤ b ∧ b ≤ 255) : Int.tmod (wrap64 (wrap64 (31 * n) + wrap64 b)) 65521 = (31 * n + b) % 65521 := by
  rw [wid (x := 31 * n) (by omega) (by omega), wid (x := b) (by omega) (by omega), wid (by omega) (by omega), tmodE (by omega)]
theorem mod_range (x : Int) : 0 ≤ x % 65521 ∧ x % 65521 < 65521 := by omega
theorem nat_wrap {i : Nat} {m : Nat} (h : i < m) (hm : m ≤ 1048576) : wrap64 ((i : Int) + 1) = ((i + 1 : Nat) : Int) := by rw [wid (by omega) (by omega)]; omega
theorem l01Sum_loop (t : ByteArray) (h2 : t.size ≤ 1048576) (d : Nat) : ∀ (i : Nat) (n : Int) (k : Nat), i + d = t.size → 0 ≤ n → n < 65521 → spec_l01Sum.l0 (k + d + 1) t n i = some (sumL (t.data.toList.drop i) n) := by
  induction d with
  | zero =>
    intro i n k hi h0 h1
    rw [spec_l01Sum.l0, if_neg (by omega), sum_done t i (by omega)]
  | succ d ih =>
    intro i n k hi h0 h1
    rw [spec_l01Sum.l0, if_pos (by omega), if_pos (by omega), sum_arith h0 h1 (bt_range t i), nat_wrap (m := t.size) (by omega) h2, sum_step t i (by omega)]
    exact ih (i + 1) _ k (by omega) (mod_range _).1 (mod_range _).2
theorem l01Sum_eq {t : ByteArray} (h2 : t.size ≤ 1048576) : Ev (fun k => spec_l01Sum.f k t) (sumP t) :=
  Ev.val (t.size + 1) fun k => by
    have := l01Sum_loop t h2 t.size 0 1 k (by omega) (by omega) (by omega)
    rw [List.drop_zero] at this
    exact this
theorem sumOf_loop (t : ByteArray) (h2 : t.size ≤ 1048576) (d : Nat) : ∀ (i : Nat) (n : Int) (k : Nat), i + d = t.size → 0 ≤ n → n < 65521 → impl_sumOf.l0 (k + d + 1) t n t.size i = some (sumL (t.data.toList.drop i) n) := by
  induction d with
  | zero =>
    intro i n k hi h0 h1
    rw [impl_sumOf.l0, if_neg (by omega), sum_done t i (by omega)]
  | succ d ih =>
    intro i n k hi h0 h1
    rw [impl_sumOf.l0, if_pos (by omega), if_pos (by omega), if_pos (by omega), sum_arith h0 h1 (bt_range t i), nat_wrap (m := t.size) (by omega) h2, sum_step t i (by omega)]
    exact ih (i + 1) _ k (by omega) (mod_range _).1 (mod_range _).2
theorem sumOf_eq {t : ByteArray} (h2 : t.size ≤ 1048576) : Ev (fun k => impl_sumOf.f k t) (sumP t) :=
  Ev.val (t.size + 1) fun k => by
    have := sumOf_loop t h2 t.size 0 1 k (by omega) (by omega) (by omega)
    rw [List.drop_zero] at this
    exact this
/-- The two bytes of a text's sum. -/
def sum2 (t : ByteArray) : ByteArray := strOfNums [sumP t % 256, sumP t / 256]
theorem sum2_size (t : ByteArray) : (sum2 t).size = 2 := strOfNums_size _
theorem sum_two (t : ByteArray) : [Int.tmod (sumP t) 256 % 256, wrap64 (Int.tdiv (sumP t) 256) % 256] = [sumP t % 256, sumP t / 256] := by
  have := sumP_range t
  generalize sumP t = s at *
  rw [tmodE (by omega), tdivE (by omega), wid (by omega) (by omega), show s % 256 % 256 = s % 256 by omega, show s / 256 % 256 = s / 256 by omega]
theorem sumText_eq {t : ByteArray} (h2 : t.size ≤ 1048576) : Ev (fun k => impl_sumText.f k t) (sum2 t) :=
  (sumOf_eq h2).bind (Ev.const (by rw [sum_two]; rfl))

/-! ### texts and frames -/
def textS (t : ByteArray) : ByteArray := putS t.size ++ t
theorem textS_size (t : ByteArray) : (textS t).size = (putS t.size).size + t.size := by unfold textS; simp
theorem textS_len (t : ByteArray) : (textS t).size ≤ t.size + 3 := by have := putS_len t.size; rw [textS_size]; omega
theorem text_eq {t : ByteArray} (h2 : t.size ≤ 1048576) : impl_text.f t = some (textS t) := by
  unfold impl_text.f
  have := putS_len t.size
  rw [number_eq (by omega), Option.bind_some, if_pos (by omega)]; rfl
theorem l01PutText_eq {t : ByteArray} (h2 : t.size ≤ 1048576) : Ev (fun k => spec_l01PutText.f k t) (textS t) :=
  (l01Put_eq (n := t.size) (by omega) (by omega)).bind (Ev.const (by have := putS_len t.size; rw [if_pos (by omega)]; rfl))
def coS : ByteArray := ⟨#[67, 79]⟩
theorem coS_size : coS.size = 2 := rfl
def bodyS (t : ByteArray) : ByteArray := coS ++ textS t
theorem bodyS_size (t : ByteArray) : (bodyS t).size = 2 + (textS t).size := by unfold bodyS; rw [ByteArray.size_append]; rfl
def frameS (t : ByteArray) : ByteArray := bodyS t ++ sum2 (bodyS t)
theorem frameS_size (t : ByteArray) : (frameS t).size = (textS t).size + 4 := by unfold frameS; rw [ByteArray.size_append, sum2_size, bodyS_size]; omega
theorem l01Frame_eq {t : ByteArray} (h2 : t.size ≤ 1000000) : Ev (fun k => spec_l01Frame.f k t) (frameS t) := by
  have hl := textS_len t
  have hb := bodyS_size t
  refine (l01PutText_eq (by omega)).bind ?_
  rw [show (fun n => (fun k t119 => if 2 + ByteArray.size t119 ≤ 9223372036854775807 then (spec_l01Sum.f k ((⟨#[67, 79]⟩ : ByteArray) ++ t119)).bind fun t120 => ((some (([(Int.tmod t120 256) % 256, (wrap64 (Int.tdiv t120 256)) % 256] : List Int) : List Int)).bind fun y121 => (if ((⟨#[67, 79]⟩ : ByteArray) ++ t119).size + (strOfNums y121).size ≤ 9223372036854775807 then (some (((⟨#[67, 79]⟩ : ByteArray) ++ t119) ++ (strOfNums y121))) else (none))) else none) n (textS t)) =
    fun n => (spec_l01Sum.f n (bodyS t)).bind fun s => if (bodyS t).size + 2 ≤ 9223372036854775807 then some (bodyS t ++ strOfNums [(Int.tmod s 256) % 256, (wrap64 (Int.tdiv s 256)) % 256]) else none from by
      funext n; simp only []; rw [if_pos (by omega)]; rfl]
  refine (l01Sum_eq (by omega)).bind (Ev.const ?_)
  rw [if_pos (by omega), sum_two]; rfl
theorem frame_eq {t : ByteArray} (h2 : t.size ≤ 1000000) : Ev (fun k => impl_frame.f k t) (frameS t) := by
  have hl := textS_len t
  have hb := bodyS_size t
  refine Ev.congr (f := fun k => (impl_sumText.f k (bodyS t)).bind fun s => if (bodyS t).size + s.size ≤ 9223372036854775807 then some (bodyS t ++ s) else none) (fun k => ?_) ((sumText_eq (by omega)).bind (Ev.const ?_))
  · unfold impl_frame.f; rw [text_eq (by omega), Option.bind_some, if_pos (by omega)]; rfl
  · rw [if_pos (by rw [sum2_size]; omega)]; rfl

end Go.Proofs.Ytnppmhijoaeibaa.H
