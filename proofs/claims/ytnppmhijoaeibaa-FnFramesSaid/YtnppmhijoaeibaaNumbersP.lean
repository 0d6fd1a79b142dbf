/- Numbers and texts are read back from their bytes, wherever these stand: in plain Lean. -/
import Derived.Test.YtnppmhijoaeibaaWireR
set_option linter.unusedVariables false
set_option linter.unusedSimpArgs false
namespace Go.Proofs.Ytnppmhijoaeibaa.H
open Go.RowKit Go.Proofs.YtnppmhijoaeibaaW.PrintWords Go.Proofs.Ytnppmhijoaeibaa.Q

theorem bt_list (s : ByteArray) (i : Int) : bt s i = ((s.data.toList[i.toNat]?).map fun b => (b.toNat : Int)).getD 0 := by
  unfold bt
  by_cases h : i.toNat < s.size
  · rw [dif_pos h, List.getElem?_eq_getElem (by simpa using h)]; rfl
  · rw [dif_neg h, List.getElem?_eq_none (by simpa using Nat.le_of_not_lt h)]; rfl
theorem data_app (a b : ByteArray) : (a ++ b).data.toList = a.data.toList ++ b.data.toList := by rw [ByteArray.data_append, Array.toList_append]
theorem size_list (a : ByteArray) : a.data.toList.length = a.size := by simp
theorem bt_right (a b : ByteArray) (i : Nat) : bt (a ++ b) ((a.size : Int) + i) = bt b i := by
  rw [bt_list, bt_list, data_app, show ((a.size : Int) + (i : Int)).toNat = a.data.toList.length + i by rw [size_list]; omega, List.getElem?_append_right (by omega), Nat.add_sub_cancel_left, Int.toNat_natCast]
theorem bt_left (a b : ByteArray) (i : Nat) (h : i < a.size) : bt (a ++ b) i = bt a i := by
  rw [bt_list, bt_list, data_app, Int.toNat_natCast, List.getElem?_append_left (by rw [size_list]; exact h)]
theorem bt_nums (xs : List Int) (h : ∀ x ∈ xs, 0 ≤ x ∧ x ≤ 255) (i : Nat) : bt (strOfNums xs) i = xs.getD i 0 := by
  rw [bt_list, Int.toNat_natCast]
  simp only [strOfNums, List.getElem?_map, List.getD_eq_getElem?_getD]
  cases hx : xs[i]? with
  | none => rfl
  | some x =>
    have := h x (List.mem_of_getElem? hx)
    simp [UInt8.toNat_ofNat']; omega
theorem bt_put (a b : ByteArray) {n : Int} (hn : n < 2097152) (i : Nat) (hi : i < (putL n).length) : bt (a ++ putS n ++ b) ((a.size : Int) + i) = (putL n).getD i 0 := by
  rw [ByteArray.append_assoc, bt_right, bt_left _ _ _ (by rw [putS_size]; exact hi)]
  exact bt_nums _ (putL_range hn) i
theorem take_put (a b : ByteArray) {n : Int} (h0 : 0 ≤ n) (h1 : n ≤ 999999) : takeP (a ++ putS n ++ b) a.size = (n, (a.size : Int) + (putL n).length, 0) := by
  have hb := fun i hi => bt_put a b (n := n) (by omega) i hi
  have hs : (a ++ putS n ++ b).size = a.size + (putL n).length + b.size := by rw [ByteArray.size_append, ByteArray.size_append, putS_size]
  have hp : (putL n).length = 1 ∧ putL n = [n] ∧ n < 128 ∨ (putL n).length = 2 ∧ putL n = [n % 128 + 128, n / 128] ∧ 127 < n ∧ n < 16384 ∨ (putL n).length = 3 ∧ putL n = [n % 128 + 128, n / 128 % 128 + 128, n / 16384] ∧ 16383 < n := by
    unfold putL
    by_cases g : 16383 < n
    · simp [g]
    · by_cases g2 : 127 < n
      · simp [g, g2]; omega
      · simp [g, g2]; omega
  have b0 := hb 0
  have b1 := hb 1
  have b2 := hb 2
  generalize a ++ putS n ++ b = t at *
  simp only [Int.natCast_zero, Int.add_zero] at b0
  have c1 : ((a.size : Int) + ((1 : Nat) : Int)) = a.size + 1 := by omega
  have c2 : ((a.size : Int) + ((2 : Nat) : Int)) = a.size + 2 := by omega
  rw [c1] at b1
  rw [c2] at b2
  unfold takeP
  rcases hp with ⟨hl, hq, r⟩ | ⟨hl, hq, r⟩ | ⟨hl, hq, r⟩
  · rw [hq] at b0
    replace b0 : bt t a.size = n := b0 (by simp)
    rw [b0, if_neg (by omega), if_pos r, hl]; rfl
  · rw [hq] at b0 b1
    replace b0 : bt t a.size = n % 128 + 128 := b0 (by simp)
    replace b1 : bt t (a.size + 1) = n / 128 := b1 (by simp)
    rw [b0, b1, if_neg (by omega), if_neg (by omega), if_neg (by omega), if_pos (by omega), if_neg (by omega), hl]
    congr 1
    omega
  · rw [hq] at b0 b1 b2
    replace b0 : bt t a.size = n % 128 + 128 := b0 (by simp)
    replace b1 : bt t (a.size + 1) = n / 128 % 128 + 128 := b1 (by simp)
    replace b2 : bt t (a.size + 2) = n / 16384 := b2 (by simp)
    have e : n % 128 + 128 - 128 + (n / 128 % 128 + 128 - 128) * 128 + n / 16384 * 16384 = n := by omega
    rw [b0, b1, b2, if_neg (by omega), if_neg (by omega), if_neg (by omega), if_neg (by omega), if_neg (by omega), if_neg (by omega), if_neg (by omega), e, if_neg (by omega), hl]; rfl
/-- Of a number's bytes not all are there. -/
theorem take_cut (a : ByteArray) {n : Int} (h0 : 0 ≤ n) (h1 : n ≤ 999999) (m : Nat) (hm : m < (putL n).length) : takeP (a ++ (putS n).extract 0 m) a.size = (0, 0, 8) := by
  have hz : ((putS n).extract 0 m).size = m := by rw [ByteArray.size_extract, putS_size]; omega
  have hs : (a ++ (putS n).extract 0 m).size = a.size + m := by rw [ByteArray.size_append, hz]
  have hb : ∀ i : Nat, i < m → bt (a ++ (putS n).extract 0 m) ((a.size : Int) + i) = (putL n).getD i 0 := fun i hi => by
    rw [bt_right, ← bt_nums _ (putL_range (m := n) (by omega)) i, bt_list, bt_list, Lib.extract_data, List.drop_zero, Nat.sub_zero, Int.toNat_natCast, List.getElem?_take_of_lt hi]; rfl
  have hp : m = 0 ∨ (m = 1 ∨ m = 2) ∧ (putL n).getD 0 0 = n % 128 + 128 ∧ (m = 2 → (putL n).getD 1 0 = n / 128 % 128 + 128) := by
    unfold putL at hm ⊢
    by_cases g : 16383 < n
    · simp [g] at hm ⊢; omega
    · by_cases g2 : 127 < n
      · simp [g, g2] at hm ⊢; omega
      · simp [g, g2] at hm; omega
  have b0 := hb 0
  have b1 := hb 1
  generalize a ++ (putS n).extract 0 m = t at *
  simp only [Int.natCast_zero, Int.add_zero] at b0
  have c1 : ((a.size : Int) + ((1 : Nat) : Int)) = a.size + 1 := by omega
  rw [c1] at b1
  unfold takeP
  rcases hp with rfl | ⟨hm', q0, q1⟩
  · rw [if_pos (by omega)]
  · rw [q0] at b0
    rw [b0 (by omega), if_neg (by omega), if_neg (by omega)]
    by_cases g : m = 1
    · rw [if_pos (by omega)]
    · rw [q1 (by omega)] at b1
      rw [b1 (by omega), if_neg (by omega), if_neg (by omega), if_pos (by omega)]
theorem extract_mid (a s b : ByteArray) : (a ++ s ++ b).extract a.size (a.size + s.size) = s := by
  rw [Lib.extract_eq, data_app, data_app]
  have h : ((a.data.toList ++ s.data.toList ++ b.data.toList).drop a.size).take (a.size + s.size - a.size) = s.data.toList := by
    rw [List.append_assoc, ← size_list a, List.drop_left, Nat.add_sub_cancel_left, ← size_list s, List.take_left]
  rw [h, Lib.mk_data s]
theorem takeText_put (a s b : ByteArray) (hs : s.size ≤ 999999) : takeTextP (a ++ textS s ++ b) a.size = (s, (a.size : Int) + (textS s).size, 0) := by
  have e : a ++ textS s ++ b = a ++ putS s.size ++ (s ++ b) := by unfold textS; simp only [ByteArray.append_assoc]
  have hz : (a ++ textS s ++ b).size = a.size + (putL s.size).length + s.size + b.size := by rw [ByteArray.size_append, ByteArray.size_append, textS_size, putS_size]; omega
  have ht := take_put a (s ++ b) (n := s.size) (by omega) (by omega)
  rw [← e] at ht
  unfold takeTextP
  rw [ht]
  dsimp only
  rw [if_pos rfl, if_neg (by rw [hz]; omega)]
  have e2 : a ++ textS s ++ b = (a ++ putS s.size) ++ s ++ b := by unfold textS; simp only [ByteArray.append_assoc]
  have e3 : ((a.size : Int) + (putL s.size).length).toNat = (a ++ putS s.size).size := by rw [ByteArray.size_append, putS_size]; omega
  have e4 : ((a.size : Int) + (putL s.size).length + s.size).toNat = (a ++ putS s.size).size + s.size := by rw [ByteArray.size_append, putS_size]; omega
  rw [e3, e4, e2, extract_mid, textS_size, putS_size]
  congr 2
  omega
theorem takeText_cut (a s : ByteArray) (hs : s.size ≤ 999999) (m : Nat) (hm : m < (textS s).size) : (takeTextP (a ++ (textS s).extract 0 m) a.size).2.2 = 8 := by
  have hz : ((textS s).extract 0 m).size = m := by rw [ByteArray.size_extract]; omega
  rw [textS_size, putS_size] at hm
  by_cases g : m < (putL s.size).length
  · have e : (textS s).extract 0 m = (putS s.size).extract 0 m := by
      rw [Lib.extract_eq, Lib.extract_eq, List.drop_zero, List.drop_zero]
      unfold textS
      rw [data_app, List.take_append_of_le_length (by rw [size_list, putS_size]; omega)]
    unfold takeTextP
    rw [e, take_cut a (n := s.size) (by omega) (by omega) m g]; rfl
  · have e : (textS s).extract 0 m = putS s.size ++ s.extract 0 (m - (putL s.size).length) := by
      have h : (textS s).data.toList.take m = (putS s.size).data.toList ++ s.data.toList.take (m - (putL s.size).length) := by
        unfold textS
        rw [data_app, List.take_append, List.take_of_length_le (by rw [size_list, putS_size]; omega), size_list, putS_size]
      rw [Lib.extract_eq, List.drop_zero, Nat.sub_zero, h, Lib.extract_eq, List.drop_zero, Nat.sub_zero]
      apply ByteArray.ext
      apply Array.ext'
      rw [data_app]
    have ht := take_put a (s.extract 0 (m - (putL s.size).length)) (n := s.size) (by omega) (by omega)
    rw [ByteArray.append_assoc, ← e] at ht
    unfold takeTextP
    rw [ht]
    dsimp only
    rw [if_pos rfl, if_pos]
    rw [ByteArray.size_append, hz]; omega
end Go.Proofs.Ytnppmhijoaeibaa.H
