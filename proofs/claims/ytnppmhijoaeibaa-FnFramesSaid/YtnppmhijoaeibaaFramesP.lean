/- Frames: a frame is read back; with another byte in its text, with fewer bytes or with more it is none. Hexadecimal texts are read back. In plain Lean. -/
import Derived.Test.YtnppmhijoaeibaaNumbersP
import Derived.Test.YtnppmhijoaeibaaPHexx
set_option linter.unusedVariables false
set_option linter.unusedSimpArgs false
namespace Go.Proofs.Ytnppmhijoaeibaa.H
open Go.RowKit Go.Proofs.YtnppmhijoaeibaaW.PrintWords Go.Proofs.Ytnppmhijoaeibaa.Q

theorem ba_ext {a b : ByteArray} (h : a.data.toList = b.data.toList) : a = b := ByteArray.ext (Array.ext' h)
theorem extract_left (a b : ByteArray) : (a ++ b).extract 0 a.size = a := by
  apply ba_ext
  rw [Lib.extract_data, data_app, List.drop_zero, Nat.sub_zero, ← size_list a, List.take_left]
theorem extract_right (a b : ByteArray) : (a ++ b).extract a.size (a ++ b).size = b := by
  apply ba_ext
  rw [Lib.extract_data, data_app, ← size_list a, List.drop_left, ← size_list (a ++ b), data_app, List.length_append, Nat.add_sub_cancel_left, List.take_length]
/-! ### what is read where the head stands -/
theorem takeTextP_small {t : ByteArray} {n : Int} (h : bt t 2 = n) (hn : n < 128) (hs : 5 ≤ t.size) :
    takeTextP t 2 = if n > (t.size : Int) - 3 then (noS, 0, 8) else (t.extract 3 (3 + n).toNat, 3 + n, 0) := by
  have hp : takeP t 2 = (n, 3, 0) := by unfold takeP; rw [if_neg (by omega), if_pos (by omega), h]; rfl
  unfold takeTextP
  rw [hp]
  dsimp only
  rw [if_pos rfl]; rfl
theorem sum2_inj {u v : ByteArray} (h : sum2 u = sum2 v) : sumP u = sumP v := by
  have ru := sumP_range u
  have rv := sumP_range v
  have e : (sum2 u).toList.map (fun b => (b.toNat : Int)) = (sum2 v).toList.map (fun b => (b.toNat : Int)) := by rw [h]
  unfold sum2 at e
  rw [strOfNums_two _ _ (by omega) (by omega) (by omega) (by omega), strOfNums_two _ _ (by omega) (by omega) (by omega) (by omega)] at e
  simp at e
  omega
theorem sumL_inj (l : List UInt8) : ∀ {n m : Int}, 0 ≤ n → n < 65521 → 0 ≤ m → m < 65521 → sumL l n = sumL l m → n = m := by
  induction l with
  | nil => intro n m _ _ _ _ h; exact h
  | cons b l ih =>
    intro n m h0 h1 h2 h3 h
    have := ih (n := (31 * n + b.toNat) % 65521) (m := (31 * m + b.toNat) % 65521) (by omega) (by omega) (by omega) (by omega) h
    omega
theorem sumL_app (l l' : List UInt8) (n : Int) : sumL (l ++ l') n = sumL l' (sumL l n) := by unfold sumL; rw [List.foldl_append]
/-- With one byte changed the sum is another. -/
theorem sumL_changed (A B : List UInt8) (x y : UInt8) (h : x ≠ y) : sumL (A ++ x :: B) 1 ≠ sumL (A ++ y :: B) 1 := by
  intro e
  rw [sumL_app, sumL_app] at e
  have r := sumL_range A (n := 1) (by omega) (by omega)
  generalize sumL A 1 = s at *
  have := sumL_inj B (n := (31 * s + x.toNat) % 65521) (m := (31 * s + y.toNat) % 65521) (by omega) (by omega) (by omega) (by omega) e
  have hx := x.toNat_lt
  have hy := y.toNat_lt
  have hxy : x.toNat ≠ y.toNat := fun e => h (UInt8.toNat_inj.1 e)
  omega
/-- A body: the letters, a length below 128, as many bytes. -/
structure BodyOk (u : ByteArray) (n : Int) : Prop where
  co : u.data.toList.take 2 = [67, 79]
  len : bt u 2 = n
  small : n < 128
  size : (u.size : Int) = 3 + n
theorem bt_app_left (a b : ByteArray) (i : Int) (h0 : 0 ≤ i) (h : i < a.size) : bt (a ++ b) i = bt a i := by
  have := bt_left a b i.toNat (by omega)
  rwa [Int.toNat_of_nonneg h0] at this
theorem isCO_app {u : ByteArray} {n : Int} (hu : BodyOk u n) (h0 : 0 ≤ n) (v : ByteArray) : isCO (u ++ v) = true := by
  have h2 : 2 ≤ u.data.toList.length := by rw [size_list]; have := hu.size; omega
  unfold isCO
  rw [Lib.extract_toList, data_app, List.drop_zero, Nat.sub_zero, List.take_append_of_le_length h2, hu.co]
  decide
theorem readFrame_app {u v : ByteArray} {n : Int} (hu : BodyOk u n) (h0 : 0 ≤ n) (hv : v.size = 2) :
    readFrameP (u ++ v) = if sum2 u = v then (u.extract 3 (3 + n).toNat, 0) else (noS, 9) := by
  have hz : ((u ++ v).size : Int) = 5 + n := by rw [ByteArray.size_append]; have := hu.size; omega
  have hl := hu.small
  have h3 := hu.size
  have hb : bt (u ++ v) 2 = n := by rw [bt_app_left _ _ _ (by omega) (by omega), hu.len]
  unfold readFrameP
  rw [if_neg (by omega), isCO_app hu h0, if_neg (by simp), takeTextP_small hb hl (by omega), if_neg (show ¬ n > (((u ++ v).size : Nat) : Int) - 3 by omega)]
  dsimp only
  have e1 : (3 + n).toNat = u.size := by omega
  rw [if_pos rfl, if_pos (by omega), e1, extract_left, extract_right]
  have e2 : (u ++ v).extract 3 u.size = u.extract 3 u.size := by
    apply ba_ext
    rw [Lib.extract_data, Lib.extract_data, data_app]
    rw [List.drop_append_of_le_length (by rw [size_list]; omega), List.take_append_of_le_length (by rw [List.length_drop, size_list]; omega)]
  rw [e2]
  by_cases g : sum2 u = v
  · rw [if_pos g, if_pos (by rw [g])]
  · have g2 : ¬ (sum2 u).toList = v.toList := fun e => g (ba_ext (by rw [← Lib.toList_data, ← Lib.toList_data, e]))
    rw [if_neg g, if_neg g2]
theorem putL_small {n : Int} (h0 : 0 ≤ n) (h : n < 128) : putL n = [n] := by unfold putL; rw [if_neg (by omega), if_neg (by omega)]; congr 1; omega
theorem bodyS_ok {s : ByteArray} (hs : s.size < 128) : BodyOk (bodyS s) s.size := by
  have hp := putL_small (n := s.size) (by omega) (by omega)
  have e : (bodyS s).data.toList = [67, 79] ++ ((putS s.size).data.toList ++ s.data.toList) := by unfold bodyS textS; rw [data_app, data_app]; rfl
  have ep : (putS s.size).data.toList = [UInt8.ofNat s.size] := by unfold putS; rw [hp]; simp [strOfNums]
  refine ⟨by rw [e]; rfl, ?_, by omega, ?_⟩
  · rw [bt_list, e, ep]
    simp [UInt8.toNat_ofNat']
    omega
  · rw [bodyS_size, textS_size, putS_size, hp]; simp; omega
theorem bodyS_text {s : ByteArray} (hs : s.size < 128) : (bodyS s).extract 3 (3 + (s.size : Int)).toNat = s := by
  have hp := putL_small (n := s.size) (by omega) (by omega)
  have e : (bodyS s).data.toList = ([67, 79] ++ (putS s.size).data.toList) ++ s.data.toList := by unfold bodyS textS; rw [data_app, data_app, List.append_assoc]; rfl
  have hl : ([67, 79] ++ (putS s.size).data.toList : List UInt8).length = 3 := by rw [List.length_append, size_list, putS_size, hp]; rfl
  apply ba_ext
  rw [Lib.extract_data, e, show (3 : Nat) = ([67, 79] ++ (putS s.size).data.toList : List UInt8).length from hl.symm, List.drop_left, List.take_of_length_le]
  rw [hl, size_list]; omega
/-- A frame is read back. -/
theorem frame_back {s : ByteArray} (hs : s.size < 128) : readFrameP (frameS s) = (s, 0) := by
  unfold frameS
  rw [readFrame_app (bodyS_ok hs) (by omega) (sum2_size _), if_pos rfl, bodyS_text hs]
theorem frameS_small {s : ByteArray} (hs : s.size < 128) : (frameS s).size = s.size + 5 := by
  have := (bodyS_ok hs).size
  unfold frameS
  rw [ByteArray.size_append, sum2_size]; omega
/-- With a byte behind it, it is none. -/
theorem frame_more {s : ByteArray} (hs : s.size < 128) (b : ByteArray) (hb : 0 < b.size) : (readFrameP (frameS s ++ b)).2 = 8 := by
  have hu := bodyS_ok hs
  have h3 := hu.size
  have hz := frameS_small hs
  have e : frameS s ++ b = bodyS s ++ (sum2 (bodyS s) ++ b) := by unfold frameS; rw [ByteArray.append_assoc]
  have hz2 : (frameS s ++ b).size = s.size + 5 + b.size := by rw [ByteArray.size_append, hz]
  have h2 : bt (frameS s ++ b) 2 = s.size := by rw [e, bt_app_left _ _ _ (by omega) (by omega), hu.len]
  unfold readFrameP
  rw [if_neg (by omega), e, isCO_app hu (by omega), if_neg (by simp), ← e, takeTextP_small h2 (by omega) (by omega), if_neg (show ¬ (s.size : Int) > (((frameS s ++ b).size : Nat) : Int) - 3 by omega)]
  dsimp only
  rw [if_pos rfl, if_neg (by omega)]
/-- With fewer bytes it is none. -/
theorem frame_less {s : ByteArray} (hs : s.size < 128) (m : Nat) (hm : m < (frameS s).size) : (readFrameP ((frameS s).extract 0 m)).2 = if m < 5 then 3 else 8 := by
  have hu := bodyS_ok hs
  have h3 := hu.size
  have hz := frameS_small hs
  have hz2 : ((frameS s).extract 0 m).size = m := by rw [ByteArray.size_extract]; omega
  unfold readFrameP
  by_cases g : m < 5
  · rw [if_pos g, if_pos (by omega)]
  have h2 : bt ((frameS s).extract 0 m) 2 = s.size := by
    rw [bt_list, Lib.extract_data, List.drop_zero, Nat.sub_zero, List.getElem?_take_of_lt (by show 2 < m; omega), ← bt_list]
    unfold frameS
    rw [bt_app_left _ _ _ (by omega) (by omega), hu.len]
  have hc : isCO ((frameS s).extract 0 m) = true := by
    have := isCO_app hu (by omega) (sum2 (bodyS s))
    unfold isCO at this ⊢
    rw [Lib.extract_toList, List.drop_zero, Nat.sub_zero] at this ⊢
    rw [Lib.extract_data, List.drop_zero, Nat.sub_zero, List.take_take, Nat.min_eq_left (by omega)]
    exact this
  rw [if_neg (by omega), hc, if_neg (by simp), takeTextP_small h2 (by omega) (by omega), if_neg g]
  by_cases g2 : (s.size : Int) > ((((frameS s).extract 0 m).size : Nat) : Int) - 3
  · rw [if_pos g2]; rfl
  · rw [if_neg g2]
    dsimp only
    rw [if_pos rfl, if_neg (by omega)]
/-- With another byte in its text it is none. -/
theorem frame_changed {s : ByteArray} (hs : s.size < 128) (i : Nat) (h0 : 3 ≤ i) (h1 : i < 3 + s.size) (x : Int) (hx : 0 ≤ x ∧ x ≤ 255) (hne : x ≠ bt (frameS s) i) :
    (readFrameP ((frameS s).extract 0 i ++ strOfNums [x] ++ (frameS s).extract (i + 1) (frameS s).size)).2 = 9 := by
  have hu := bodyS_ok hs
  have h3 := hu.size
  have hz := frameS_small hs
  have hlen : (bodyS s).data.toList.length = s.size + 3 := by rw [size_list]; omega
  have eB : (bodyS s).data.toList = (bodyS s).data.toList.take i ++ (bodyS s).data.toList[i]'(by omega) :: (bodyS s).data.toList.drop (i + 1) := by
    rw [← List.drop_eq_getElem_cons, List.take_append_drop]
  have hb : bt (frameS s) i = (((bodyS s).data.toList[i]'(by omega)).toNat : Int) := by
    unfold frameS
    rw [bt_app_left _ _ _ (by omega) (by omega), bt_list, Int.toNat_natCast, List.getElem?_eq_getElem (by omega)]; rfl
  let u : ByteArray := ⟨((bodyS s).data.toList.take i ++ UInt8.ofNat x.toNat :: (bodyS s).data.toList.drop (i + 1)).toArray⟩
  have du : u.data.toList = (bodyS s).data.toList.take i ++ UInt8.ofNat x.toNat :: (bodyS s).data.toList.drop (i + 1) := by simp [u]
  have e : (frameS s).extract 0 i ++ strOfNums [x] ++ (frameS s).extract (i + 1) (frameS s).size = u ++ sum2 (bodyS s) := by
    apply ba_ext
    rw [data_app, data_app, data_app, Lib.extract_data, Lib.extract_data, du]
    have ef : (frameS s).data.toList = (bodyS s).data.toList ++ (sum2 (bodyS s)).data.toList := by unfold frameS; rw [data_app]
    rw [ef, List.drop_zero, Nat.sub_zero, List.take_append_of_le_length (by omega), List.drop_append_of_le_length (by omega), List.take_of_length_le (i := (frameS s).size - (i + 1))]
    · simp [strOfNums]
    · rw [List.length_append, List.length_drop, hlen, size_list, sum2_size, hz]; omega
  have ok : BodyOk u s.size := by
    refine ⟨?_, ?_, by omega, ?_⟩
    · rw [du, List.take_append_of_le_length (by rw [List.length_take]; omega), List.take_take, Nat.min_eq_left (by omega), hu.co]
    · rw [bt_list, du, List.getElem?_append_left (by rw [List.length_take]; show 2 < _; omega), List.getElem?_take_of_lt (by show 2 < i; omega), ← bt_list, hu.len]
    · rw [← size_list, du, List.length_append, List.length_cons, List.length_take, List.length_drop, hlen]; omega
  rw [e, readFrame_app ok (by omega) (sum2_size _), if_neg]
  intro h
  have := sum2_inj h
  unfold sumP at this
  rw [du] at this
  refine sumL_changed _ _ _ _ ?_ (this.trans (congrArg (sumL · 1) eB))
  intro hh
  apply hne
  rw [hb, ← hh, UInt8.toNat_ofNat']
  omega
theorem xor_other {x m : Int} (hx : 0 ≤ x ∧ x ≤ 255) (hm : 1 ≤ m ∧ m ≤ 255) : 0 ≤ Go.bits .xor .u8 x m ∧ Go.bits .xor .u8 x m ≤ 255 ∧ Go.bits .xor .u8 x m ≠ x := by
  have e : Go.bits .xor .u8 x m = (((BitVec.ofInt 8 x) ^^^ (BitVec.ofInt 8 m)).toNat : Int) % 256 := by
    unfold Go.bits
    show IntKind.u8.wrap _ = _
    have := ((BitVec.ofInt 8 x) ^^^ (BitVec.ofInt 8 m)).isLt
    unfold IntKind.wrap
    rfl
  have hlt := ((BitVec.ofInt 8 x) ^^^ (BitVec.ofInt 8 m)).isLt
  refine ⟨by omega, by omega, fun h => ?_⟩
  have h2 : ((BitVec.ofInt 8 x) ^^^ (BitVec.ofInt 8 m)) = BitVec.ofInt 8 x := by
    apply BitVec.eq_of_toNat_eq
    have : (BitVec.ofInt 8 x).toNat = x.toNat := by rw [BitVec.toNat_ofInt]; omega
    omega
  have h3 : BitVec.ofInt 8 m = 0#8 := by
    have e2 : BitVec.ofInt 8 x ^^^ (BitVec.ofInt 8 x ^^^ BitVec.ofInt 8 m) = BitVec.ofInt 8 m := by rw [← BitVec.xor_assoc, BitVec.xor_self, BitVec.zero_xor]
    rw [h2, BitVec.xor_self] at e2
    exact e2.symm
  have h4 : (BitVec.ofInt 8 m).toNat = m.toNat := by rw [BitVec.toNat_ofInt]; omega
  rw [h3] at h4
  simp at h4
  omega
end Go.Proofs.Ytnppmhijoaeibaa.H
