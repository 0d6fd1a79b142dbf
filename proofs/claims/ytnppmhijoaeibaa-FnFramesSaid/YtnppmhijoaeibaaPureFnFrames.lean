/- FnFrames: frames are read back; with another byte in their texts, or with fewer bytes or with more, they are none. No condition beyond the statement's own. -/
import Derived.Test.YtnppmhijoaeibaaPFnFramesx1
import Derived.Test.YtnppmhijoaeibaaSrcP
import Derived.Test.YtnppmhijoaeibaaFramesP
import Derived.Test.YtnppmhijoaeibaaHexP
set_option linter.unusedVariables false
set_option linter.unusedSimpArgs false
namespace Go.Proofs.Ytnppmhijoaeibaa.Pure
open Go.RowKit Go.Proofs.Ytnppmhijoaeibaa.Q Go.Proofs.YtnppmhijoaeibaaW.PrintWords Go.Proofs.YtnppmhijoaeibaaW.PrintLast Go.Proofs.Ytnppmhijoaeibaa.H

theorem frameT {t : ByteArray} (h : t.size ≤ 65520) : Ev (fun k => impl_FrameText.f k t) (frameS t, 0) := by
  refine Ev.congr (fun k => ?_) ((frame_eq (t := t) (by omega)).bind (f := fun _ r => some (r, (0 : Int))) (Ev.const rfl))
  unfold impl_FrameText.f impl_isLong.f; simp only [Option.bind_some, decide_eq_true_eq]; rw [if_neg (by omega), if_neg (by omega)]
theorem frameTs {t : ByteArray} (h : t.size ≤ 65520) : Ev (fun k => spec_FrameText.f k t) (frameS t, 0) := by
  refine Ev.congr (fun k => ?_) ((l01Frame_eq (t := t) (by omega)).bind (f := fun _ r => some (r, (0 : Int))) (Ev.const rfl))
  unfold spec_FrameText.f; rw [if_neg (by omega), if_neg (by omega)]
theorem readF {t : ByteArray} (h : t.size ≤ 65536) : Ev (fun k => impl_ReadFrame.f k t) (readFrameP t) := by
  refine Ev.congr (fun k => ?_) ((readFrame_eq (t := t) (by omega)).bind (f := fun _ r => some (r.1, r.2)) (Ev.const rfl))
  unfold impl_ReadFrame.f impl_isLong.f; simp only [Option.bind_some, decide_eq_true_eq]; rw [if_neg (by omega)]
theorem sumO {t : ByteArray} (h : t.size ≤ 65536) : Ev (fun k => impl_SumOf.f k t) (sumP t) := by
  refine Ev.congr (fun k => ?_) ((sumOf_eq (t := t) (by omega)).bind (f := fun _ r => some r) (Ev.const rfl))
  unfold impl_SumOf.f impl_isLong.f; simp only [Option.bind_some, decide_eq_true_eq]; rw [if_neg (by omega)]
theorem sumOs {t : ByteArray} (h : t.size ≤ 65536) : Ev (fun k => spec_SumOf.f k t) (sumP t) := by
  refine Ev.congr (fun k => ?_) ((l01Sum_eq (t := t) (by omega)).bind (f := fun _ r => some r) (Ev.const rfl))
  unfold spec_SumOf.f; rw [if_neg (by omega)]

set_option maxHeartbeats 4000000 in
theorem FnFrames : laws_FnFrames.Pure := by
  intro l0 l1 x0 x1 v0 x2 x3 v1
  clear x0 x1 x2 x3
  refine Ev.rounds ?_
  unfold laws_FnFrames.f
  by_cases h : (l0.length : Int) > 1048576
  · refine Ev.val 1 fun k => ?_
    rw [if_pos h, laws_FnFrames.j0, if_pos rfl]
  simp only [if_neg h]
  by_cases h' : (l1.length : Int) > 1048576
  · refine Ev.val 1 fun k => ?_
    rw [laws_FnFrames.j0, if_pos (by simpa using h')]
  have b0 := bytes_of v0
  have b1 := bytes_of v1
  have hd : decide ((l1.length : Int) > 1048576) = false := by simpa using h'
  rw [hd]
  refine Ev.step (f := ?f) (fun k => ?h) ?e
  case h => rw [laws_FnFrames.j0, if_neg (by decide)]
  obtain ⟨n0, e0, p0, q0⟩ := at_some (by omega) b1 0 60 (by omega) (by omega) (by omega)
  have w0 : wrap64 (1 + n0) = 1 + n0 := wid (by omega) (by omega)
  simp only [e0, w0, Option.bind_some]
  clear w0
  obtain ⟨t, f0, zt⟩ := someText b0 (by omega) (1 + n0) (by omega) (by omega)
  have hs : t.size < 128 := by omega
  have h1 : 1 ≤ t.size := by omega
  have hl1 : l1.length ≤ 1048576 := by omega
  clear zt p0 q0 e0 hd h h'
  refine f0.bind ?_
  have hz := frameS_small hs
  refine (frameT (t := t) (by omega)).bind ?_
  refine (frameTs (t := t) (by omega)).bind ?_
  refine (readF (t := frameS t) (by omega)).bind ?_
  rw [frame_back hs]
  have w1 : wrap64 (5 + (t.size : Int)) = 5 + t.size := wid (by omega) (by omega)
  have d1 : decide (((frameS t).size : Int) < 5 + t.size) = false := by simp; omega
  simp only [if_true, w1, d1]
  clear w1 d1
  refine Ev.step (f := ?f2) (fun k => ?h2) ?e2
  case h2 => rw [laws_FnFrames.j1, if_neg (by decide)]
  obtain ⟨n1, e1, p1, q1⟩ := at_some (l := l1) hl1 b1 1 t.size (by omega) (by omega) (by omega)
  obtain ⟨n2, e2, p2, q2⟩ := at_some (l := l1) hl1 b1 2 255 (by omega) (by omega) (by omega)
  obtain ⟨n3, e3, p3, q3⟩ := at_some (l := l1) hl1 b1 3 (frameS t).size (by omega) (by omega) (by omega)
  have w2 : wrap64 (3 + n1) = 3 + n1 := wid (by omega) (by omega)
  have w3 : wrap64 (3 + n1 + 1) = 3 + n1 + 1 := wid (by omega) (by omega)
  have w4 : wrap64 (1 + n2) % 256 = 1 + n2 := by rw [wid (by omega) (by omega)]; omega
  obtain ⟨i, rfl⟩ := Int.eq_ofNat_of_zero_le (show 0 ≤ 3 + n1 by omega) |> fun ⟨i, hi⟩ => (⟨i, by omega⟩ : ∃ i : Nat, n1 = (i : Int) - 3)
  have c0 : 3 + ((i : Int) - 3) = i := by omega
  rw [c0] at w2 w3
  have hx := xor_other (bt_range (frameS t) (i : Int)) (m := 1 + n2) (by omega)
  have g0 : (0 ≤ (i : Int)) = True := eq_true (by omega)
  have g1 : ((i : Int) ≤ ((frameS t).size : Int)) = True := eq_true (by omega)
  have g2 : ((i : Int) < ((frameS t).size : Int)) = True := eq_true (by omega)
  have g3 : (0 ≤ (i : Int) + 1) = True := eq_true (by omega)
  have g4 : ((i : Int) + 1 ≤ ((frameS t).size : Int)) = True := eq_true (by omega)
  have g5 : (0 ≤ n3) = True := eq_true p3
  have g6 : (n3 ≤ ((frameS t).size : Int)) = True := eq_true (by omega)
  have z1 : ((frameS t).extract 0 i).size = i := by rw [ByteArray.size_extract]; omega
  have z2 : (strOfNums [Go.bits .xor .u8 (bt (frameS t) i) (1 + n2)]).size = 1 := strOfNums_size _
  have z3 : ((frameS t).extract (i + 1) (frameS t).size).size = (frameS t).size - (i + 1) := by rw [ByteArray.size_extract]; omega
  have c1 : ((i : Int) + 1).toNat = i + 1 := by omega
  have g7 : (((frameS t).extract 0 i).size + (strOfNums [Go.bits .xor .u8 (bt (frameS t) i) (1 + n2)]).size ≤ 9223372036854775807) = True := eq_true (by omega)
  have g8 : (((frameS t).extract 0 i ++ strOfNums [Go.bits .xor .u8 (bt (frameS t) i) (1 + n2)]).size + ((frameS t).extract (i + 1) (frameS t).size).size ≤ 9223372036854775807) = True := eq_true (by rw [ByteArray.size_append]; omega)
  have g9 : ((frameS t).size + 1 ≤ 9223372036854775807) = True := eq_true (by omega)
  have hh := hexS_size t
  have g10 : ((hexS t).size + 1 ≤ 9223372036854775807) = True := eq_true (by omega)
  simp only [c0, w2, w3, w4, c1, e1, e2, e3, Int.toNat_natCast, g0, g1, g2, g3, g4, g5, g6, g7, g8, g9, if_true, Option.bind_some]
  have r1 := frame_changed hs i (by omega) (by omega) (Go.bits .xor .u8 (bt (frameS t) i) (1 + n2)) ⟨hx.1, hx.2.1⟩ hx.2.2
  have r2 := frame_less hs n3.toNat (by omega)
  have r3 := frame_more hs (⟨#[120]⟩ : ByteArray) (by decide)
  refine (readF (t := (frameS t).extract 0 i ++ strOfNums [Go.bits .xor .u8 (bt (frameS t) i) (1 + n2)] ++ (frameS t).extract (i + 1) (frameS t).size) (by rw [ByteArray.size_append, ByteArray.size_append]; omega)).bind ?_
  refine (readF (t := (frameS t).extract 0 n3.toNat) (by rw [ByteArray.size_extract]; omega)).bind ?_
  refine (readF (t := frameS t ++ ⟨#[120]⟩) (by rw [ByteArray.size_append, hz]; show t.size + 5 + 1 ≤ _; omega)).bind ?_
  rw [r1, r2, r3]
  refine (HexOf_eq (t := t) (by omega)).bind ?_
  refine (BytesOf_back (t := t) (by omega)).bind ?_
  simp only [g10, if_true]
  have z4 : (hexS t ++ (⟨#[48]⟩ : ByteArray)).size = 2 * t.size + 1 := by rw [ByteArray.size_append, hh]; rfl
  refine (BytesOf_odd (t := hexS t ++ ⟨#[48]⟩) (by omega) (by omega)).bind ?_
  clear r1 r2 r3 hx g7 g8
  have fin : Ev (fun k => (impl_SumOf.f k t).bind fun t126 => (spec_SumOf.f k t).bind fun t127 => if t126 = t127 then (spec_HexOf.f k t).bind fun t128 => if (hexS t).toList = t128.toList then (if (0 : Int) = 0 then (if t.toList = t.toList then some ((3 : Int) == 3) else none) else none) else none else none) true := by
    refine (sumO (t := t) (by omega)).bind ?_
    refine (sumOs (t := t) (by omega)).bind ?_
    simp only [if_true]
    refine (HexOf_eqs (t := t) (by omega)).bind ?_
    exact Ev.const (by simp)
  by_cases g : n3.toNat < 5
  · simp only [if_pos g, show ((3 : Int) = 8) = False from by simp, if_false, if_true] at fin ⊢
    exact fin
  · simp only [if_neg g, if_true] at fin ⊢
    exact fin

end Go.Proofs.Ytnppmhijoaeibaa.Pure
