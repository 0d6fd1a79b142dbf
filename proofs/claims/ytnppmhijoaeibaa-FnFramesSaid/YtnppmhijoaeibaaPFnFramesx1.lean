-- Written by wip/tools/gprint.py over the translation: functions, each with its contract.
import Derived.Test.YtnppmhijoaeibaaPFnFramesx0
namespace Go.Proofs.Ytnppmhijoaeibaa.Q
open Go.RowKit Go.Proofs.YtnppmhijoaeibaaW.PrintWords Go.Proofs.YtnppmhijoaeibaaW.PrintLast Go.Proofs.YtnppmhijoaeibaaW.PrintMore
open Go.Proofs.Ytnppmhijoaeibaa.H
attribute [local go_sem] max2_int min2_int max_two min_two max_three min_three max_four min_four   -- for this text's walks alone
set_option linter.unusedVariables false
set_option linter.unusedSimpArgs false

/-! ### laws_FnFrames: function 10 -/
mutual
def laws_FnFrames.j0 : Nat → List Int → List Int → Bool → Option (Bool)
  | 0, _, _, _ => none
  | k + 1, x0, x1, x31 => if x31 = true then (some true) else ((laws_at.f x1 0 60).bind fun t101 => ((spec_SomeText.f k x0 (wrap64 (1 + t101))).bind fun t102 => ((impl_FrameText.f k t102).bind fun bt103 => ((spec_FrameText.f k t102).bind fun bt105 => ((impl_ReadFrame.f k bt103.1).bind fun bt107 => (if bt103.2 = 0 then (if bt103.1.toList = bt105.1.toList then (if bt107.2 = 0 then (if bt107.1.toList = t102.toList then (laws_FnFrames.j1 k x1 t102 bt103.1 (decide ((bt103.1.size : Int) < (wrap64 (5 + (t102.size : Int)))))) else (laws_FnFrames.j1 k x1 t102 bt103.1 true)) else (laws_FnFrames.j1 k x1 t102 bt103.1 true)) else (laws_FnFrames.j1 k x1 t102 bt103.1 true)) else (laws_FnFrames.j1 k x1 t102 bt103.1 true)))))))
def laws_FnFrames.j1 : Nat → List Int → ByteArray → ByteArray → Bool → Option (Bool)
  | 0, _, _, _, _ => none
  | k + 1, x1, x5, x6, x75 => if x75 = true then (none) else ((laws_at.f x1 1 (x5.size : Int)).bind fun t109 => (if 0 ≤ (wrap64 (3 + t109)) then (if (wrap64 (3 + t109)) ≤ (x6.size : Int) then (if (wrap64 (3 + t109)) < (x6.size : Int) then ((laws_at.f x1 2 255).bind fun t110 => ((some (([Go.bits .xor .u8 (bt x6 (wrap64 (3 + t109))) ((wrap64 (1 + t110)) % 256)] : List Int) : List Int)).bind fun y111 => (if (x6.extract 0 ((wrap64 (3 + t109)) : Int).toNat).size + (strOfNums y111).size ≤ 9223372036854775807 then (if 0 ≤ (wrap64 ((wrap64 (3 + t109)) + 1)) then (if (wrap64 ((wrap64 (3 + t109)) + 1)) ≤ (x6.size : Int) then (if ((x6.extract 0 ((wrap64 (3 + t109)) : Int).toNat) ++ (strOfNums y111)).size + (x6.extract ((wrap64 ((wrap64 (3 + t109)) + 1)) : Int).toNat x6.size).size ≤ 9223372036854775807 then ((impl_ReadFrame.f k (((x6.extract 0 ((wrap64 (3 + t109)) : Int).toNat) ++ (strOfNums y111)) ++ (x6.extract ((wrap64 ((wrap64 (3 + t109)) + 1)) : Int).toNat x6.size))).bind fun bt114 => ((laws_at.f x1 3 (x6.size : Int)).bind fun t116 => (if 0 ≤ t116 then (if t116 ≤ (x6.size : Int) then ((impl_ReadFrame.f k (x6.extract 0 (t116 : Int).toNat)).bind fun bt117 => (if x6.size + 1 ≤ 9223372036854775807 then ((impl_ReadFrame.f k (x6 ++ (⟨#[120]⟩ : ByteArray))).bind fun bt119 => ((impl_HexOf.f k x5).bind fun t121 => ((impl_BytesOf.f k t121).bind fun bt122 => (if t121.size + 1 ≤ 9223372036854775807 then ((impl_BytesOf.f k (t121 ++ (⟨#[48]⟩ : ByteArray))).bind fun bt124 => (if bt114.2 = 9 then (if bt117.2 = 8 then (if bt119.2 = 8 then ((impl_SumOf.f k x5).bind fun t126 => ((spec_SumOf.f k x5).bind fun t127 => (if t126 = t127 then ((spec_HexOf.f k x5).bind fun t128 => (if t121.toList = t128.toList then (if bt122.2 = 0 then (if bt122.1.toList = x5.toList then (some (bt124.2 == 3)) else (none)) else (none)) else (none))) else (none)))) else (none)) else (if bt117.2 = 3 then (if bt119.2 = 8 then ((impl_SumOf.f k x5).bind fun t129 => ((spec_SumOf.f k x5).bind fun t130 => (if t129 = t130 then ((spec_HexOf.f k x5).bind fun t131 => (if t121.toList = t131.toList then (if bt122.2 = 0 then (if bt122.1.toList = x5.toList then (some (bt124.2 == 3)) else (none)) else (none)) else (none))) else (none)))) else (none)) else (none))) else (none))) else (none))))) else (none))) else (none)) else (none)))) else (none)) else (none)) else (none)) else (none)))) else (none)) else (none)) else (none)))
end
def laws_FnFrames.f (k : Nat) (l0 : List Int) (l1 : List Int) : Option (Bool) := if (l0.length : Int) > 1048576 then (laws_FnFrames.j0 k l0 l1 true) else (laws_FnFrames.j0 k l0 l1 (decide ((l1.length : Int) > 1048576)))
theorem laws_FnFrames.mono_l : ∀ k, (∀ y0 y1 y2, LeO (laws_FnFrames.j0 k y0 y1 y2) (laws_FnFrames.j0 (k + 1) y0 y1 y2)) ∧ (∀ y0 y1 y2 y3, LeO (laws_FnFrames.j1 k y0 y1 y2 y3) (laws_FnFrames.j1 (k + 1) y0 y1 y2 y3))
  | 0 => ⟨fun _ _ _ r h => by simp [laws_FnFrames.j0] at h, fun _ _ _ _ r h => by simp [laws_FnFrames.j1] at h⟩
  | k + 1 => by
    obtain ⟨ih0, ih1⟩ := laws_FnFrames.mono_l k
    refine ⟨?_, ?_⟩
    · intro y0 y1 y2
      unfold laws_FnFrames.j0
      repeat' first
      | (with_reducible exact ih0 _ _ _)
      | (with_reducible exact ih1 _ _ _ _)
      | (with_reducible exact impl_BytesOf.mono _ _)
      | (with_reducible exact impl_FrameText.mono _ _)
      | (with_reducible exact impl_HexOf.mono _ _)
      | (with_reducible exact impl_ReadFrame.mono _ _)
      | (with_reducible exact impl_SumOf.mono _ _)
      | (with_reducible exact spec_FrameText.mono _ _)
      | (with_reducible exact spec_HexOf.mono _ _)
      | (with_reducible exact spec_SomeText.mono _ _ _)
      | (with_reducible exact spec_SumOf.mono _ _)
      | (with_reducible exact LeO.refl _)
      | (with_reducible exact LeO.none _)
      | (with_reducible refine LeO.ite ?_ ?_)
      | (with_reducible refine LeO.bind ?_ (fun _ => ?_))
      | exact ih0 _ _ _
      | exact ih1 _ _ _ _
      | exact impl_BytesOf.mono _ _
      | exact impl_FrameText.mono _ _
      | exact impl_HexOf.mono _ _
      | exact impl_ReadFrame.mono _ _
      | exact impl_SumOf.mono _ _
      | exact spec_FrameText.mono _ _
      | exact spec_HexOf.mono _ _
      | exact spec_SomeText.mono _ _ _
      | exact spec_SumOf.mono _ _
      | exact LeO.none _
      | refine LeO.ite ?_ ?_
      | refine LeO.bind ?_ (fun _ => ?_)
    · intro y0 y1 y2 y3
      unfold laws_FnFrames.j1
      repeat' first
      | (with_reducible exact ih0 _ _ _)
      | (with_reducible exact ih1 _ _ _ _)
      | (with_reducible exact impl_BytesOf.mono _ _)
      | (with_reducible exact impl_FrameText.mono _ _)
      | (with_reducible exact impl_HexOf.mono _ _)
      | (with_reducible exact impl_ReadFrame.mono _ _)
      | (with_reducible exact impl_SumOf.mono _ _)
      | (with_reducible exact spec_FrameText.mono _ _)
      | (with_reducible exact spec_HexOf.mono _ _)
      | (with_reducible exact spec_SomeText.mono _ _ _)
      | (with_reducible exact spec_SumOf.mono _ _)
      | (with_reducible exact LeO.refl _)
      | (with_reducible exact LeO.none _)
      | (with_reducible refine LeO.ite ?_ ?_)
      | (with_reducible refine LeO.bind ?_ (fun _ => ?_))
      | exact ih0 _ _ _
      | exact ih1 _ _ _ _
      | exact impl_BytesOf.mono _ _
      | exact impl_FrameText.mono _ _
      | exact impl_HexOf.mono _ _
      | exact impl_ReadFrame.mono _ _
      | exact impl_SumOf.mono _ _
      | exact spec_FrameText.mono _ _
      | exact spec_HexOf.mono _ _
      | exact spec_SomeText.mono _ _ _
      | exact spec_SumOf.mono _ _
      | exact LeO.none _
      | refine LeO.ite ?_ ?_
      | refine LeO.bind ?_ (fun _ => ?_)
theorem laws_FnFrames.mono : ∀ a0 a1 k, LeO (laws_FnFrames.f k a0 a1) (laws_FnFrames.f (k + 1) a0 a1) := by
  intro a0 a1 k
  obtain ⟨ih0, ih1⟩ := laws_FnFrames.mono_l k
  unfold laws_FnFrames.f
  repeat' first
      | (with_reducible exact ih0 _ _ _)
      | (with_reducible exact ih1 _ _ _ _)
      | (with_reducible exact impl_BytesOf.mono _ _)
      | (with_reducible exact impl_FrameText.mono _ _)
      | (with_reducible exact impl_HexOf.mono _ _)
      | (with_reducible exact impl_ReadFrame.mono _ _)
      | (with_reducible exact impl_SumOf.mono _ _)
      | (with_reducible exact spec_FrameText.mono _ _)
      | (with_reducible exact spec_HexOf.mono _ _)
      | (with_reducible exact spec_SomeText.mono _ _ _)
      | (with_reducible exact spec_SumOf.mono _ _)
      | (with_reducible exact LeO.refl _)
      | (with_reducible exact LeO.none _)
      | (with_reducible refine LeO.ite ?_ ?_)
      | (with_reducible refine LeO.bind ?_ (fun _ => ?_))
      | exact ih0 _ _ _
      | exact ih1 _ _ _ _
      | exact impl_BytesOf.mono _ _
      | exact impl_FrameText.mono _ _
      | exact impl_HexOf.mono _ _
      | exact impl_ReadFrame.mono _ _
      | exact impl_SumOf.mono _ _
      | exact spec_FrameText.mono _ _
      | exact spec_HexOf.mono _ _
      | exact spec_SomeText.mono _ _ _
      | exact spec_SumOf.mono _ _
      | exact LeO.none _
      | refine LeO.ite ?_ ?_
      | refine LeO.bind ?_ (fun _ => ?_)
def laws_FnFrames.T10 : Bool × List (List Nat × List Nat) := (true, [([], []), ([], []), ([0, 1], [0, 1]), ([], []), ([], []), ([3, 4], [3, 4]), ([], []), ([6], [6]), ([7], [7]), ([8], [8]), ([5, 9], [5, 9]), ([10], [10]), ([11], [11]), ([2, 12], [2, 12]), ([], []), ([], []), ([15], [15]), ([14, 16], [14, 16]), ([13, 17], [13, 17]), ([18, 7], [18]), ([19], [19]), ([20], [20]), ([20], [20]), ([21, 19, 0, 1, 2, 3, 4, 5, 6, 7, 8, 9, 10, 11, 12, 13, 14, 15, 16, 17, 18, 19, 20, 21], [21]), ([22, 23, 0, 1, 2, 3, 4, 5, 6, 7, 8, 9, 10, 11, 12, 13, 14, 15, 16, 17, 18, 19, 20, 21, 22, 23], [22])])
def laws_FnFrames.B10 : List Nat := [0, 0, 3, 0, 0, 24, 0, 64, 192, 448, 1016, 2040, 4088, 8191, 0, 0, 32768, 114688, 262143, 524287, 1048575, 2097151, 2097151, 4194303, 16777215]
theorem laws_FnFrames.tab10 : rtab .any (opsOf Try.f10 10) = laws_FnFrames.T10 := by kernel_rfl
theorem laws_FnFrames.bits10 : waitsOk laws_FnFrames.T10.2 laws_FnFrames.B10 = true := by kernel_rfl
set_option maxHeartbeats 8000000 in
set_option maxRecDepth 100000 in
theorem laws_FnFrames.calls (k : Nat) (A0 : Option Addr) (c0 : Nat) (l0 : List Int) (A1 : Option Addr) (c1 : Nat) (l1 : List Int) (r : Bool) (w : World) (hr0 : Kd.C (Kd.int .u8) w A0 l0.length l0) (hc0 : l0.length ≤ c0) (hr1 : Kd.C (Kd.int .u8) w A1 l1.length l1) (hc1 : l1.length ≤ c1) (h : laws_FnFrames.f k l0 l1 = some r) :
    Calls Try.prog 10 #[.slice A0 l0.length c0, .slice A1 l1.length c1] w fun e w' => e = .returned (.bool r) ∧ Below w.heap.size w w' := by
  have HR0 := Aside0.mk hr0
  have HC0 := Aside0.mk hc0
  clear hr0 hc0
  have HR1 := Aside0.mk hr1
  have HC1 := Aside0.mk hc1
  clear hr1 hc1
  have HB := Aside0.mk (Below.refl w.heap.size w)
  have H : (if (l0.length : Int) > 1048576 then (laws_FnFrames.j0 k l0 l1 true) else (laws_FnFrames.j0 k l0 l1 (decide ((l1.length : Int) > 1048576)))) = some r := h
  clear h
  have HC3 := Aside0.mk H
  clear H
  go_enter Try.func10, Try.ntmps10
  go_upto_region 1 with (fail)
  go_cut [31] (fun v31 wc => ∃ (kq : Nat) (x31_2 : Bool), v31 = .bool x31_2 ∧ Aside0 (laws_FnFrames.j0 kq l0 l1 x31_2 = some r) ∧ Aside0 (kq ≤ k) ∧ Aside0 (Below w.heap.size w wc))
  case first =>
    have H := HC3.out
    clear HC3
    by_cases c4 : (l0.length : Int) > 1048576
    · rw [if_pos c4] at H
      have c4b0 : decide (1048576 < (l0.length : Int)) = true := decide_eq_true c4
      have c4b1 : decide (1048576 < l0.length) = true := decide_eq_true (by omega)
      clear c4
      (first | rw [c4b0] | (simp only [i64_w, i32_w]; rw [c4b0]) | skip)
      have H' := Aside0.mk H
      clear H
      go_wp2
      go_meet
      case rel => exact ⟨_, (true), (by first | rfl | (simp; done) | (simp [*]; done)), H', ⟨by first | omega | exact Nat.le_refl _⟩, ⟨by repeat (first | (with_reducible first | exact HB.out | apply below_alloc | apply pw_below_drewN | apply below_drew1) | exact HB.out)⟩⟩
    · rw [if_neg c4] at H
      have c4b0 : decide (1048576 < (l0.length : Int)) = false := decide_eq_false c4
      have c4b1 : decide (1048576 < l0.length) = false := decide_eq_false (by omega)
      clear c4
      (first | rw [c4b0] | (simp only [i64_w, i32_w]; rw [c4b0]) | skip)
      have H' := Aside0.mk H
      clear H
      go_wp2
      go_meet
      case rel => exact ⟨_, (decide ((l1.length : Int) > 1048576)), (by first | rfl | (simp; done) | (simp [*]; done)), H', ⟨by first | omega | exact Nat.le_refl _⟩, ⟨by repeat (first | (with_reducible first | exact HB.out | apply below_alloc | apply pw_below_drewN | apply below_drew1) | exact HB.out)⟩⟩
  case rest =>
    clear HC3
    try clear c1
    try clear p2
    try clear c4
    try clear c4b0
    try clear c4b1
    obtain ⟨kq, x31_2, rfl, HA, HJ2, HB⟩ := hcut
    cases kq with
    | zero => exact absurd HA.out (by simp [laws_FnFrames.j0])
    | succ kj2 =>
      have H := HA.out
      clear HA
      simp only [laws_FnFrames.j0] at H
      by_cases c5 : x31_2 = true
      · subst c5
        have H1 : (some true) = some r := by rw [if_pos rfl] at H; exact H
        clear H
        have H := H1
        clear H1
        obtain rfl := Option.some.inj H
        go_wp2
        go_ret
        exact ⟨by first | rfl | (simp [errW_none, errW_some] <;> rfl) | (simp [*, errW_none, errW_some] <;> rfl), by repeat (first | (with_reducible first | exact HB.out | apply below_alloc | apply pw_below_drewN | apply below_drew1) | exact HB.out)⟩
      · replace c5 := Bool.eq_false_iff.mpr c5
        subst c5
        have H1 : ((laws_at.f l1 0 60).bind fun t101 => ((spec_SomeText.f kj2 l0 (wrap64 (1 + t101))).bind fun t102 => ((impl_FrameText.f kj2 t102).bind fun bt103 => ((spec_FrameText.f kj2 t102).bind fun bt105 => ((impl_ReadFrame.f kj2 bt103.1).bind fun bt107 => (if bt103.2 = 0 then (if bt103.1.toList = bt105.1.toList then (if bt107.2 = 0 then (if bt107.1.toList = t102.toList then (laws_FnFrames.j1 kj2 l1 t102 bt103.1 (decide ((bt103.1.size : Int) < (wrap64 (5 + (t102.size : Int)))))) else (laws_FnFrames.j1 kj2 l1 t102 bt103.1 true)) else (laws_FnFrames.j1 kj2 l1 t102 bt103.1 true)) else (laws_FnFrames.j1 kj2 l1 t102 bt103.1 true)) else (laws_FnFrames.j1 kj2 l1 t102 bt103.1 true))))))) = some r := by rw [if_neg (show ¬ (false = true) by decide)] at H; exact H
        clear H
        have H := H1
        clear H1
        replace H := Option.bind_eq_some_iff.mp H
        obtain ⟨t101, A60, H⟩ := H
        replace H : ((spec_SomeText.f kj2 l0 (wrap64 (1 + t101))).bind fun t102 => ((impl_FrameText.f kj2 t102).bind fun bt103 => ((spec_FrameText.f kj2 t102).bind fun bt105 => ((impl_ReadFrame.f kj2 bt103.1).bind fun bt107 => (if bt103.2 = 0 then (if bt103.1.toList = bt105.1.toList then (if bt107.2 = 0 then (if bt107.1.toList = t102.toList then (laws_FnFrames.j1 kj2 l1 t102 bt103.1 (decide ((bt103.1.size : Int) < (wrap64 (5 + (t102.size : Int)))))) else (laws_FnFrames.j1 kj2 l1 t102 bt103.1 true)) else (laws_FnFrames.j1 kj2 l1 t102 bt103.1 true)) else (laws_FnFrames.j1 kj2 l1 t102 bt103.1 true)) else (laws_FnFrames.j1 kj2 l1 t102 bt103.1 true)))))) = some r := H
        have A6 := Aside0.mk A60
        clear A60
        replace H := Option.bind_eq_some_iff.mp H
        obtain ⟨t102, A70, H⟩ := H
        replace H : ((impl_FrameText.f kj2 t102).bind fun bt103 => ((spec_FrameText.f kj2 t102).bind fun bt105 => ((impl_ReadFrame.f kj2 bt103.1).bind fun bt107 => (if bt103.2 = 0 then (if bt103.1.toList = bt105.1.toList then (if bt107.2 = 0 then (if bt107.1.toList = t102.toList then (laws_FnFrames.j1 kj2 l1 t102 bt103.1 (decide ((bt103.1.size : Int) < (wrap64 (5 + (t102.size : Int)))))) else (laws_FnFrames.j1 kj2 l1 t102 bt103.1 true)) else (laws_FnFrames.j1 kj2 l1 t102 bt103.1 true)) else (laws_FnFrames.j1 kj2 l1 t102 bt103.1 true)) else (laws_FnFrames.j1 kj2 l1 t102 bt103.1 true))))) = some r := H
        have A7 := Aside0.mk A70
        clear A70
        replace H := Option.bind_eq_some_iff.mp H
        obtain ⟨⟨t103, t104⟩, A80, H⟩ := H
        replace H : ((spec_FrameText.f kj2 t102).bind fun bt105 => ((impl_ReadFrame.f kj2 t103).bind fun bt107 => (if t104 = 0 then (if t103.toList = bt105.1.toList then (if bt107.2 = 0 then (if bt107.1.toList = t102.toList then (laws_FnFrames.j1 kj2 l1 t102 t103 (decide ((t103.size : Int) < (wrap64 (5 + (t102.size : Int)))))) else (laws_FnFrames.j1 kj2 l1 t102 t103 true)) else (laws_FnFrames.j1 kj2 l1 t102 t103 true)) else (laws_FnFrames.j1 kj2 l1 t102 t103 true)) else (laws_FnFrames.j1 kj2 l1 t102 t103 true)))) = some r := H
        have A8 := Aside0.mk A80
        clear A80
        replace H := Option.bind_eq_some_iff.mp H
        obtain ⟨⟨t105, t106⟩, A90, H⟩ := H
        replace H : ((impl_ReadFrame.f kj2 t103).bind fun bt107 => (if t104 = 0 then (if t103.toList = t105.toList then (if bt107.2 = 0 then (if bt107.1.toList = t102.toList then (laws_FnFrames.j1 kj2 l1 t102 t103 (decide ((t103.size : Int) < (wrap64 (5 + (t102.size : Int)))))) else (laws_FnFrames.j1 kj2 l1 t102 t103 true)) else (laws_FnFrames.j1 kj2 l1 t102 t103 true)) else (laws_FnFrames.j1 kj2 l1 t102 t103 true)) else (laws_FnFrames.j1 kj2 l1 t102 t103 true))) = some r := H
        have A9 := Aside0.mk A90
        clear A90
        replace H := Option.bind_eq_some_iff.mp H
        obtain ⟨⟨t107, t108⟩, A100, H⟩ := H
        replace H : (if t104 = 0 then (if t103.toList = t105.toList then (if t108 = 0 then (if t107.toList = t102.toList then (laws_FnFrames.j1 kj2 l1 t102 t103 (decide ((t103.size : Int) < (wrap64 (5 + (t102.size : Int)))))) else (laws_FnFrames.j1 kj2 l1 t102 t103 true)) else (laws_FnFrames.j1 kj2 l1 t102 t103 true)) else (laws_FnFrames.j1 kj2 l1 t102 t103 true)) else (laws_FnFrames.j1 kj2 l1 t102 t103 true)) = some r := H
        have A10 := Aside0.mk A100
        clear A100
        have HC11 := Aside0.mk H
        clear H
        go_upto_region 7 with (first | ((with_reducible refine gate_callee (f := 21) rfl ?_); refine goesL_ (some 34) rfl rfl Try.func21 (by kernel_rfl) rfl #[.slice A1 l1.length c1, .int .i64 0, .int .i64 60] rfl (by (try simp only [List.map_toArray, List.map_cons, List.map_nil]); first | done | rfl | (simp only [List.length_drop, List.length_take]; rfl)) ?_; (with_reducible refine (laws_at.calls _ _ l1 0 60 t101 _ ?side1 ?side2 A6.out).mono ?_); (case side1 => repeat (first | exact (Kd.C_below HR1.out HB.out) | (with_reducible refine Kd.C_alloc ?_ _) | (with_reducible refine Kd.C_drewN ?_ _) | (with_reducible refine Kd.C_drew ?_))); (case side2 => exact HC1.out); rintro e w' ⟨rfl, ⟨nd, rfl⟩⟩; refine ⟨_, rfl, ?_⟩) | ((with_reducible refine gate_callee (f := 22) rfl ?_); refine goesL_ (some 36) rfl rfl Try.func22 (by kernel_rfl) rfl #[.slice A0 l0.length c0, .int .i64 (wrap64 (1 + t101))] rfl (by (try simp only [List.map_toArray, List.map_cons, List.map_nil]); first | done | rfl | (simp only [List.length_drop, List.length_take]; rfl)) ?_; (with_reducible refine (spec_SomeText.calls kj2 _ _ l0 (wrap64 (1 + t101)) t102 _ ?side1 ?side2 A7.out).mono ?_); (case side1 => repeat (first | exact (Kd.C_below HR0.out (by repeat (first | (with_reducible first | exact HB.out | apply below_alloc | apply pw_below_drewN | apply below_drew1) | exact HB.out))) | (with_reducible refine Kd.C_alloc ?_ _) | (with_reducible refine Kd.C_drewN ?_ _) | (with_reducible refine Kd.C_drew ?_))); (case side2 => exact HC0.out); rintro e w12 ⟨rfl, hb⟩; refine ⟨_, rfl, ?_⟩; have n0_ := Aside0.mk (below_step (by repeat (first | (with_reducible first | exact HB.out | apply below_alloc | apply pw_below_drewN | apply below_drew1) | exact HB.out)) hb); clear HB; have HB := n0_; clear n0_; (try clear hb); (try clear hb2); (try clear hk); (try clear hi)) | ((with_reducible refine gate_callee (f := 18) rfl ?_); refine goesL_ (some 39) rfl rfl Try.func18 (by kernel_rfl) rfl #[.string t102] rfl (by (try simp only [List.map_toArray, List.map_cons, List.map_nil]); first | done | rfl | (simp only [List.length_drop, List.length_take]; rfl)) ?_; (with_reducible refine (impl_FrameText.calls kj2 t102 t103 t104 _ A8.out).mono ?_); rintro e w13 ⟨rfl, hb⟩; refine ⟨_, rfl, ?_⟩; have n0_ := Aside0.mk (below_step (by repeat (first | (with_reducible first | exact HB.out | apply below_alloc | apply pw_below_drewN | apply below_drew1) | exact HB.out)) hb); clear HB; have HB := n0_; clear n0_; (try clear hb); (try clear hb2); (try clear hk); (try clear hi)) | ((with_reducible refine gate_callee (f := 17) rfl ?_); refine goesL_ (some 44) rfl rfl Try.func17 (by kernel_rfl) rfl #[.string t102] rfl (by (try simp only [List.map_toArray, List.map_cons, List.map_nil]); first | done | rfl | (simp only [List.length_drop, List.length_take]; rfl)) ?_; (with_reducible refine (spec_FrameText.calls kj2 t102 t105 t106 _ A9.out).mono ?_); rintro e w14 ⟨rfl, hb⟩; refine ⟨_, rfl, ?_⟩; have n0_ := Aside0.mk (below_step (by repeat (first | (with_reducible first | exact HB.out | apply below_alloc | apply pw_below_drewN | apply below_drew1) | exact HB.out)) hb); clear HB; have HB := n0_; clear n0_; (try clear hb); (try clear hb2); (try clear hk); (try clear hi)) | ((with_reducible refine gate_callee (f := 25) rfl ?_); refine goesL_ (some 49) rfl rfl Try.func25 (by kernel_rfl) rfl #[.string t103] rfl (by (try simp only [List.map_toArray, List.map_cons, List.map_nil]); first | done | rfl | (simp only [List.length_drop, List.length_take]; rfl)) ?_; (with_reducible refine (impl_ReadFrame.calls kj2 t103 t107 t108 _ A10.out).mono ?_); rintro e w15 ⟨rfl, hb⟩; refine ⟨_, rfl, ?_⟩; have n0_ := Aside0.mk (below_step (by repeat (first | (with_reducible first | exact HB.out | apply below_alloc | apply pw_below_drewN | apply below_drew1) | exact HB.out)) hb); clear HB; have HB := n0_; clear n0_; (try clear hb); (try clear hb2); (try clear hk); (try clear hi)))
        (try simp only [Act.put, List.setIfInBounds_toArray, List.set_cons_zero, List.set_cons_succ])
        go_cut [75] (fun v75 wc => ∃ (kq : Nat) (x75_10 : Bool), v75 = .bool x75_10 ∧ Aside0 (laws_FnFrames.j1 kq l1 t102 t103 x75_10 = some r) ∧ Aside0 (kq ≤ kj2) ∧ Aside0 (Below w.heap.size w wc))
        case first =>
          have H := HC11.out
          clear HC11
          by_cases c16 : t104 = 0
          · rw [if_pos c16] at H
            have c16b0 : (t104 == 0) = true := beq_iff_eq.mpr c16
            have c16b1 : (t104 != 0) = false := bne_eq_false_iff_eq.mpr c16
            clear c16
            (first | rw [c16b0] | (simp only [i64_w, i32_w]; rw [c16b0]) | skip)
            by_cases c17 : t103.toList = t105.toList
            · rw [if_pos c17] at H
              have c17b0 : (t103.toList == t105.toList) = true := beq_iff_eq.mpr c17
              have c17b1 : (t103.toList != t105.toList) = false := bne_eq_false_iff_eq.mpr c17
              clear c17
              by_cases c18 : t108 = 0
              · rw [if_pos c18] at H
                have c18b0 : (t108 == 0) = true := beq_iff_eq.mpr c18
                have c18b1 : (t108 != 0) = false := bne_eq_false_iff_eq.mpr c18
                clear c18
                by_cases c19 : t107.toList = t102.toList
                · rw [if_pos c19] at H
                  have c19b0 : (t107.toList == t102.toList) = true := beq_iff_eq.mpr c19
                  have c19b1 : (t107.toList != t102.toList) = false := bne_eq_false_iff_eq.mpr c19
                  clear c19
                  have H' := Aside0.mk H
                  clear H
                  go_wp2
                  go_meet
                  case rel => exact ⟨_, (decide ((t103.size : Int) < (wrap64 (5 + (t102.size : Int))))), (by first | rfl | (simp; done) | (simp [*]; done)), H', ⟨by have := HJ2.out; first | omega | exact Nat.le_refl _⟩, ⟨by repeat (first | (with_reducible first | exact HB.out | apply below_alloc | apply pw_below_drewN | apply below_drew1) | exact HB.out)⟩⟩
                · rw [if_neg c19] at H
                  have c19b0 : (t107.toList == t102.toList) = false := beq_eq_false_iff_ne.mpr c19
                  have c19b1 : (t107.toList != t102.toList) = true := bne_iff_ne.mpr c19
                  have H' := Aside0.mk H
                  clear H
                  go_wp2
                  go_meet
                  case rel => exact ⟨_, (true), (by first | rfl | (simp; done) | (simp [*]; done)), H', ⟨by have := HJ2.out; first | omega | exact Nat.le_refl _⟩, ⟨by repeat (first | (with_reducible first | exact HB.out | apply below_alloc | apply pw_below_drewN | apply below_drew1) | exact HB.out)⟩⟩
              · rw [if_neg c18] at H
                have c18b0 : (t108 == 0) = false := beq_eq_false_iff_ne.mpr c18
                have c18b1 : (t108 != 0) = true := bne_iff_ne.mpr c18
                have H' := Aside0.mk H
                clear H
                go_wp2
                go_meet
                case rel => exact ⟨_, (true), (by first | rfl | (simp; done) | (simp [*]; done)), H', ⟨by have := HJ2.out; first | omega | exact Nat.le_refl _⟩, ⟨by repeat (first | (with_reducible first | exact HB.out | apply below_alloc | apply pw_below_drewN | apply below_drew1) | exact HB.out)⟩⟩
            · rw [if_neg c17] at H
              have c17b0 : (t103.toList == t105.toList) = false := beq_eq_false_iff_ne.mpr c17
              have c17b1 : (t103.toList != t105.toList) = true := bne_iff_ne.mpr c17
              have H' := Aside0.mk H
              clear H
              go_wp2
              go_meet
              case rel => exact ⟨_, (true), (by first | rfl | (simp; done) | (simp [*]; done)), H', ⟨by have := HJ2.out; first | omega | exact Nat.le_refl _⟩, ⟨by repeat (first | (with_reducible first | exact HB.out | apply below_alloc | apply pw_below_drewN | apply below_drew1) | exact HB.out)⟩⟩
          · rw [if_neg c16] at H
            have c16b0 : (t104 == 0) = false := beq_eq_false_iff_ne.mpr c16
            have c16b1 : (t104 != 0) = true := bne_iff_ne.mpr c16
            (first | rw [c16b0] | (simp only [i64_w, i32_w]; rw [c16b0]) | skip)
            have H' := Aside0.mk H
            clear H
            go_wp2
            go_meet
            case rel => exact ⟨_, (true), (by first | rfl | (simp; done) | (simp [*]; done)), H', ⟨by have := HJ2.out; first | omega | exact Nat.le_refl _⟩, ⟨by repeat (first | (with_reducible first | exact HB.out | apply below_alloc | apply pw_below_drewN | apply below_drew1) | exact HB.out)⟩⟩
        case rest =>
          clear HC11
          try clear c1
          try clear c2
          try clear p2
          try clear c4
          try clear c4b0
          try clear c4b1
          try clear c5
          try clear p6
          try clear c10
          try clear c16
          try clear c16b0
          try clear c16b1
          try clear c17
          try clear c17b0
          try clear c17b1
          try clear c18
          try clear c18b0
          try clear c18b1
          try clear c19
          try clear c19b0
          try clear c19b1
          try clear p2
          obtain ⟨kq, x75_10, rfl, HA, HJ10, HB⟩ := hcut
          cases kq with
          | zero => exact absurd HA.out (by simp [laws_FnFrames.j1])
          | succ kj10 =>
            have H := HA.out
            clear HA
            simp only [laws_FnFrames.j1] at H
            by_cases c20 : x75_10 = true
            · subst c20
              have H1 : (none) = some r := by rw [if_pos rfl] at H; exact H
              clear H
              have H := H1
              clear H1
              exact absurd H (by simp)
            · replace c20 := Bool.eq_false_iff.mpr c20
              subst c20
              have H1 : ((laws_at.f l1 1 (t102.size : Int)).bind fun t109 => (if 0 ≤ (wrap64 (3 + t109)) then (if (wrap64 (3 + t109)) ≤ (t103.size : Int) then (if (wrap64 (3 + t109)) < (t103.size : Int) then ((laws_at.f l1 2 255).bind fun t110 => ((some (([Go.bits .xor .u8 (bt t103 (wrap64 (3 + t109))) ((wrap64 (1 + t110)) % 256)] : List Int) : List Int)).bind fun y111 => (if (t103.extract 0 ((wrap64 (3 + t109)) : Int).toNat).size + (strOfNums y111).size ≤ 9223372036854775807 then (if 0 ≤ (wrap64 ((wrap64 (3 + t109)) + 1)) then (if (wrap64 ((wrap64 (3 + t109)) + 1)) ≤ (t103.size : Int) then (if ((t103.extract 0 ((wrap64 (3 + t109)) : Int).toNat) ++ (strOfNums y111)).size + (t103.extract ((wrap64 ((wrap64 (3 + t109)) + 1)) : Int).toNat t103.size).size ≤ 9223372036854775807 then ((impl_ReadFrame.f kj10 (((t103.extract 0 ((wrap64 (3 + t109)) : Int).toNat) ++ (strOfNums y111)) ++ (t103.extract ((wrap64 ((wrap64 (3 + t109)) + 1)) : Int).toNat t103.size))).bind fun bt114 => ((laws_at.f l1 3 (t103.size : Int)).bind fun t116 => (if 0 ≤ t116 then (if t116 ≤ (t103.size : Int) then ((impl_ReadFrame.f kj10 (t103.extract 0 (t116 : Int).toNat)).bind fun bt117 => (if t103.size + 1 ≤ 9223372036854775807 then ((impl_ReadFrame.f kj10 (t103 ++ (⟨#[120]⟩ : ByteArray))).bind fun bt119 => ((impl_HexOf.f kj10 t102).bind fun t121 => ((impl_BytesOf.f kj10 t121).bind fun bt122 => (if t121.size + 1 ≤ 9223372036854775807 then ((impl_BytesOf.f kj10 (t121 ++ (⟨#[48]⟩ : ByteArray))).bind fun bt124 => (if bt114.2 = 9 then (if bt117.2 = 8 then (if bt119.2 = 8 then ((impl_SumOf.f kj10 t102).bind fun t126 => ((spec_SumOf.f kj10 t102).bind fun t127 => (if t126 = t127 then ((spec_HexOf.f kj10 t102).bind fun t128 => (if t121.toList = t128.toList then (if bt122.2 = 0 then (if bt122.1.toList = t102.toList then (some (bt124.2 == 3)) else (none)) else (none)) else (none))) else (none)))) else (none)) else (if bt117.2 = 3 then (if bt119.2 = 8 then ((impl_SumOf.f kj10 t102).bind fun t129 => ((spec_SumOf.f kj10 t102).bind fun t130 => (if t129 = t130 then ((spec_HexOf.f kj10 t102).bind fun t131 => (if t121.toList = t131.toList then (if bt122.2 = 0 then (if bt122.1.toList = t102.toList then (some (bt124.2 == 3)) else (none)) else (none)) else (none))) else (none)))) else (none)) else (none))) else (none))) else (none))))) else (none))) else (none)) else (none)))) else (none)) else (none)) else (none)) else (none)))) else (none)) else (none)) else (none))) = some r := by rw [if_neg (show ¬ (false = true) by decide)] at H; exact H
              clear H
              have H := H1
              clear H1
              replace H := Option.bind_eq_some_iff.mp H
              obtain ⟨t109, A210, H⟩ := H
              replace H : (if 0 ≤ (wrap64 (3 + t109)) then (if (wrap64 (3 + t109)) ≤ (t103.size : Int) then (if (wrap64 (3 + t109)) < (t103.size : Int) then ((laws_at.f l1 2 255).bind fun t110 => ((some (([Go.bits .xor .u8 (bt t103 (wrap64 (3 + t109))) ((wrap64 (1 + t110)) % 256)] : List Int) : List Int)).bind fun y111 => (if (t103.extract 0 ((wrap64 (3 + t109)) : Int).toNat).size + (strOfNums y111).size ≤ 9223372036854775807 then (if 0 ≤ (wrap64 ((wrap64 (3 + t109)) + 1)) then (if (wrap64 ((wrap64 (3 + t109)) + 1)) ≤ (t103.size : Int) then (if ((t103.extract 0 ((wrap64 (3 + t109)) : Int).toNat) ++ (strOfNums y111)).size + (t103.extract ((wrap64 ((wrap64 (3 + t109)) + 1)) : Int).toNat t103.size).size ≤ 9223372036854775807 then ((impl_ReadFrame.f kj10 (((t103.extract 0 ((wrap64 (3 + t109)) : Int).toNat) ++ (strOfNums y111)) ++ (t103.extract ((wrap64 ((wrap64 (3 + t109)) + 1)) : Int).toNat t103.size))).bind fun bt114 => ((laws_at.f l1 3 (t103.size : Int)).bind fun t116 => (if 0 ≤ t116 then (if t116 ≤ (t103.size : Int) then ((impl_ReadFrame.f kj10 (t103.extract 0 (t116 : Int).toNat)).bind fun bt117 => (if t103.size + 1 ≤ 9223372036854775807 then ((impl_ReadFrame.f kj10 (t103 ++ (⟨#[120]⟩ : ByteArray))).bind fun bt119 => ((impl_HexOf.f kj10 t102).bind fun t121 => ((impl_BytesOf.f kj10 t121).bind fun bt122 => (if t121.size + 1 ≤ 9223372036854775807 then ((impl_BytesOf.f kj10 (t121 ++ (⟨#[48]⟩ : ByteArray))).bind fun bt124 => (if bt114.2 = 9 then (if bt117.2 = 8 then (if bt119.2 = 8 then ((impl_SumOf.f kj10 t102).bind fun t126 => ((spec_SumOf.f kj10 t102).bind fun t127 => (if t126 = t127 then ((spec_HexOf.f kj10 t102).bind fun t128 => (if t121.toList = t128.toList then (if bt122.2 = 0 then (if bt122.1.toList = t102.toList then (some (bt124.2 == 3)) else (none)) else (none)) else (none))) else (none)))) else (none)) else (if bt117.2 = 3 then (if bt119.2 = 8 then ((impl_SumOf.f kj10 t102).bind fun t129 => ((spec_SumOf.f kj10 t102).bind fun t130 => (if t129 = t130 then ((spec_HexOf.f kj10 t102).bind fun t131 => (if t121.toList = t131.toList then (if bt122.2 = 0 then (if bt122.1.toList = t102.toList then (some (bt124.2 == 3)) else (none)) else (none)) else (none))) else (none)))) else (none)) else (none))) else (none))) else (none))))) else (none))) else (none)) else (none)))) else (none)) else (none)) else (none)) else (none)))) else (none)) else (none)) else (none)) = some r := H
              have A21 := Aside0.mk A210
              clear A210
              obtain ⟨ji22, hji22⟩ : ∃ j_ : Int, (wrap64 (3 + t109)) = j_ := ⟨_, rfl⟩
              replace H : (if 0 ≤ (ji22) then (if (ji22) ≤ (t103.size : Int) then (if (ji22) < (t103.size : Int) then ((laws_at.f l1 2 255).bind fun t110 => ((some (([Go.bits .xor .u8 (bt t103 (ji22)) ((wrap64 (1 + t110)) % 256)] : List Int) : List Int)).bind fun y111 => (if (t103.extract 0 ((ji22) : Int).toNat).size + (strOfNums y111).size ≤ 9223372036854775807 then (if 0 ≤ (wrap64 ((ji22) + 1)) then (if (wrap64 ((ji22) + 1)) ≤ (t103.size : Int) then (if ((t103.extract 0 ((ji22) : Int).toNat) ++ (strOfNums y111)).size + (t103.extract ((wrap64 ((ji22) + 1)) : Int).toNat t103.size).size ≤ 9223372036854775807 then ((impl_ReadFrame.f kj10 (((t103.extract 0 ((ji22) : Int).toNat) ++ (strOfNums y111)) ++ (t103.extract ((wrap64 ((ji22) + 1)) : Int).toNat t103.size))).bind fun bt114 => ((laws_at.f l1 3 (t103.size : Int)).bind fun t116 => (if 0 ≤ t116 then (if t116 ≤ (t103.size : Int) then ((impl_ReadFrame.f kj10 (t103.extract 0 (t116 : Int).toNat)).bind fun bt117 => (if t103.size + 1 ≤ 9223372036854775807 then ((impl_ReadFrame.f kj10 (t103 ++ (⟨#[120]⟩ : ByteArray))).bind fun bt119 => ((impl_HexOf.f kj10 t102).bind fun t121 => ((impl_BytesOf.f kj10 t121).bind fun bt122 => (if t121.size + 1 ≤ 9223372036854775807 then ((impl_BytesOf.f kj10 (t121 ++ (⟨#[48]⟩ : ByteArray))).bind fun bt124 => (if bt114.2 = 9 then (if bt117.2 = 8 then (if bt119.2 = 8 then ((impl_SumOf.f kj10 t102).bind fun t126 => ((spec_SumOf.f kj10 t102).bind fun t127 => (if t126 = t127 then ((spec_HexOf.f kj10 t102).bind fun t128 => (if t121.toList = t128.toList then (if bt122.2 = 0 then (if bt122.1.toList = t102.toList then (some (bt124.2 == 3)) else (none)) else (none)) else (none))) else (none)))) else (none)) else (if bt117.2 = 3 then (if bt119.2 = 8 then ((impl_SumOf.f kj10 t102).bind fun t129 => ((spec_SumOf.f kj10 t102).bind fun t130 => (if t129 = t130 then ((spec_HexOf.f kj10 t102).bind fun t131 => (if t121.toList = t131.toList then (if bt122.2 = 0 then (if bt122.1.toList = t102.toList then (some (bt124.2 == 3)) else (none)) else (none)) else (none))) else (none)))) else (none)) else (none))) else (none))) else (none))))) else (none))) else (none)) else (none)))) else (none)) else (none)) else (none)) else (none)))) else (none)) else (none)) else (none)) = some r := by first | (rw [hji22] at H; exact H) | (simp only [hji22] at H ⊢; exact H)
              (try rw [hji22] at A21)
              have hji22w : (IntKind.i64.wrap (3 + t109)) = ji22 := (i64_w _).trans hji22
              by_cases c23 : 0 ≤ (ji22)
              · rw [if_pos c23] at H
                have c23b0 := eq_true c23
                have c23b1 : decide (0 ≤ (ji22)) = true := decide_eq_true c23
                clear c23
                by_cases c24 : (ji22) ≤ (t103.size : Int)
                · rw [if_pos c24] at H
                  have c24b0 := eq_true c24
                  have c24b1 : decide ((ji22) ≤ (t103.size : Int)) = true := decide_eq_true c24
                  clear c24
                  by_cases c25 : (ji22) < (t103.size : Int)
                  · rw [if_pos c25] at H
                    have c25b0 : decide ((ji22) < (t103.size : Int)) = true := decide_eq_true c25
                    clear c25
                    replace H := Option.bind_eq_some_iff.mp H
                    obtain ⟨t110, A270, H⟩ := H
                    replace H : ((some (([Go.bits .xor .u8 (bt t103 (ji22)) ((wrap64 (1 + t110)) % 256)] : List Int) : List Int)).bind fun y111 => (if (t103.extract 0 ((ji22) : Int).toNat).size + (strOfNums y111).size ≤ 9223372036854775807 then (if 0 ≤ (wrap64 ((ji22) + 1)) then (if (wrap64 ((ji22) + 1)) ≤ (t103.size : Int) then (if ((t103.extract 0 ((ji22) : Int).toNat) ++ (strOfNums y111)).size + (t103.extract ((wrap64 ((ji22) + 1)) : Int).toNat t103.size).size ≤ 9223372036854775807 then ((impl_ReadFrame.f kj10 (((t103.extract 0 ((ji22) : Int).toNat) ++ (strOfNums y111)) ++ (t103.extract ((wrap64 ((ji22) + 1)) : Int).toNat t103.size))).bind fun bt114 => ((laws_at.f l1 3 (t103.size : Int)).bind fun t116 => (if 0 ≤ t116 then (if t116 ≤ (t103.size : Int) then ((impl_ReadFrame.f kj10 (t103.extract 0 (t116 : Int).toNat)).bind fun bt117 => (if t103.size + 1 ≤ 9223372036854775807 then ((impl_ReadFrame.f kj10 (t103 ++ (⟨#[120]⟩ : ByteArray))).bind fun bt119 => ((impl_HexOf.f kj10 t102).bind fun t121 => ((impl_BytesOf.f kj10 t121).bind fun bt122 => (if t121.size + 1 ≤ 9223372036854775807 then ((impl_BytesOf.f kj10 (t121 ++ (⟨#[48]⟩ : ByteArray))).bind fun bt124 => (if bt114.2 = 9 then (if bt117.2 = 8 then (if bt119.2 = 8 then ((impl_SumOf.f kj10 t102).bind fun t126 => ((spec_SumOf.f kj10 t102).bind fun t127 => (if t126 = t127 then ((spec_HexOf.f kj10 t102).bind fun t128 => (if t121.toList = t128.toList then (if bt122.2 = 0 then (if bt122.1.toList = t102.toList then (some (bt124.2 == 3)) else (none)) else (none)) else (none))) else (none)))) else (none)) else (if bt117.2 = 3 then (if bt119.2 = 8 then ((impl_SumOf.f kj10 t102).bind fun t129 => ((spec_SumOf.f kj10 t102).bind fun t130 => (if t129 = t130 then ((spec_HexOf.f kj10 t102).bind fun t131 => (if t121.toList = t131.toList then (if bt122.2 = 0 then (if bt122.1.toList = t102.toList then (some (bt124.2 == 3)) else (none)) else (none)) else (none))) else (none)))) else (none)) else (none))) else (none))) else (none))))) else (none))) else (none)) else (none)))) else (none)) else (none)) else (none)) else (none))) = some r := H
                    have A27 := Aside0.mk A270
                    clear A270
                    obtain ⟨y111, hy111⟩ : ∃ y_ : List Int, y_ = (([Go.bits .xor .u8 (bt t103 (ji22)) ((wrap64 (1 + t110)) % 256)] : List Int)) := ⟨_, rfl⟩
                    replace H : (if (t103.extract 0 ((ji22) : Int).toNat).size + (strOfNums y111).size ≤ 9223372036854775807 then (if 0 ≤ (wrap64 ((ji22) + 1)) then (if (wrap64 ((ji22) + 1)) ≤ (t103.size : Int) then (if ((t103.extract 0 ((ji22) : Int).toNat) ++ (strOfNums y111)).size + (t103.extract ((wrap64 ((ji22) + 1)) : Int).toNat t103.size).size ≤ 9223372036854775807 then ((impl_ReadFrame.f kj10 (((t103.extract 0 ((ji22) : Int).toNat) ++ (strOfNums y111)) ++ (t103.extract ((wrap64 ((ji22) + 1)) : Int).toNat t103.size))).bind fun bt114 => ((laws_at.f l1 3 (t103.size : Int)).bind fun t116 => (if 0 ≤ t116 then (if t116 ≤ (t103.size : Int) then ((impl_ReadFrame.f kj10 (t103.extract 0 (t116 : Int).toNat)).bind fun bt117 => (if t103.size + 1 ≤ 9223372036854775807 then ((impl_ReadFrame.f kj10 (t103 ++ (⟨#[120]⟩ : ByteArray))).bind fun bt119 => ((impl_HexOf.f kj10 t102).bind fun t121 => ((impl_BytesOf.f kj10 t121).bind fun bt122 => (if t121.size + 1 ≤ 9223372036854775807 then ((impl_BytesOf.f kj10 (t121 ++ (⟨#[48]⟩ : ByteArray))).bind fun bt124 => (if bt114.2 = 9 then (if bt117.2 = 8 then (if bt119.2 = 8 then ((impl_SumOf.f kj10 t102).bind fun t126 => ((spec_SumOf.f kj10 t102).bind fun t127 => (if t126 = t127 then ((spec_HexOf.f kj10 t102).bind fun t128 => (if t121.toList = t128.toList then (if bt122.2 = 0 then (if bt122.1.toList = t102.toList then (some (bt124.2 == 3)) else (none)) else (none)) else (none))) else (none)))) else (none)) else (if bt117.2 = 3 then (if bt119.2 = 8 then ((impl_SumOf.f kj10 t102).bind fun t129 => ((spec_SumOf.f kj10 t102).bind fun t130 => (if t129 = t130 then ((spec_HexOf.f kj10 t102).bind fun t131 => (if t121.toList = t131.toList then (if bt122.2 = 0 then (if bt122.1.toList = t102.toList then (some (bt124.2 == 3)) else (none)) else (none)) else (none))) else (none)))) else (none)) else (none))) else (none))) else (none))))) else (none))) else (none)) else (none)))) else (none)) else (none)) else (none)) else (none)) = some r := by first | (rw [hy111]; with_reducible exact H) | (have H2_ := (Option.bind_some _ _).symm.trans H; rw [hy111]; with_reducible exact H2_) | (have H2_ := (Option.bind_some _ _).symm.trans H; with_reducible exact H2_) | with_reducible exact H | (rw [hy111]; exact H) | exact H
                    have Ny111 := Aside0.mk hy111
                    clear hy111
                    by_cases c28 : (t103.extract 0 ((ji22) : Int).toNat).size + (strOfNums y111).size ≤ 9223372036854775807
                    · rw [if_pos c28] at H
                      have c28b0 := eq_true c28
                      have c28b1 : decide ((t103.extract 0 ((ji22) : Int).toNat).size + (strOfNums y111).size ≤ 9223372036854775807) = true := decide_eq_true c28
                      try have c28b2 : (9223372036854775807 < (t103.extract 0 ((ji22) : Int).toNat).size + (strOfNums y111).size) = False := eq_false (Nat.not_lt.2 c28)
                      try have c28e : ji22.toNat + (strOfNums y111).size ≤ 9223372036854775807 := by (have z_ := c28; have z0_ : 0 ≤ ji22 := of_decide_eq_true (by assumption); have y0_ : ji22 ≤ (t103.size : Int) := of_decide_eq_true (by assumption); simp only [ByteArray.size_append, ByteArray.size_extract] at z_; omega)
                      try have c28f := eq_true c28e
                      try have c28g : (9223372036854775807 < ji22.toNat + (strOfNums y111).size) = False := eq_false (Nat.not_lt.2 c28e)
                      try (have c28s := c28; simp only [ByteArray.size_append] at c28s)
                      obtain ⟨ji29, hji29⟩ : ∃ j_ : Int, (wrap64 ((ji22) + 1)) = j_ := ⟨_, rfl⟩
                      replace H : (if 0 ≤ (ji29) then (if (ji29) ≤ (t103.size : Int) then (if ((t103.extract 0 ((ji22) : Int).toNat) ++ (strOfNums y111)).size + (t103.extract ((ji29) : Int).toNat t103.size).size ≤ 9223372036854775807 then ((impl_ReadFrame.f kj10 (((t103.extract 0 ((ji22) : Int).toNat) ++ (strOfNums y111)) ++ (t103.extract ((ji29) : Int).toNat t103.size))).bind fun bt114 => ((laws_at.f l1 3 (t103.size : Int)).bind fun t116 => (if 0 ≤ t116 then (if t116 ≤ (t103.size : Int) then ((impl_ReadFrame.f kj10 (t103.extract 0 (t116 : Int).toNat)).bind fun bt117 => (if t103.size + 1 ≤ 9223372036854775807 then ((impl_ReadFrame.f kj10 (t103 ++ (⟨#[120]⟩ : ByteArray))).bind fun bt119 => ((impl_HexOf.f kj10 t102).bind fun t121 => ((impl_BytesOf.f kj10 t121).bind fun bt122 => (if t121.size + 1 ≤ 9223372036854775807 then ((impl_BytesOf.f kj10 (t121 ++ (⟨#[48]⟩ : ByteArray))).bind fun bt124 => (if bt114.2 = 9 then (if bt117.2 = 8 then (if bt119.2 = 8 then ((impl_SumOf.f kj10 t102).bind fun t126 => ((spec_SumOf.f kj10 t102).bind fun t127 => (if t126 = t127 then ((spec_HexOf.f kj10 t102).bind fun t128 => (if t121.toList = t128.toList then (if bt122.2 = 0 then (if bt122.1.toList = t102.toList then (some (bt124.2 == 3)) else (none)) else (none)) else (none))) else (none)))) else (none)) else (if bt117.2 = 3 then (if bt119.2 = 8 then ((impl_SumOf.f kj10 t102).bind fun t129 => ((spec_SumOf.f kj10 t102).bind fun t130 => (if t129 = t130 then ((spec_HexOf.f kj10 t102).bind fun t131 => (if t121.toList = t131.toList then (if bt122.2 = 0 then (if bt122.1.toList = t102.toList then (some (bt124.2 == 3)) else (none)) else (none)) else (none))) else (none)))) else (none)) else (none))) else (none))) else (none))))) else (none))) else (none)) else (none)))) else (none)) else (none)) else (none)) = some r := by first | (rw [hji29] at H; exact H) | (simp only [hji29] at H ⊢; exact H)
                      (try rw [hji29] at A21)
                      (try rw [hji29] at A27)
                      have hji29w : (IntKind.i64.wrap ((ji22) + 1)) = ji29 := (i64_w _).trans hji29
                      by_cases c30 : 0 ≤ (ji29)
                      · rw [if_pos c30] at H
                        have c30b0 := eq_true c30
                        have c30b1 : decide (0 ≤ (ji29)) = true := decide_eq_true c30
                        clear c30
                        by_cases c31 : (ji29) ≤ (t103.size : Int)
                        · rw [if_pos c31] at H
                          have c31b0 := eq_true c31
                          have c31b1 : decide ((ji29) ≤ (t103.size : Int)) = true := decide_eq_true c31
                          clear c31
                          by_cases c32 : ((t103.extract 0 ((ji22) : Int).toNat) ++ (strOfNums y111)).size + (t103.extract ((ji29) : Int).toNat t103.size).size ≤ 9223372036854775807
                          · rw [if_pos c32] at H
                            have c32b0 := eq_true c32
                            have c32b1 : decide (((t103.extract 0 ((ji22) : Int).toNat) ++ (strOfNums y111)).size + (t103.extract ((ji29) : Int).toNat t103.size).size ≤ 9223372036854775807) = true := decide_eq_true c32
                            try have c32b2 : (9223372036854775807 < ((t103.extract 0 ((ji22) : Int).toNat) ++ (strOfNums y111)).size + (t103.extract ((ji29) : Int).toNat t103.size).size) = False := eq_false (Nat.not_lt.2 c32)
                            try have c32e : (ji22.toNat + (strOfNums y111).size) + (t103.size - ji29.toNat) ≤ 9223372036854775807 := by (have z_ := c32; have z0_ : 0 ≤ ji22 := of_decide_eq_true (by assumption); have y0_ : ji22 ≤ (t103.size : Int) := of_decide_eq_true (by assumption); have z1_ : 0 ≤ ji29 := of_decide_eq_true (by assumption); have y1_ : ji29 ≤ (t103.size : Int) := of_decide_eq_true (by assumption); simp only [ByteArray.size_append, ByteArray.size_extract] at z_; omega)
                            try have c32f := eq_true c32e
                            try have c32g : (9223372036854775807 < (ji22.toNat + (strOfNums y111).size) + (t103.size - ji29.toNat)) = False := eq_false (Nat.not_lt.2 c32e)
                            try (have c32s := c32; simp only [ByteArray.size_append] at c32s)
                            replace H := Option.bind_eq_some_iff.mp H
                            obtain ⟨⟨t114, t115⟩, A330, H⟩ := H
                            replace H : ((laws_at.f l1 3 (t103.size : Int)).bind fun t116 => (if 0 ≤ t116 then (if t116 ≤ (t103.size : Int) then ((impl_ReadFrame.f kj10 (t103.extract 0 (t116 : Int).toNat)).bind fun bt117 => (if t103.size + 1 ≤ 9223372036854775807 then ((impl_ReadFrame.f kj10 (t103 ++ (⟨#[120]⟩ : ByteArray))).bind fun bt119 => ((impl_HexOf.f kj10 t102).bind fun t121 => ((impl_BytesOf.f kj10 t121).bind fun bt122 => (if t121.size + 1 ≤ 9223372036854775807 then ((impl_BytesOf.f kj10 (t121 ++ (⟨#[48]⟩ : ByteArray))).bind fun bt124 => (if t115 = 9 then (if bt117.2 = 8 then (if bt119.2 = 8 then ((impl_SumOf.f kj10 t102).bind fun t126 => ((spec_SumOf.f kj10 t102).bind fun t127 => (if t126 = t127 then ((spec_HexOf.f kj10 t102).bind fun t128 => (if t121.toList = t128.toList then (if bt122.2 = 0 then (if bt122.1.toList = t102.toList then (some (bt124.2 == 3)) else (none)) else (none)) else (none))) else (none)))) else (none)) else (if bt117.2 = 3 then (if bt119.2 = 8 then ((impl_SumOf.f kj10 t102).bind fun t129 => ((spec_SumOf.f kj10 t102).bind fun t130 => (if t129 = t130 then ((spec_HexOf.f kj10 t102).bind fun t131 => (if t121.toList = t131.toList then (if bt122.2 = 0 then (if bt122.1.toList = t102.toList then (some (bt124.2 == 3)) else (none)) else (none)) else (none))) else (none)))) else (none)) else (none))) else (none))) else (none))))) else (none))) else (none)) else (none))) = some r := H
                            have A33 := Aside0.mk A330
                            clear A330
                            replace H := Option.bind_eq_some_iff.mp H
                            obtain ⟨t116, A340, H⟩ := H
                            replace H : (if 0 ≤ t116 then (if t116 ≤ (t103.size : Int) then ((impl_ReadFrame.f kj10 (t103.extract 0 (t116 : Int).toNat)).bind fun bt117 => (if t103.size + 1 ≤ 9223372036854775807 then ((impl_ReadFrame.f kj10 (t103 ++ (⟨#[120]⟩ : ByteArray))).bind fun bt119 => ((impl_HexOf.f kj10 t102).bind fun t121 => ((impl_BytesOf.f kj10 t121).bind fun bt122 => (if t121.size + 1 ≤ 9223372036854775807 then ((impl_BytesOf.f kj10 (t121 ++ (⟨#[48]⟩ : ByteArray))).bind fun bt124 => (if t115 = 9 then (if bt117.2 = 8 then (if bt119.2 = 8 then ((impl_SumOf.f kj10 t102).bind fun t126 => ((spec_SumOf.f kj10 t102).bind fun t127 => (if t126 = t127 then ((spec_HexOf.f kj10 t102).bind fun t128 => (if t121.toList = t128.toList then (if bt122.2 = 0 then (if bt122.1.toList = t102.toList then (some (bt124.2 == 3)) else (none)) else (none)) else (none))) else (none)))) else (none)) else (if bt117.2 = 3 then (if bt119.2 = 8 then ((impl_SumOf.f kj10 t102).bind fun t129 => ((spec_SumOf.f kj10 t102).bind fun t130 => (if t129 = t130 then ((spec_HexOf.f kj10 t102).bind fun t131 => (if t121.toList = t131.toList then (if bt122.2 = 0 then (if bt122.1.toList = t102.toList then (some (bt124.2 == 3)) else (none)) else (none)) else (none))) else (none)))) else (none)) else (none))) else (none))) else (none))))) else (none))) else (none)) else (none)) = some r := H
                            have A34 := Aside0.mk A340
                            clear A340
                            by_cases c35 : 0 ≤ t116
                            · rw [if_pos c35] at H
                              have c35b0 := eq_true c35
                              have c35b1 : decide (0 ≤ t116) = true := decide_eq_true c35
                              clear c35
                              by_cases c36 : t116 ≤ (t103.size : Int)
                              · rw [if_pos c36] at H
                                have c36b0 := eq_true c36
                                have c36b1 : decide (t116 ≤ (t103.size : Int)) = true := decide_eq_true c36
                                clear c36
                                replace H := Option.bind_eq_some_iff.mp H
                                obtain ⟨⟨t117, t118⟩, A370, H⟩ := H
                                replace H : (if t103.size + 1 ≤ 9223372036854775807 then ((impl_ReadFrame.f kj10 (t103 ++ (⟨#[120]⟩ : ByteArray))).bind fun bt119 => ((impl_HexOf.f kj10 t102).bind fun t121 => ((impl_BytesOf.f kj10 t121).bind fun bt122 => (if t121.size + 1 ≤ 9223372036854775807 then ((impl_BytesOf.f kj10 (t121 ++ (⟨#[48]⟩ : ByteArray))).bind fun bt124 => (if t115 = 9 then (if t118 = 8 then (if bt119.2 = 8 then ((impl_SumOf.f kj10 t102).bind fun t126 => ((spec_SumOf.f kj10 t102).bind fun t127 => (if t126 = t127 then ((spec_HexOf.f kj10 t102).bind fun t128 => (if t121.toList = t128.toList then (if bt122.2 = 0 then (if bt122.1.toList = t102.toList then (some (bt124.2 == 3)) else (none)) else (none)) else (none))) else (none)))) else (none)) else (if t118 = 3 then (if bt119.2 = 8 then ((impl_SumOf.f kj10 t102).bind fun t129 => ((spec_SumOf.f kj10 t102).bind fun t130 => (if t129 = t130 then ((spec_HexOf.f kj10 t102).bind fun t131 => (if t121.toList = t131.toList then (if bt122.2 = 0 then (if bt122.1.toList = t102.toList then (some (bt124.2 == 3)) else (none)) else (none)) else (none))) else (none)))) else (none)) else (none))) else (none))) else (none))))) else (none)) = some r := H
                                have A37 := Aside0.mk A370
                                clear A370
                                by_cases c38 : t103.size + 1 ≤ 9223372036854775807
                                · rw [if_pos c38] at H
                                  have c38b0 := eq_true c38
                                  have c38b1 : decide (t103.size + 1 ≤ 9223372036854775807) = true := decide_eq_true c38
                                  try have c38b2 : (9223372036854775807 < t103.size + 1) = False := eq_false (Nat.not_lt.2 c38)
                                  replace H := Option.bind_eq_some_iff.mp H
                                  obtain ⟨⟨t119, t120⟩, A390, H⟩ := H
                                  replace H : ((impl_HexOf.f kj10 t102).bind fun t121 => ((impl_BytesOf.f kj10 t121).bind fun bt122 => (if t121.size + 1 ≤ 9223372036854775807 then ((impl_BytesOf.f kj10 (t121 ++ (⟨#[48]⟩ : ByteArray))).bind fun bt124 => (if t115 = 9 then (if t118 = 8 then (if t120 = 8 then ((impl_SumOf.f kj10 t102).bind fun t126 => ((spec_SumOf.f kj10 t102).bind fun t127 => (if t126 = t127 then ((spec_HexOf.f kj10 t102).bind fun t128 => (if t121.toList = t128.toList then (if bt122.2 = 0 then (if bt122.1.toList = t102.toList then (some (bt124.2 == 3)) else (none)) else (none)) else (none))) else (none)))) else (none)) else (if t118 = 3 then (if t120 = 8 then ((impl_SumOf.f kj10 t102).bind fun t129 => ((spec_SumOf.f kj10 t102).bind fun t130 => (if t129 = t130 then ((spec_HexOf.f kj10 t102).bind fun t131 => (if t121.toList = t131.toList then (if bt122.2 = 0 then (if bt122.1.toList = t102.toList then (some (bt124.2 == 3)) else (none)) else (none)) else (none))) else (none)))) else (none)) else (none))) else (none))) else (none)))) = some r := H
                                  have A39 := Aside0.mk A390
                                  clear A390
                                  replace H := Option.bind_eq_some_iff.mp H
                                  obtain ⟨t121, A400, H⟩ := H
                                  replace H : ((impl_BytesOf.f kj10 t121).bind fun bt122 => (if t121.size + 1 ≤ 9223372036854775807 then ((impl_BytesOf.f kj10 (t121 ++ (⟨#[48]⟩ : ByteArray))).bind fun bt124 => (if t115 = 9 then (if t118 = 8 then (if t120 = 8 then ((impl_SumOf.f kj10 t102).bind fun t126 => ((spec_SumOf.f kj10 t102).bind fun t127 => (if t126 = t127 then ((spec_HexOf.f kj10 t102).bind fun t128 => (if t121.toList = t128.toList then (if bt122.2 = 0 then (if bt122.1.toList = t102.toList then (some (bt124.2 == 3)) else (none)) else (none)) else (none))) else (none)))) else (none)) else (if t118 = 3 then (if t120 = 8 then ((impl_SumOf.f kj10 t102).bind fun t129 => ((spec_SumOf.f kj10 t102).bind fun t130 => (if t129 = t130 then ((spec_HexOf.f kj10 t102).bind fun t131 => (if t121.toList = t131.toList then (if bt122.2 = 0 then (if bt122.1.toList = t102.toList then (some (bt124.2 == 3)) else (none)) else (none)) else (none))) else (none)))) else (none)) else (none))) else (none))) else (none))) = some r := H
                                  have A40 := Aside0.mk A400
                                  clear A400
                                  replace H := Option.bind_eq_some_iff.mp H
                                  obtain ⟨⟨t122, t123⟩, A410, H⟩ := H
                                  replace H : (if t121.size + 1 ≤ 9223372036854775807 then ((impl_BytesOf.f kj10 (t121 ++ (⟨#[48]⟩ : ByteArray))).bind fun bt124 => (if t115 = 9 then (if t118 = 8 then (if t120 = 8 then ((impl_SumOf.f kj10 t102).bind fun t126 => ((spec_SumOf.f kj10 t102).bind fun t127 => (if t126 = t127 then ((spec_HexOf.f kj10 t102).bind fun t128 => (if t121.toList = t128.toList then (if t123 = 0 then (if t122.toList = t102.toList then (some (bt124.2 == 3)) else (none)) else (none)) else (none))) else (none)))) else (none)) else (if t118 = 3 then (if t120 = 8 then ((impl_SumOf.f kj10 t102).bind fun t129 => ((spec_SumOf.f kj10 t102).bind fun t130 => (if t129 = t130 then ((spec_HexOf.f kj10 t102).bind fun t131 => (if t121.toList = t131.toList then (if t123 = 0 then (if t122.toList = t102.toList then (some (bt124.2 == 3)) else (none)) else (none)) else (none))) else (none)))) else (none)) else (none))) else (none))) else (none)) = some r := H
                                  have A41 := Aside0.mk A410
                                  clear A410
                                  by_cases c42 : t121.size + 1 ≤ 9223372036854775807
                                  · rw [if_pos c42] at H
                                    have c42b0 := eq_true c42
                                    have c42b1 : decide (t121.size + 1 ≤ 9223372036854775807) = true := decide_eq_true c42
                                    try have c42b2 : (9223372036854775807 < t121.size + 1) = False := eq_false (Nat.not_lt.2 c42)
                                    replace H := Option.bind_eq_some_iff.mp H
                                    obtain ⟨⟨t124, t125⟩, A430, H⟩ := H
                                    replace H : (if t115 = 9 then (if t118 = 8 then (if t120 = 8 then ((impl_SumOf.f kj10 t102).bind fun t126 => ((spec_SumOf.f kj10 t102).bind fun t127 => (if t126 = t127 then ((spec_HexOf.f kj10 t102).bind fun t128 => (if t121.toList = t128.toList then (if t123 = 0 then (if t122.toList = t102.toList then (some (t125 == 3)) else (none)) else (none)) else (none))) else (none)))) else (none)) else (if t118 = 3 then (if t120 = 8 then ((impl_SumOf.f kj10 t102).bind fun t129 => ((spec_SumOf.f kj10 t102).bind fun t130 => (if t129 = t130 then ((spec_HexOf.f kj10 t102).bind fun t131 => (if t121.toList = t131.toList then (if t123 = 0 then (if t122.toList = t102.toList then (some (t125 == 3)) else (none)) else (none)) else (none))) else (none)))) else (none)) else (none))) else (none)) = some r := H
                                    have A43 := Aside0.mk A430
                                    clear A430
                                    by_cases c44 : t115 = 9
                                    · rw [if_pos c44] at H
                                      have c44b0 : (t115 == 9) = true := beq_iff_eq.mpr c44
                                      have c44b1 : (t115 != 9) = false := bne_eq_false_iff_eq.mpr c44
                                      clear c44
                                      by_cases c45 : t118 = 8
                                      · rw [if_pos c45] at H
                                        have c45b0 : (t118 == 8) = true := beq_iff_eq.mpr c45
                                        have c45b1 : (t118 != 8) = false := bne_eq_false_iff_eq.mpr c45
                                        clear c45
                                        by_cases c46 : t120 = 8
                                        · rw [if_pos c46] at H
                                          have c46b0 : (t120 == 8) = true := beq_iff_eq.mpr c46
                                          have c46b1 : (t120 != 8) = false := bne_eq_false_iff_eq.mpr c46
                                          clear c46
                                          replace H := Option.bind_eq_some_iff.mp H
                                          obtain ⟨t126, A470, H⟩ := H
                                          replace H : ((spec_SumOf.f kj10 t102).bind fun t127 => (if t126 = t127 then ((spec_HexOf.f kj10 t102).bind fun t128 => (if t121.toList = t128.toList then (if t123 = 0 then (if t122.toList = t102.toList then (some (t125 == 3)) else (none)) else (none)) else (none))) else (none))) = some r := H
                                          have A47 := Aside0.mk A470
                                          clear A470
                                          replace H := Option.bind_eq_some_iff.mp H
                                          obtain ⟨t127, A480, H⟩ := H
                                          replace H : (if t126 = t127 then ((spec_HexOf.f kj10 t102).bind fun t128 => (if t121.toList = t128.toList then (if t123 = 0 then (if t122.toList = t102.toList then (some (t125 == 3)) else (none)) else (none)) else (none))) else (none)) = some r := H
                                          have A48 := Aside0.mk A480
                                          clear A480
                                          by_cases c49 : t126 = t127
                                          · rw [if_pos c49] at H
                                            have c49b0 : (t126 == t127) = true := beq_iff_eq.mpr c49
                                            have c49b1 : (t126 != t127) = false := bne_eq_false_iff_eq.mpr c49
                                            clear c49
                                            replace H := Option.bind_eq_some_iff.mp H
                                            obtain ⟨t128, A500, H⟩ := H
                                            replace H : (if t121.toList = t128.toList then (if t123 = 0 then (if t122.toList = t102.toList then (some (t125 == 3)) else (none)) else (none)) else (none)) = some r := H
                                            have A50 := Aside0.mk A500
                                            clear A500
                                            by_cases c51 : t121.toList = t128.toList
                                            · rw [if_pos c51] at H
                                              have c51b0 : (t121.toList == t128.toList) = true := beq_iff_eq.mpr c51
                                              have c51b1 : (t121.toList != t128.toList) = false := bne_eq_false_iff_eq.mpr c51
                                              clear c51
                                              by_cases c52 : t123 = 0
                                              · rw [if_pos c52] at H
                                                have c52b0 : (t123 == 0) = true := beq_iff_eq.mpr c52
                                                have c52b1 : (t123 != 0) = false := bne_eq_false_iff_eq.mpr c52
                                                clear c52
                                                by_cases c53 : t122.toList = t102.toList
                                                · rw [if_pos c53] at H
                                                  have c53b0 : (t122.toList == t102.toList) = true := beq_iff_eq.mpr c53
                                                  have c53b1 : (t122.toList != t102.toList) = false := bne_eq_false_iff_eq.mpr c53
                                                  clear c53
                                                  obtain rfl := Option.some.inj H
                                                  try go_wp2_with (first | ((with_reducible refine gate_callee (f := 21) rfl ?_); refine goesL_ (some 79) rfl rfl Try.func21 (by kernel_rfl) rfl #[.slice A1 l1.length c1, .int .i64 1, .int .i64 (t102.size : Int)] rfl (by (try simp only [List.map_toArray, List.map_cons, List.map_nil]); first | done | rfl | (simp only [List.length_drop, List.length_take]; rfl)) ?_; (with_reducible refine (laws_at.calls _ _ l1 1 (t102.size : Int) t109 _ ?side1 ?side2 A21.out).mono ?_); (case side1 => repeat (first | exact (Kd.C_below HR1.out HB.out) | (with_reducible refine Kd.C_alloc ?_ _) | (with_reducible refine Kd.C_drewN ?_ _) | (with_reducible refine Kd.C_drew ?_))); (case side2 => exact HC1.out); rintro e w' ⟨rfl, ⟨nd, rfl⟩⟩; refine ⟨_, rfl, ?_⟩))
                                                  (try (rw [drewN_self wc]; generalize hq_ : World.drewN wc _ = wc; have n0_ : Aside0 (Below w.heap.size w wc) := ⟨by rw [← hq_]; exact (by repeat (first | (with_reducible first | exact HB.out | apply below_alloc | apply pw_below_drewN | apply below_drew1) | exact HB.out))⟩; clear HB hq_; have HB := n0_; clear n0_))
                                                  have n0_ := Aside0.mk (below_drew1 HB.out)
                                                  clear HB
                                                  have HB := n0_
                                                  clear n0_
                                                  have p26 : 0 ≤ ((ji22) : Int) := of_decide_eq_true (by first | (with_reducible assumption) | assumption)
                                                  have q26 : (ji22) < (t103.size : Int) := of_decide_eq_true (by first | (with_reducible assumption) | assumption)
                                                  have hx26 := bt_at t103 (ji22)
                                                  replace p26 := eq_true p26
                                                  replace q26 := eq_true q26
                                                  refine start_ (n := 25) (S := fun w' => True) (ds := []) #[false, false, false, false, false, false, false, false, false, false, false, false, false, false, false, false, false, false, false, false, false, false, false, false, false] (by kernel_rfl) rfl rfl trivial (fun hHeld => ?_); refine with_tabW laws_FnFrames.tab10 laws_FnFrames.bits10 (fun HT_ HW_ => ?_)
                                                  generalize wc.drew = w54 at HB hHeld ⊢
                                                  refine pure_ (i := 0) (N := some 82) (v := ?_) (a' := ?_) #[true, false, false, false, false, false, false, false, false, false, false, false, false, false, false, false, false, false, false, false, false, false, false, false, false] rfl rfl (any_of HT_.out (by kernel_rfl)) (fun _ _ _ h => h) (Or.inl ⟨by rfl, ?_⟩) ?_ ?_
                                                  rotate_left
                                                  · intro w'
                                                    go_simp
                                                    with_reducible rfl
                                                  rotate_left
                                                  · simp only [Act.put, List.setIfInBounds_toArray, List.set_cons_zero, List.set_cons_succ, i64_w, i32_w]
                                                    rfl
                                                  refine pure_ (i := 1) (N := some 83) (v := ?_) (a' := ?_) #[true, true, false, false, false, false, false, false, false, false, false, false, false, false, false, false, false, false, false, false, false, false, false, false, false] rfl rfl (any_of HT_.out (by kernel_rfl)) (fun _ _ _ h => h) (Or.inl ⟨by rfl, ?_⟩) ?_ ?_
                                                  rotate_left
                                                  · intro w'
                                                    go_simp
                                                    with_reducible rfl
                                                  rotate_left
                                                  · simp only [Act.put, List.setIfInBounds_toArray, List.set_cons_zero, List.set_cons_succ, i64_w, i32_w]
                                                    rfl
                                                  refine pure_ (i := 2) (N := some 84) (v := ?_) (a' := ?_) #[true, true, true, false, false, false, false, false, false, false, false, false, false, false, false, false, false, false, false, false, false, false, false, false, false] rfl rfl (any_of HT_.out (by kernel_rfl)) (fun _ _ _ h => h) (Or.inl ⟨by rfl, ?_⟩) ?_ ?_
                                                  rotate_left
                                                  · intro w'
                                                    go_simp
                                                    with_reducible rfl
                                                  rotate_left
                                                  · simp only [Act.put, List.setIfInBounds_toArray, List.set_cons_zero, List.set_cons_succ, i64_w, i32_w]
                                                    rfl
                                                  refine pure_ (i := 3) (N := some 85) (v := ?_) (a' := ?_) #[true, true, true, true, false, false, false, false, false, false, false, false, false, false, false, false, false, false, false, false, false, false, false, false, false] rfl rfl (any_of HT_.out (by kernel_rfl)) (fun _ _ _ h => h) (Or.inl ⟨by rfl, ?_⟩) ?_ ?_
                                                  rotate_left
                                                  · intro w'
                                                    go_simp
                                                    with_reducible rfl
                                                  rotate_left
                                                  · simp only [Act.put, List.setIfInBounds_toArray, List.set_cons_zero, List.set_cons_succ, i64_w, i32_w]
                                                    rfl
                                                  refine pure_ (i := 4) (N := some 86) (v := ?_) (a' := ?_) #[true, true, true, true, true, false, false, false, false, false, false, false, false, false, false, false, false, false, false, false, false, false, false, false, false] rfl rfl (any_of HT_.out (by kernel_rfl)) (fun _ _ _ h => h) (Or.inl ⟨by rfl, ?_⟩) ?_ ?_
                                                  rotate_left
                                                  · intro w'
                                                    go_simp
                                                    with_reducible rfl
                                                  rotate_left
                                                  · simp only [Act.put, List.setIfInBounds_toArray, List.set_cons_zero, List.set_cons_succ, i64_w, i32_w]
                                                    rfl
                                                  refine pure_ (i := 6) (N := some 88) (v := ?_) (a' := ?_) #[true, true, true, true, true, false, true, false, false, false, false, false, false, false, false, false, false, false, false, false, false, false, false, false, false] rfl rfl (any_of HT_.out (by kernel_rfl)) (fun _ _ _ h => h) (Or.inl ⟨by rfl, ?_⟩) ?_ ?_
                                                  rotate_left
                                                  · intro w'
                                                    go_simp
                                                    with_reducible rfl
                                                  rotate_left
                                                  · simp only [Act.put, List.setIfInBounds_toArray, List.set_cons_zero, List.set_cons_succ, i64_w, i32_w]
                                                    rfl
                                                  refine pure_ (i := 14) (N := some 96) (v := ?_) (a' := ?_) #[true, true, true, true, true, false, true, false, false, false, false, false, false, false, true, false, false, false, false, false, false, false, false, false, false] rfl rfl (any_of HT_.out (by kernel_rfl)) (fun _ _ _ h => h) (Or.inl ⟨by rfl, ?_⟩) ?_ ?_
                                                  rotate_left
                                                  · intro w'
                                                    go_simp
                                                    with_reducible rfl
                                                  rotate_left
                                                  · simp only [Act.put, List.setIfInBounds_toArray, List.set_cons_zero, List.set_cons_succ, i64_w, i32_w]
                                                    rfl
                                                  refine pure_ (i := 15) (N := some 97) (v := ?_) (a' := ?_) #[true, true, true, true, true, false, true, false, false, false, false, false, false, false, true, true, false, false, false, false, false, false, false, false, false] rfl rfl (any_of HT_.out (by kernel_rfl)) (fun _ _ _ h => h) (Or.inl ⟨by rfl, ?_⟩) ?_ ?_
                                                  rotate_left
                                                  · intro w'
                                                    go_simp
                                                    with_reducible rfl
                                                  rotate_left
                                                  · simp only [Act.put, List.setIfInBounds_toArray, List.set_cons_zero, List.set_cons_succ, i64_w, i32_w]
                                                    rfl
                                                  refine pure_ (i := 16) (N := some 98) (v := ?_) (a' := ?_) #[true, true, true, true, true, false, true, false, false, false, false, false, false, false, true, true, true, false, false, false, false, false, false, false, false] rfl rfl (any_of HT_.out (by kernel_rfl)) (fun _ _ _ h => h) (Or.inl ⟨by rfl, ?_⟩) ?_ ?_
                                                  rotate_left
                                                  · intro w'
                                                    go_simp
                                                    with_reducible rfl
                                                  rotate_left
                                                  · simp only [Act.put, List.setIfInBounds_toArray, List.set_cons_zero, List.set_cons_succ, i64_w, i32_w]
                                                    rfl
                                                  refine pure_ (i := 17) (N := some 99) (v := ?_) (a' := ?_) #[true, true, true, true, true, false, true, false, false, false, false, false, false, false, true, true, true, true, false, false, false, false, false, false, false] rfl rfl (any_of HT_.out (by kernel_rfl)) (fun _ _ _ h => h) (Or.inl ⟨by rfl, ?_⟩) ?_ ?_
                                                  rotate_left
                                                  · intro w'
                                                    go_simp
                                                    with_reducible rfl
                                                  rotate_left
                                                  · simp only [Act.put, List.setIfInBounds_toArray, List.set_cons_zero, List.set_cons_succ, i64_w, i32_w]
                                                    rfl
                                                  refine take_ (i := 5) (N := some 87) (v := ?_) (a' := ?_) #[true, true, true, true, true, true, true, false, false, false, false, false, false, false, true, true, true, true, false, false, false, false, false, false, false] rfl rfl (take_ofW HT_.out HW_.out (by kernel_rfl)) (fun _ _ _ h => h) (Or.inl ⟨by rfl, ?_⟩) hHeld ?_ ?_
                                                  rotate_left
                                                  · intro w' _
                                                    go_simp
                                                    with_reducible rfl
                                                  rotate_left
                                                  · simp only [Act.put, List.setIfInBounds_toArray, List.set_cons_zero, List.set_cons_succ, i64_w, i32_w]
                                                    rfl
                                                  refine one_ (i := 7) (N := some 89) #[true, true, true, true, true, true, true, true, false, false, false, false, false, false, true, true, true, true, false, false, false, false, false, false, false] rfl rfl (one_of HT_.out (by kernel_rfl)) (by decide) (fun K hK => ?_)
                                                  refine goes_ Try.func21 (by kernel_rfl) rfl #[.slice A1 l1.length c1, .int .i64 2, .int .i64 255] (by rfl) rfl rfl (by (try simp only [List.map_toArray, List.map_cons, List.map_nil]); first | done | rfl | (simp only [List.length_drop, List.length_take]; rfl)) ?_
                                                  with_reducible refine (laws_at.calls _ _ l1 2 255 t110 _ ?side1 ?side2 A27.out).mono ?_
                                                  (case side1 => repeat (first | exact (Kd.C_below HR1.out HB.out) | (with_reducible refine Kd.C_alloc ?_ _) | (with_reducible refine Kd.C_drewN ?_ _) | (with_reducible refine Kd.C_drew ?_)))
                                                  (case side2 => exact HC1.out)
                                                  rintro e w' ⟨rfl, ⟨nd, rfl⟩⟩
                                                  refine ⟨_, rfl, ?_⟩
                                                  refine hK.out _ _ trivial (fun hHeld => ?_)
                                                  clear hK K
                                                  refine norm_ (a' := ?_) ?_ ?_
                                                  rotate_left
                                                  · show Act.put _ (some 89) _ = _
                                                    simp only [Act.put, List.setIfInBounds_toArray, List.set_cons_zero, List.set_cons_succ, i64_w, i32_w]
                                                    rfl
                                                  refine pure_ (i := 8) (N := some 90) (v := ?_) (a' := ?_) #[true, true, true, true, true, true, true, true, true, false, false, false, false, false, true, true, true, true, false, false, false, false, false, false, false] rfl rfl (any_of HT_.out (by kernel_rfl)) (fun _ _ _ h => h) (Or.inl ⟨by rfl, ?_⟩) ?_ ?_
                                                  rotate_left
                                                  · intro w'
                                                    go_simp
                                                    with_reducible rfl
                                                  rotate_left
                                                  · simp only [Act.put, List.setIfInBounds_toArray, List.set_cons_zero, List.set_cons_succ, i64_w, i32_w]
                                                    rfl
                                                  refine pure_ (i := 9) (N := some 91) (v := ?_) (a' := ?_) #[true, true, true, true, true, true, true, true, true, true, false, false, false, false, true, true, true, true, false, false, false, false, false, false, false] rfl rfl (any_of HT_.out (by kernel_rfl)) (fun _ _ _ h => h) (Or.inl ⟨by rfl, ?_⟩) ?_ ?_
                                                  rotate_left
                                                  · intro w'
                                                    go_simp
                                                    with_reducible rfl
                                                  rotate_left
                                                  · simp only [Act.put, List.setIfInBounds_toArray, List.set_cons_zero, List.set_cons_succ, i64_w, i32_w]
                                                    rfl
                                                  refine pure_ (i := 10) (N := some 92) (v := ?_) (a' := ?_) #[true, true, true, true, true, true, true, true, true, true, true, false, false, false, true, true, true, true, false, false, false, false, false, false, false] rfl rfl (any_of HT_.out (by kernel_rfl)) (fun _ _ _ h => h) (Or.inl ⟨by rfl, ?_⟩) ?_ ?_
                                                  rotate_left
                                                  · intro w'
                                                    go_simp
                                                    with_reducible rfl
                                                  rotate_left
                                                  · simp only [Act.put, List.setIfInBounds_toArray, List.set_cons_zero, List.set_cons_succ, i64_w, i32_w]
                                                    rfl
                                                  refine one_ (i := 11) (N := some 93) #[true, true, true, true, true, true, true, true, true, true, true, true, false, false, true, true, true, true, false, false, false, false, false, false, false] rfl rfl (one_of HT_.out (by kernel_rfl)) (by decide) (fun K hK => ?_)
                                                  refine Kd.R_lit_step (Kd.int .u8) _ 5 ?hg (N := 93) ?hd (xs := ([Go.bits .xor .u8 (bt t103 (ji22)) ((wrap64 (1 + t110)) % 256)] : List Int)) (inner := [.int .u8 (Go.bits .xor .u8 (bt t103 (ji22)) ((wrap64 (1 + t110)) % 256))]) (ok := fun _ => True) (okp := fun _ => True) ?hr ?hp (fun _ hk => hk) trivial (Below.refl _ _) (Nat.le_refl _) (by simp) ?_; (case hd => rfl); (case hg => rfl); (case hr => first | (go_simp; done) | (go_simp; rfl)); (case hp => exact (Reps.one (show Kd.M (Kd.int .u8) _ _ _ (Go.bits .xor .u8 (bt t103 (ji22)) ((wrap64 (1 + t110)) % 256)) [.int .u8 (Go.bits .xor .u8 (bt t103 (ji22)) ((wrap64 (1 + t110)) % 256))] from rfl) (Reps.none _ _)))
                                                  intro v112 w55 ho56 hb hg_ hnew_
                                                  clear hg_ hnew_
                                                  (first | rw [← Ny111.out] at ho56 | (simp only [Int.reduceToNat] at ho56; rw [← Ny111.out] at ho56))
                                                  have n0_ := Aside0.mk (Kd.R_lower ho56 (below_size (by repeat (first | (with_reducible first | exact HB.out | apply below_alloc | apply pw_below_drewN | apply below_drew1) | exact HB.out))))
                                                  have n1_ := Aside0.mk (below_step (by repeat (first | (with_reducible first | exact HB.out | apply below_alloc | apply pw_below_drewN | apply below_drew1) | exact HB.out)) hb)
                                                  clear HB
                                                  have HO113 := n0_
                                                  have HB := n1_
                                                  clear n0_ n1_
                                                  clear hb ho56
                                                  refine hK.out _ _ trivial (fun hHeld => ?_)
                                                  clear hK K
                                                  refine norm_ (a' := ?_) ?_ ?_
                                                  rotate_left
                                                  · show Act.put _ (some 93) _ = _
                                                    simp only [Act.put, List.setIfInBounds_toArray, List.set_cons_zero, List.set_cons_succ, i64_w, i32_w]
                                                    rfl
                                                  refine one_ (i := 12) (N := some 94) #[true, true, true, true, true, true, true, true, true, true, true, true, true, false, true, true, true, true, false, false, false, false, false, false, false] rfl rfl (one_of HT_.out (by kernel_rfl)) (by decide) (fun K hK => ?_)
                                                  have hcv57 := own_string (P := Try.prog) Try.underlying30 Try.underlying5 Try.underlying9 (Kd.own_of_R HO113.out)
                                                  refine value_ (w1 := ?_) (v := ?_) (by rfl) rfl ?_ ?_
                                                  rotate_left 2
                                                  · go_simp
                                                    constructor
                                                    · rfl
                                                    · rfl
                                                  clear hcv57
                                                  refine hK.out _ _ trivial (fun hHeld => ?_)
                                                  clear hK K
                                                  refine norm_ (a' := ?_) ?_ ?_
                                                  rotate_left
                                                  · show Act.put _ (some 94) _ = _
                                                    simp only [Act.put, List.setIfInBounds_toArray, List.set_cons_zero, List.set_cons_succ, i64_w, i32_w]
                                                    rfl
                                                  refine pure_ (i := 13) (N := some 95) (v := ?_) (a' := ?_) #[true, true, true, true, true, true, true, true, true, true, true, true, true, true, true, true, true, true, false, false, false, false, false, false, false] rfl rfl (any_of HT_.out (by kernel_rfl)) (fun _ _ _ h => h) (Or.inl ⟨by rfl, ?_⟩) ?_ ?_
                                                  rotate_left
                                                  · intro w'
                                                    go_simp
                                                    with_reducible rfl
                                                  rotate_left
                                                  · simp only [Act.put, List.setIfInBounds_toArray, List.set_cons_zero, List.set_cons_succ, i64_w, i32_w]
                                                    rfl
                                                  refine pure_ (i := 18) (N := some 100) (v := ?_) (a' := ?_) #[true, true, true, true, true, true, true, true, true, true, true, true, true, true, true, true, true, true, true, false, false, false, false, false, false] rfl rfl (any_of HT_.out (by kernel_rfl)) (fun _ _ _ h => h) (Or.inl ⟨by rfl, ?_⟩) ?_ ?_
                                                  rotate_left
                                                  · intro w'
                                                    go_simp
                                                    with_reducible rfl
                                                  rotate_left
                                                  · simp only [Act.put, List.setIfInBounds_toArray, List.set_cons_zero, List.set_cons_succ, i64_w, i32_w]
                                                    rfl
                                                  refine one_ (i := 19) (N := some 101) #[true, true, true, true, true, true, true, true, true, true, true, true, true, true, true, true, true, true, true, true, false, false, false, false, false] rfl rfl (one_of HT_.out (by kernel_rfl)) (by decide) (fun K hK => ?_)
                                                  refine goes_ Try.func25 (by kernel_rfl) rfl #[.string (((t103.extract 0 ((ji22) : Int).toNat) ++ (strOfNums y111)) ++ (t103.extract ((ji29) : Int).toNat t103.size))] (by rfl) rfl rfl (by (try simp only [List.map_toArray, List.map_cons, List.map_nil]); first | done | (simp only [hji22, hji29]; rfl) | rfl | (simp only [List.length_drop, List.length_take]; rfl)) ?_
                                                  with_reducible refine (impl_ReadFrame.calls kj10 (((t103.extract 0 ((ji22) : Int).toNat) ++ (strOfNums y111)) ++ (t103.extract ((ji29) : Int).toNat t103.size)) t114 t115 _ A33.out).mono ?_
                                                  rintro e w58 ⟨rfl, hb⟩
                                                  refine ⟨_, rfl, ?_⟩
                                                  have n0_ := Aside0.mk (Kd.R_below (by (with_reducible repeat (first | apply Kd.R_alloc | apply Kd.R_drewN | apply Kd.R_drew)); exact HO113.out) hb)
                                                  have n1_ := Aside0.mk (below_step (by repeat (first | (with_reducible first | exact HB.out | apply below_alloc | apply pw_below_drewN | apply below_drew1) | exact HB.out)) hb)
                                                  clear HO113
                                                  clear HB
                                                  have HO113 := n0_
                                                  have HB := n1_
                                                  clear n0_ n1_
                                                  (try clear hb)
                                                  (try clear hb2)
                                                  (try clear hk)
                                                  (try clear hi)
                                                  refine hK.out _ _ trivial (fun hHeld => ?_)
                                                  clear hK K
                                                  refine norm_ (a' := ?_) ?_ ?_
                                                  rotate_left
                                                  · show Act.put _ (some 101) _ = _
                                                    simp only [Act.put, List.setIfInBounds_toArray, List.set_cons_zero, List.set_cons_succ, i64_w, i32_w]
                                                    rfl
                                                  refine pure_ (i := 20) (N := some 81) (v := ?_) (a' := ?_) #[true, true, true, true, true, true, true, true, true, true, true, true, true, true, true, true, true, true, true, true, true, false, false, false, false] rfl rfl (any_of HT_.out (by kernel_rfl)) (fun _ _ _ h => h) (Or.inl ⟨by rfl, ?_⟩) ?_ ?_
                                                  rotate_left
                                                  · intro w'
                                                    go_simp
                                                    with_reducible rfl
                                                  rotate_left
                                                  · simp only [Act.put, List.setIfInBounds_toArray, List.set_cons_zero, List.set_cons_succ, i64_w, i32_w]
                                                    rfl
                                                  refine pure_ (i := 21) (N := some 102) (v := ?_) (a' := ?_) #[true, true, true, true, true, true, true, true, true, true, true, true, true, true, true, true, true, true, true, true, true, true, false, false, false] rfl rfl (any_of HT_.out (by kernel_rfl)) (fun _ _ _ h => h) (Or.inl ⟨by rfl, ?_⟩) ?_ ?_
                                                  rotate_left
                                                  · intro w'
                                                    go_simp
                                                    with_reducible rfl
                                                  rotate_left
                                                  · simp only [Act.put, List.setIfInBounds_toArray, List.set_cons_zero, List.set_cons_succ, i64_w, i32_w]
                                                    rfl
                                                  refine pure_ (i := 22) (N := some 103) (v := ?_) (a' := ?_) #[true, true, true, true, true, true, true, true, true, true, true, true, true, true, true, true, true, true, true, true, true, true, true, false, false] rfl rfl (any_of HT_.out (by kernel_rfl)) (fun _ _ _ h => h) (Or.inl ⟨by rfl, ?_⟩) ?_ ?_
                                                  rotate_left
                                                  · intro w'
                                                    go_simp
                                                    with_reducible rfl
                                                  rotate_left
                                                  · simp only [Act.put, List.setIfInBounds_toArray, List.set_cons_zero, List.set_cons_succ, i64_w, i32_w]
                                                    rfl
                                                  refine pure_ (i := 23) (N := some 13) (v := ?_) (a' := ?_) #[true, true, true, true, true, true, true, true, true, true, true, true, true, true, true, true, true, true, true, true, true, true, true, true, false] rfl rfl (any_of HT_.out (by kernel_rfl)) (fun _ _ _ h => h) (Or.inl ⟨by rfl, ?_⟩) ?_ ?_
                                                  rotate_left
                                                  · intro w'
                                                    go_simp
                                                    with_reducible rfl
                                                  rotate_left
                                                  · simp only [Act.put, List.setIfInBounds_toArray, List.set_cons_zero, List.set_cons_succ, i64_w, i32_w]
                                                    rfl
                                                  refine pure_ (i := 24) (N := some 14) (v := ?_) (a' := ?_) #[true, true, true, true, true, true, true, true, true, true, true, true, true, true, true, true, true, true, true, true, true, true, true, true, true] rfl rfl (any_of HT_.out (by kernel_rfl)) (fun _ _ _ h => h) (Or.inl ⟨by rfl, ?_⟩) ?_ ?_
                                                  rotate_left
                                                  · intro w'
                                                    go_simp
                                                    with_reducible rfl
                                                  rotate_left
                                                  · simp only [Act.put, List.setIfInBounds_toArray, List.set_cons_zero, List.set_cons_succ, i64_w, i32_w]
                                                    rfl
                                                  refine done_ (done_of HT_.out (by kernel_rfl)) ?_
                                                  try go_wp2_with (first | ((with_reducible refine gate_callee (f := 21) rfl ?_); refine goesL_ (some 109) rfl rfl Try.func21 (by kernel_rfl) rfl #[.slice A1 l1.length c1, .int .i64 3, .int .i64 (t103.size : Int)] rfl (by (try simp only [List.map_toArray, List.map_cons, List.map_nil]); first | done | rfl | (simp only [List.length_drop, List.length_take]; rfl)) ?_; (with_reducible refine (laws_at.calls _ _ l1 3 (t103.size : Int) t116 _ ?side1 ?side2 A34.out).mono ?_); (case side1 => repeat (first | exact (Kd.C_below HR1.out HB.out) | (with_reducible refine Kd.C_alloc ?_ _) | (with_reducible refine Kd.C_drewN ?_ _) | (with_reducible refine Kd.C_drew ?_))); (case side2 => exact HC1.out); rintro e w' ⟨rfl, ⟨nd, rfl⟩⟩; refine ⟨_, rfl, ?_⟩) | ((with_reducible refine gate_callee (f := 25) rfl ?_); refine goesL_ (some 111) rfl rfl Try.func25 (by kernel_rfl) rfl #[.string (t103.extract 0 (t116 : Int).toNat)] rfl (by (try simp only [List.map_toArray, List.map_cons, List.map_nil]); first | done | rfl | (simp only [List.length_drop, List.length_take]; rfl)) ?_; (with_reducible refine (impl_ReadFrame.calls kj10 (t103.extract 0 (t116 : Int).toNat) t117 t118 _ A37.out).mono ?_); rintro e w59 ⟨rfl, hb⟩; refine ⟨_, rfl, ?_⟩; have n0_ := Aside0.mk (Kd.R_below (by (with_reducible repeat (first | apply Kd.R_alloc | apply Kd.R_drewN | apply Kd.R_drew)); exact HO113.out) hb); have n1_ := Aside0.mk (below_step (by repeat (first | (with_reducible first | exact HB.out | apply below_alloc | apply pw_below_drewN | apply below_drew1) | exact HB.out)) hb); clear HO113; clear HB; have HO113 := n0_; have HB := n1_; clear n0_ n1_; (try clear hb); (try clear hb2); (try clear hk); (try clear hi)) | ((with_reducible refine gate_callee (f := 25) rfl ?_); refine goesL_ (some 117) rfl rfl Try.func25 (by kernel_rfl) rfl #[.string (t103 ++ (⟨#[120]⟩ : ByteArray))] rfl (by (try simp only [List.map_toArray, List.map_cons, List.map_nil]); first | done | rfl | (simp only [List.length_drop, List.length_take]; rfl)) ?_; (with_reducible refine (impl_ReadFrame.calls kj10 (t103 ++ (⟨#[120]⟩ : ByteArray)) t119 t120 _ A39.out).mono ?_); rintro e w60 ⟨rfl, hb⟩; refine ⟨_, rfl, ?_⟩; have n0_ := Aside0.mk (Kd.R_below (by (with_reducible repeat (first | apply Kd.R_alloc | apply Kd.R_drewN | apply Kd.R_drew)); exact HO113.out) hb); have n1_ := Aside0.mk (below_step (by repeat (first | (with_reducible first | exact HB.out | apply below_alloc | apply pw_below_drewN | apply below_drew1) | exact HB.out)) hb); clear HO113; clear HB; have HO113 := n0_; have HB := n1_; clear n0_ n1_; (try clear hb); (try clear hb2); (try clear hk); (try clear hi)) | ((with_reducible refine gate_callee (f := 30) rfl ?_); refine goesL_ (some 121) rfl rfl Try.func30 (by kernel_rfl) rfl #[.string t102] rfl (by (try simp only [List.map_toArray, List.map_cons, List.map_nil]); first | done | rfl | (simp only [List.length_drop, List.length_take]; rfl)) ?_; (with_reducible refine (impl_HexOf.calls kj10 t102 t121 _ A40.out).mono ?_); rintro e w61 ⟨rfl, hb⟩; refine ⟨_, rfl, ?_⟩; have n0_ := Aside0.mk (Kd.R_below (by (with_reducible repeat (first | apply Kd.R_alloc | apply Kd.R_drewN | apply Kd.R_drew)); exact HO113.out) hb); have n1_ := Aside0.mk (below_step (by repeat (first | (with_reducible first | exact HB.out | apply below_alloc | apply pw_below_drewN | apply below_drew1) | exact HB.out)) hb); clear HO113; clear HB; have HO113 := n0_; have HB := n1_; clear n0_ n1_; (try clear hb); (try clear hb2); (try clear hk); (try clear hi)) | ((with_reducible refine gate_callee (f := 31) rfl ?_); refine goesL_ (some 124) rfl rfl Try.func31 (by kernel_rfl) rfl #[.string t121] rfl (by (try simp only [List.map_toArray, List.map_cons, List.map_nil]); first | done | rfl | (simp only [List.length_drop, List.length_take]; rfl)) ?_; (with_reducible refine (impl_BytesOf.calls kj10 t121 t122 t123 _ A41.out).mono ?_); rintro e w62 ⟨rfl, hb⟩; refine ⟨_, rfl, ?_⟩; have n0_ := Aside0.mk (Kd.R_below (by (with_reducible repeat (first | apply Kd.R_alloc | apply Kd.R_drewN | apply Kd.R_drew)); exact HO113.out) hb); have n1_ := Aside0.mk (below_step (by repeat (first | (with_reducible first | exact HB.out | apply below_alloc | apply pw_below_drewN | apply below_drew1) | exact HB.out)) hb); clear HO113; clear HB; have HO113 := n0_; have HB := n1_; clear n0_ n1_; (try clear hb); (try clear hb2); (try clear hk); (try clear hi)) | ((with_reducible refine gate_callee (f := 31) rfl ?_); refine goesL_ (some 130) rfl rfl Try.func31 (by kernel_rfl) rfl #[.string (t121 ++ (⟨#[48]⟩ : ByteArray))] rfl (by (try simp only [List.map_toArray, List.map_cons, List.map_nil]); first | done | rfl | (simp only [List.length_drop, List.length_take]; rfl)) ?_; (with_reducible refine (impl_BytesOf.calls kj10 (t121 ++ (⟨#[48]⟩ : ByteArray)) t124 t125 _ A43.out).mono ?_); rintro e w63 ⟨rfl, hb⟩; refine ⟨_, rfl, ?_⟩; have n0_ := Aside0.mk (Kd.R_below (by (with_reducible repeat (first | apply Kd.R_alloc | apply Kd.R_drewN | apply Kd.R_drew)); exact HO113.out) hb); have n1_ := Aside0.mk (below_step (by repeat (first | (with_reducible first | exact HB.out | apply below_alloc | apply pw_below_drewN | apply below_drew1) | exact HB.out)) hb); clear HO113; clear HB; have HO113 := n0_; have HB := n1_; clear n0_ n1_; (try clear hb); (try clear hb2); (try clear hk); (try clear hi)) | (go_at_call 32; (with_reducible refine (impl_SumOf.calls kj10 t102 t126 _ A47.out).mono ?_); rintro e w' ⟨rfl, ⟨nd, rfl⟩⟩) | (go_at_call 33; (with_reducible refine (spec_SumOf.calls kj10 t102 t127 _ A48.out).mono ?_); rintro e w' ⟨rfl, ⟨nd, rfl⟩⟩) | (go_at_call 34; (with_reducible refine (spec_HexOf.calls kj10 t102 t128 _ A50.out).mono ?_); rintro e w64 ⟨rfl, hb⟩; have n0_ := Aside0.mk (Kd.R_below (by (with_reducible repeat (first | apply Kd.R_alloc | apply Kd.R_drewN | apply Kd.R_drew)); exact HO113.out) hb); have n1_ := Aside0.mk (below_step (by repeat (first | (with_reducible first | exact HB.out | apply below_alloc | apply pw_below_drewN | apply below_drew1) | exact HB.out)) hb); clear HO113; clear HB; have HO113 := n0_; have HB := n1_; clear n0_ n1_; (try clear hb); (try clear hb2); (try clear hk); (try clear hi)))
                                                  go_ret
                                                  exact ⟨by first | rfl | (simp [errW_none, errW_some] <;> rfl) | (simp only [← hji22, ← hji29]; first | rfl | (simp [errW_none, errW_some] <;> rfl)) | (simp [*, errW_none, errW_some] <;> rfl), by repeat (first | (with_reducible first | exact HB.out | apply below_alloc | apply pw_below_drewN | apply below_drew1) | exact HB.out)⟩
                                                · rw [if_neg c53] at H
                                                  exact absurd H (by simp)
                                              · rw [if_neg c52] at H
                                                exact absurd H (by simp)
                                            · rw [if_neg c51] at H
                                              exact absurd H (by simp)
                                          · rw [if_neg c49] at H
                                            exact absurd H (by simp)
                                        · rw [if_neg c46] at H
                                          exact absurd H (by simp)
                                      · rw [if_neg c45] at H
                                        have c45b0 : (t118 == 8) = false := beq_eq_false_iff_ne.mpr c45
                                        have c45b1 : (t118 != 8) = true := bne_iff_ne.mpr c45
                                        by_cases c65 : t118 = 3
                                        · rw [if_pos c65] at H
                                          have c65b0 : (t118 == 3) = true := beq_iff_eq.mpr c65
                                          have c65b1 : (t118 != 3) = false := bne_eq_false_iff_eq.mpr c65
                                          clear c65
                                          by_cases c66 : t120 = 8
                                          · rw [if_pos c66] at H
                                            have c66b0 : (t120 == 8) = true := beq_iff_eq.mpr c66
                                            have c66b1 : (t120 != 8) = false := bne_eq_false_iff_eq.mpr c66
                                            clear c66
                                            replace H := Option.bind_eq_some_iff.mp H
                                            obtain ⟨t129, A670, H⟩ := H
                                            replace H : ((spec_SumOf.f kj10 t102).bind fun t130 => (if t129 = t130 then ((spec_HexOf.f kj10 t102).bind fun t131 => (if t121.toList = t131.toList then (if t123 = 0 then (if t122.toList = t102.toList then (some (t125 == 3)) else (none)) else (none)) else (none))) else (none))) = some r := H
                                            have A67 := Aside0.mk A670
                                            clear A670
                                            replace H := Option.bind_eq_some_iff.mp H
                                            obtain ⟨t130, A680, H⟩ := H
                                            replace H : (if t129 = t130 then ((spec_HexOf.f kj10 t102).bind fun t131 => (if t121.toList = t131.toList then (if t123 = 0 then (if t122.toList = t102.toList then (some (t125 == 3)) else (none)) else (none)) else (none))) else (none)) = some r := H
                                            have A68 := Aside0.mk A680
                                            clear A680
                                            by_cases c69 : t129 = t130
                                            · rw [if_pos c69] at H
                                              have c69b0 : (t129 == t130) = true := beq_iff_eq.mpr c69
                                              have c69b1 : (t129 != t130) = false := bne_eq_false_iff_eq.mpr c69
                                              clear c69
                                              replace H := Option.bind_eq_some_iff.mp H
                                              obtain ⟨t131, A700, H⟩ := H
                                              replace H : (if t121.toList = t131.toList then (if t123 = 0 then (if t122.toList = t102.toList then (some (t125 == 3)) else (none)) else (none)) else (none)) = some r := H
                                              have A70 := Aside0.mk A700
                                              clear A700
                                              by_cases c71 : t121.toList = t131.toList
                                              · rw [if_pos c71] at H
                                                have c71b0 : (t121.toList == t131.toList) = true := beq_iff_eq.mpr c71
                                                have c71b1 : (t121.toList != t131.toList) = false := bne_eq_false_iff_eq.mpr c71
                                                clear c71
                                                by_cases c72 : t123 = 0
                                                · rw [if_pos c72] at H
                                                  have c72b0 : (t123 == 0) = true := beq_iff_eq.mpr c72
                                                  have c72b1 : (t123 != 0) = false := bne_eq_false_iff_eq.mpr c72
                                                  clear c72
                                                  by_cases c73 : t122.toList = t102.toList
                                                  · rw [if_pos c73] at H
                                                    have c73b0 : (t122.toList == t102.toList) = true := beq_iff_eq.mpr c73
                                                    have c73b1 : (t122.toList != t102.toList) = false := bne_eq_false_iff_eq.mpr c73
                                                    clear c73
                                                    obtain rfl := Option.some.inj H
                                                    try go_wp2_with (first | ((with_reducible refine gate_callee (f := 21) rfl ?_); refine goesL_ (some 79) rfl rfl Try.func21 (by kernel_rfl) rfl #[.slice A1 l1.length c1, .int .i64 1, .int .i64 (t102.size : Int)] rfl (by (try simp only [List.map_toArray, List.map_cons, List.map_nil]); first | done | rfl | (simp only [List.length_drop, List.length_take]; rfl)) ?_; (with_reducible refine (laws_at.calls _ _ l1 1 (t102.size : Int) t109 _ ?side1 ?side2 A21.out).mono ?_); (case side1 => repeat (first | exact (Kd.C_below HR1.out HB.out) | (with_reducible refine Kd.C_alloc ?_ _) | (with_reducible refine Kd.C_drewN ?_ _) | (with_reducible refine Kd.C_drew ?_))); (case side2 => exact HC1.out); rintro e w' ⟨rfl, ⟨nd, rfl⟩⟩; refine ⟨_, rfl, ?_⟩))
                                                    (try (rw [drewN_self wc]; generalize hq_ : World.drewN wc _ = wc; have n0_ : Aside0 (Below w.heap.size w wc) := ⟨by rw [← hq_]; exact (by repeat (first | (with_reducible first | exact HB.out | apply below_alloc | apply pw_below_drewN | apply below_drew1) | exact HB.out))⟩; clear HB hq_; have HB := n0_; clear n0_))
                                                    have n0_ := Aside0.mk (below_drew1 HB.out)
                                                    clear HB
                                                    have HB := n0_
                                                    clear n0_
                                                    have p26 : 0 ≤ ((ji22) : Int) := of_decide_eq_true (by first | (with_reducible assumption) | assumption)
                                                    have q26 : (ji22) < (t103.size : Int) := of_decide_eq_true (by first | (with_reducible assumption) | assumption)
                                                    have hx26 := bt_at t103 (ji22)
                                                    replace p26 := eq_true p26
                                                    replace q26 := eq_true q26
                                                    refine start_ (n := 25) (S := fun w' => True) (ds := []) #[false, false, false, false, false, false, false, false, false, false, false, false, false, false, false, false, false, false, false, false, false, false, false, false, false] (by kernel_rfl) rfl rfl trivial (fun hHeld => ?_); refine with_tabW laws_FnFrames.tab10 laws_FnFrames.bits10 (fun HT_ HW_ => ?_)
                                                    generalize wc.drew = w74 at HB hHeld ⊢
                                                    refine pure_ (i := 0) (N := some 82) (v := ?_) (a' := ?_) #[true, false, false, false, false, false, false, false, false, false, false, false, false, false, false, false, false, false, false, false, false, false, false, false, false] rfl rfl (any_of HT_.out (by kernel_rfl)) (fun _ _ _ h => h) (Or.inl ⟨by rfl, ?_⟩) ?_ ?_
                                                    rotate_left
                                                    · intro w'
                                                      go_simp
                                                      with_reducible rfl
                                                    rotate_left
                                                    · simp only [Act.put, List.setIfInBounds_toArray, List.set_cons_zero, List.set_cons_succ, i64_w, i32_w]
                                                      rfl
                                                    refine pure_ (i := 1) (N := some 83) (v := ?_) (a' := ?_) #[true, true, false, false, false, false, false, false, false, false, false, false, false, false, false, false, false, false, false, false, false, false, false, false, false] rfl rfl (any_of HT_.out (by kernel_rfl)) (fun _ _ _ h => h) (Or.inl ⟨by rfl, ?_⟩) ?_ ?_
                                                    rotate_left
                                                    · intro w'
                                                      go_simp
                                                      with_reducible rfl
                                                    rotate_left
                                                    · simp only [Act.put, List.setIfInBounds_toArray, List.set_cons_zero, List.set_cons_succ, i64_w, i32_w]
                                                      rfl
                                                    refine pure_ (i := 2) (N := some 84) (v := ?_) (a' := ?_) #[true, true, true, false, false, false, false, false, false, false, false, false, false, false, false, false, false, false, false, false, false, false, false, false, false] rfl rfl (any_of HT_.out (by kernel_rfl)) (fun _ _ _ h => h) (Or.inl ⟨by rfl, ?_⟩) ?_ ?_
                                                    rotate_left
                                                    · intro w'
                                                      go_simp
                                                      with_reducible rfl
                                                    rotate_left
                                                    · simp only [Act.put, List.setIfInBounds_toArray, List.set_cons_zero, List.set_cons_succ, i64_w, i32_w]
                                                      rfl
                                                    refine pure_ (i := 3) (N := some 85) (v := ?_) (a' := ?_) #[true, true, true, true, false, false, false, false, false, false, false, false, false, false, false, false, false, false, false, false, false, false, false, false, false] rfl rfl (any_of HT_.out (by kernel_rfl)) (fun _ _ _ h => h) (Or.inl ⟨by rfl, ?_⟩) ?_ ?_
                                                    rotate_left
                                                    · intro w'
                                                      go_simp
                                                      with_reducible rfl
                                                    rotate_left
                                                    · simp only [Act.put, List.setIfInBounds_toArray, List.set_cons_zero, List.set_cons_succ, i64_w, i32_w]
                                                      rfl
                                                    refine pure_ (i := 4) (N := some 86) (v := ?_) (a' := ?_) #[true, true, true, true, true, false, false, false, false, false, false, false, false, false, false, false, false, false, false, false, false, false, false, false, false] rfl rfl (any_of HT_.out (by kernel_rfl)) (fun _ _ _ h => h) (Or.inl ⟨by rfl, ?_⟩) ?_ ?_
                                                    rotate_left
                                                    · intro w'
                                                      go_simp
                                                      with_reducible rfl
                                                    rotate_left
                                                    · simp only [Act.put, List.setIfInBounds_toArray, List.set_cons_zero, List.set_cons_succ, i64_w, i32_w]
                                                      rfl
                                                    refine pure_ (i := 6) (N := some 88) (v := ?_) (a' := ?_) #[true, true, true, true, true, false, true, false, false, false, false, false, false, false, false, false, false, false, false, false, false, false, false, false, false] rfl rfl (any_of HT_.out (by kernel_rfl)) (fun _ _ _ h => h) (Or.inl ⟨by rfl, ?_⟩) ?_ ?_
                                                    rotate_left
                                                    · intro w'
                                                      go_simp
                                                      with_reducible rfl
                                                    rotate_left
                                                    · simp only [Act.put, List.setIfInBounds_toArray, List.set_cons_zero, List.set_cons_succ, i64_w, i32_w]
                                                      rfl
                                                    refine pure_ (i := 14) (N := some 96) (v := ?_) (a' := ?_) #[true, true, true, true, true, false, true, false, false, false, false, false, false, false, true, false, false, false, false, false, false, false, false, false, false] rfl rfl (any_of HT_.out (by kernel_rfl)) (fun _ _ _ h => h) (Or.inl ⟨by rfl, ?_⟩) ?_ ?_
                                                    rotate_left
                                                    · intro w'
                                                      go_simp
                                                      with_reducible rfl
                                                    rotate_left
                                                    · simp only [Act.put, List.setIfInBounds_toArray, List.set_cons_zero, List.set_cons_succ, i64_w, i32_w]
                                                      rfl
                                                    refine pure_ (i := 15) (N := some 97) (v := ?_) (a' := ?_) #[true, true, true, true, true, false, true, false, false, false, false, false, false, false, true, true, false, false, false, false, false, false, false, false, false] rfl rfl (any_of HT_.out (by kernel_rfl)) (fun _ _ _ h => h) (Or.inl ⟨by rfl, ?_⟩) ?_ ?_
                                                    rotate_left
                                                    · intro w'
                                                      go_simp
                                                      with_reducible rfl
                                                    rotate_left
                                                    · simp only [Act.put, List.setIfInBounds_toArray, List.set_cons_zero, List.set_cons_succ, i64_w, i32_w]
                                                      rfl
                                                    refine pure_ (i := 16) (N := some 98) (v := ?_) (a' := ?_) #[true, true, true, true, true, false, true, false, false, false, false, false, false, false, true, true, true, false, false, false, false, false, false, false, false] rfl rfl (any_of HT_.out (by kernel_rfl)) (fun _ _ _ h => h) (Or.inl ⟨by rfl, ?_⟩) ?_ ?_
                                                    rotate_left
                                                    · intro w'
                                                      go_simp
                                                      with_reducible rfl
                                                    rotate_left
                                                    · simp only [Act.put, List.setIfInBounds_toArray, List.set_cons_zero, List.set_cons_succ, i64_w, i32_w]
                                                      rfl
                                                    refine pure_ (i := 17) (N := some 99) (v := ?_) (a' := ?_) #[true, true, true, true, true, false, true, false, false, false, false, false, false, false, true, true, true, true, false, false, false, false, false, false, false] rfl rfl (any_of HT_.out (by kernel_rfl)) (fun _ _ _ h => h) (Or.inl ⟨by rfl, ?_⟩) ?_ ?_
                                                    rotate_left
                                                    · intro w'
                                                      go_simp
                                                      with_reducible rfl
                                                    rotate_left
                                                    · simp only [Act.put, List.setIfInBounds_toArray, List.set_cons_zero, List.set_cons_succ, i64_w, i32_w]
                                                      rfl
                                                    refine take_ (i := 5) (N := some 87) (v := ?_) (a' := ?_) #[true, true, true, true, true, true, true, false, false, false, false, false, false, false, true, true, true, true, false, false, false, false, false, false, false] rfl rfl (take_ofW HT_.out HW_.out (by kernel_rfl)) (fun _ _ _ h => h) (Or.inl ⟨by rfl, ?_⟩) hHeld ?_ ?_
                                                    rotate_left
                                                    · intro w' _
                                                      go_simp
                                                      with_reducible rfl
                                                    rotate_left
                                                    · simp only [Act.put, List.setIfInBounds_toArray, List.set_cons_zero, List.set_cons_succ, i64_w, i32_w]
                                                      rfl
                                                    refine one_ (i := 7) (N := some 89) #[true, true, true, true, true, true, true, true, false, false, false, false, false, false, true, true, true, true, false, false, false, false, false, false, false] rfl rfl (one_of HT_.out (by kernel_rfl)) (by decide) (fun K hK => ?_)
                                                    refine goes_ Try.func21 (by kernel_rfl) rfl #[.slice A1 l1.length c1, .int .i64 2, .int .i64 255] (by rfl) rfl rfl (by (try simp only [List.map_toArray, List.map_cons, List.map_nil]); first | done | rfl | (simp only [List.length_drop, List.length_take]; rfl)) ?_
                                                    with_reducible refine (laws_at.calls _ _ l1 2 255 t110 _ ?side1 ?side2 A27.out).mono ?_
                                                    (case side1 => repeat (first | exact (Kd.C_below HR1.out HB.out) | (with_reducible refine Kd.C_alloc ?_ _) | (with_reducible refine Kd.C_drewN ?_ _) | (with_reducible refine Kd.C_drew ?_)))
                                                    (case side2 => exact HC1.out)
                                                    rintro e w' ⟨rfl, ⟨nd, rfl⟩⟩
                                                    refine ⟨_, rfl, ?_⟩
                                                    refine hK.out _ _ trivial (fun hHeld => ?_)
                                                    clear hK K
                                                    refine norm_ (a' := ?_) ?_ ?_
                                                    rotate_left
                                                    · show Act.put _ (some 89) _ = _
                                                      simp only [Act.put, List.setIfInBounds_toArray, List.set_cons_zero, List.set_cons_succ, i64_w, i32_w]
                                                      rfl
                                                    refine pure_ (i := 8) (N := some 90) (v := ?_) (a' := ?_) #[true, true, true, true, true, true, true, true, true, false, false, false, false, false, true, true, true, true, false, false, false, false, false, false, false] rfl rfl (any_of HT_.out (by kernel_rfl)) (fun _ _ _ h => h) (Or.inl ⟨by rfl, ?_⟩) ?_ ?_
                                                    rotate_left
                                                    · intro w'
                                                      go_simp
                                                      with_reducible rfl
                                                    rotate_left
                                                    · simp only [Act.put, List.setIfInBounds_toArray, List.set_cons_zero, List.set_cons_succ, i64_w, i32_w]
                                                      rfl
                                                    refine pure_ (i := 9) (N := some 91) (v := ?_) (a' := ?_) #[true, true, true, true, true, true, true, true, true, true, false, false, false, false, true, true, true, true, false, false, false, false, false, false, false] rfl rfl (any_of HT_.out (by kernel_rfl)) (fun _ _ _ h => h) (Or.inl ⟨by rfl, ?_⟩) ?_ ?_
                                                    rotate_left
                                                    · intro w'
                                                      go_simp
                                                      with_reducible rfl
                                                    rotate_left
                                                    · simp only [Act.put, List.setIfInBounds_toArray, List.set_cons_zero, List.set_cons_succ, i64_w, i32_w]
                                                      rfl
                                                    refine pure_ (i := 10) (N := some 92) (v := ?_) (a' := ?_) #[true, true, true, true, true, true, true, true, true, true, true, false, false, false, true, true, true, true, false, false, false, false, false, false, false] rfl rfl (any_of HT_.out (by kernel_rfl)) (fun _ _ _ h => h) (Or.inl ⟨by rfl, ?_⟩) ?_ ?_
                                                    rotate_left
                                                    · intro w'
                                                      go_simp
                                                      with_reducible rfl
                                                    rotate_left
                                                    · simp only [Act.put, List.setIfInBounds_toArray, List.set_cons_zero, List.set_cons_succ, i64_w, i32_w]
                                                      rfl
                                                    refine one_ (i := 11) (N := some 93) #[true, true, true, true, true, true, true, true, true, true, true, true, false, false, true, true, true, true, false, false, false, false, false, false, false] rfl rfl (one_of HT_.out (by kernel_rfl)) (by decide) (fun K hK => ?_)
                                                    refine Kd.R_lit_step (Kd.int .u8) _ 5 ?hg (N := 93) ?hd (xs := ([Go.bits .xor .u8 (bt t103 (ji22)) ((wrap64 (1 + t110)) % 256)] : List Int)) (inner := [.int .u8 (Go.bits .xor .u8 (bt t103 (ji22)) ((wrap64 (1 + t110)) % 256))]) (ok := fun _ => True) (okp := fun _ => True) ?hr ?hp (fun _ hk => hk) trivial (Below.refl _ _) (Nat.le_refl _) (by simp) ?_; (case hd => rfl); (case hg => rfl); (case hr => first | (go_simp; done) | (go_simp; rfl)); (case hp => exact (Reps.one (show Kd.M (Kd.int .u8) _ _ _ (Go.bits .xor .u8 (bt t103 (ji22)) ((wrap64 (1 + t110)) % 256)) [.int .u8 (Go.bits .xor .u8 (bt t103 (ji22)) ((wrap64 (1 + t110)) % 256))] from rfl) (Reps.none _ _)))
                                                    intro v112 w75 ho76 hb hg_ hnew_
                                                    clear hg_ hnew_
                                                    (first | rw [← Ny111.out] at ho76 | (simp only [Int.reduceToNat] at ho76; rw [← Ny111.out] at ho76))
                                                    have n0_ := Aside0.mk (Kd.R_lower ho76 (below_size (by repeat (first | (with_reducible first | exact HB.out | apply below_alloc | apply pw_below_drewN | apply below_drew1) | exact HB.out))))
                                                    have n1_ := Aside0.mk (below_step (by repeat (first | (with_reducible first | exact HB.out | apply below_alloc | apply pw_below_drewN | apply below_drew1) | exact HB.out)) hb)
                                                    clear HB
                                                    have HO113 := n0_
                                                    have HB := n1_
                                                    clear n0_ n1_
                                                    clear hb ho76
                                                    refine hK.out _ _ trivial (fun hHeld => ?_)
                                                    clear hK K
                                                    refine norm_ (a' := ?_) ?_ ?_
                                                    rotate_left
                                                    · show Act.put _ (some 93) _ = _
                                                      simp only [Act.put, List.setIfInBounds_toArray, List.set_cons_zero, List.set_cons_succ, i64_w, i32_w]
                                                      rfl
                                                    refine one_ (i := 12) (N := some 94) #[true, true, true, true, true, true, true, true, true, true, true, true, true, false, true, true, true, true, false, false, false, false, false, false, false] rfl rfl (one_of HT_.out (by kernel_rfl)) (by decide) (fun K hK => ?_)
                                                    have hcv77 := own_string (P := Try.prog) Try.underlying30 Try.underlying5 Try.underlying9 (Kd.own_of_R HO113.out)
                                                    refine value_ (w1 := ?_) (v := ?_) (by rfl) rfl ?_ ?_
                                                    rotate_left 2
                                                    · go_simp
                                                      constructor
                                                      · rfl
                                                      · rfl
                                                    clear hcv77
                                                    refine hK.out _ _ trivial (fun hHeld => ?_)
                                                    clear hK K
                                                    refine norm_ (a' := ?_) ?_ ?_
                                                    rotate_left
                                                    · show Act.put _ (some 94) _ = _
                                                      simp only [Act.put, List.setIfInBounds_toArray, List.set_cons_zero, List.set_cons_succ, i64_w, i32_w]
                                                      rfl
                                                    refine pure_ (i := 13) (N := some 95) (v := ?_) (a' := ?_) #[true, true, true, true, true, true, true, true, true, true, true, true, true, true, true, true, true, true, false, false, false, false, false, false, false] rfl rfl (any_of HT_.out (by kernel_rfl)) (fun _ _ _ h => h) (Or.inl ⟨by rfl, ?_⟩) ?_ ?_
                                                    rotate_left
                                                    · intro w'
                                                      go_simp
                                                      with_reducible rfl
                                                    rotate_left
                                                    · simp only [Act.put, List.setIfInBounds_toArray, List.set_cons_zero, List.set_cons_succ, i64_w, i32_w]
                                                      rfl
                                                    refine pure_ (i := 18) (N := some 100) (v := ?_) (a' := ?_) #[true, true, true, true, true, true, true, true, true, true, true, true, true, true, true, true, true, true, true, false, false, false, false, false, false] rfl rfl (any_of HT_.out (by kernel_rfl)) (fun _ _ _ h => h) (Or.inl ⟨by rfl, ?_⟩) ?_ ?_
                                                    rotate_left
                                                    · intro w'
                                                      go_simp
                                                      with_reducible rfl
                                                    rotate_left
                                                    · simp only [Act.put, List.setIfInBounds_toArray, List.set_cons_zero, List.set_cons_succ, i64_w, i32_w]
                                                      rfl
                                                    refine one_ (i := 19) (N := some 101) #[true, true, true, true, true, true, true, true, true, true, true, true, true, true, true, true, true, true, true, true, false, false, false, false, false] rfl rfl (one_of HT_.out (by kernel_rfl)) (by decide) (fun K hK => ?_)
                                                    refine goes_ Try.func25 (by kernel_rfl) rfl #[.string (((t103.extract 0 ((ji22) : Int).toNat) ++ (strOfNums y111)) ++ (t103.extract ((ji29) : Int).toNat t103.size))] (by rfl) rfl rfl (by (try simp only [List.map_toArray, List.map_cons, List.map_nil]); first | done | (simp only [hji22, hji29]; rfl) | rfl | (simp only [List.length_drop, List.length_take]; rfl)) ?_
                                                    with_reducible refine (impl_ReadFrame.calls kj10 (((t103.extract 0 ((ji22) : Int).toNat) ++ (strOfNums y111)) ++ (t103.extract ((ji29) : Int).toNat t103.size)) t114 t115 _ A33.out).mono ?_
                                                    rintro e w78 ⟨rfl, hb⟩
                                                    refine ⟨_, rfl, ?_⟩
                                                    have n0_ := Aside0.mk (Kd.R_below (by (with_reducible repeat (first | apply Kd.R_alloc | apply Kd.R_drewN | apply Kd.R_drew)); exact HO113.out) hb)
                                                    have n1_ := Aside0.mk (below_step (by repeat (first | (with_reducible first | exact HB.out | apply below_alloc | apply pw_below_drewN | apply below_drew1) | exact HB.out)) hb)
                                                    clear HO113
                                                    clear HB
                                                    have HO113 := n0_
                                                    have HB := n1_
                                                    clear n0_ n1_
                                                    (try clear hb)
                                                    (try clear hb2)
                                                    (try clear hk)
                                                    (try clear hi)
                                                    refine hK.out _ _ trivial (fun hHeld => ?_)
                                                    clear hK K
                                                    refine norm_ (a' := ?_) ?_ ?_
                                                    rotate_left
                                                    · show Act.put _ (some 101) _ = _
                                                      simp only [Act.put, List.setIfInBounds_toArray, List.set_cons_zero, List.set_cons_succ, i64_w, i32_w]
                                                      rfl
                                                    refine pure_ (i := 20) (N := some 81) (v := ?_) (a' := ?_) #[true, true, true, true, true, true, true, true, true, true, true, true, true, true, true, true, true, true, true, true, true, false, false, false, false] rfl rfl (any_of HT_.out (by kernel_rfl)) (fun _ _ _ h => h) (Or.inl ⟨by rfl, ?_⟩) ?_ ?_
                                                    rotate_left
                                                    · intro w'
                                                      go_simp
                                                      with_reducible rfl
                                                    rotate_left
                                                    · simp only [Act.put, List.setIfInBounds_toArray, List.set_cons_zero, List.set_cons_succ, i64_w, i32_w]
                                                      rfl
                                                    refine pure_ (i := 21) (N := some 102) (v := ?_) (a' := ?_) #[true, true, true, true, true, true, true, true, true, true, true, true, true, true, true, true, true, true, true, true, true, true, false, false, false] rfl rfl (any_of HT_.out (by kernel_rfl)) (fun _ _ _ h => h) (Or.inl ⟨by rfl, ?_⟩) ?_ ?_
                                                    rotate_left
                                                    · intro w'
                                                      go_simp
                                                      with_reducible rfl
                                                    rotate_left
                                                    · simp only [Act.put, List.setIfInBounds_toArray, List.set_cons_zero, List.set_cons_succ, i64_w, i32_w]
                                                      rfl
                                                    refine pure_ (i := 22) (N := some 103) (v := ?_) (a' := ?_) #[true, true, true, true, true, true, true, true, true, true, true, true, true, true, true, true, true, true, true, true, true, true, true, false, false] rfl rfl (any_of HT_.out (by kernel_rfl)) (fun _ _ _ h => h) (Or.inl ⟨by rfl, ?_⟩) ?_ ?_
                                                    rotate_left
                                                    · intro w'
                                                      go_simp
                                                      with_reducible rfl
                                                    rotate_left
                                                    · simp only [Act.put, List.setIfInBounds_toArray, List.set_cons_zero, List.set_cons_succ, i64_w, i32_w]
                                                      rfl
                                                    refine pure_ (i := 23) (N := some 13) (v := ?_) (a' := ?_) #[true, true, true, true, true, true, true, true, true, true, true, true, true, true, true, true, true, true, true, true, true, true, true, true, false] rfl rfl (any_of HT_.out (by kernel_rfl)) (fun _ _ _ h => h) (Or.inl ⟨by rfl, ?_⟩) ?_ ?_
                                                    rotate_left
                                                    · intro w'
                                                      go_simp
                                                      with_reducible rfl
                                                    rotate_left
                                                    · simp only [Act.put, List.setIfInBounds_toArray, List.set_cons_zero, List.set_cons_succ, i64_w, i32_w]
                                                      rfl
                                                    refine pure_ (i := 24) (N := some 14) (v := ?_) (a' := ?_) #[true, true, true, true, true, true, true, true, true, true, true, true, true, true, true, true, true, true, true, true, true, true, true, true, true] rfl rfl (any_of HT_.out (by kernel_rfl)) (fun _ _ _ h => h) (Or.inl ⟨by rfl, ?_⟩) ?_ ?_
                                                    rotate_left
                                                    · intro w'
                                                      go_simp
                                                      with_reducible rfl
                                                    rotate_left
                                                    · simp only [Act.put, List.setIfInBounds_toArray, List.set_cons_zero, List.set_cons_succ, i64_w, i32_w]
                                                      rfl
                                                    refine done_ (done_of HT_.out (by kernel_rfl)) ?_
                                                    try go_wp2_with (first | ((with_reducible refine gate_callee (f := 21) rfl ?_); refine goesL_ (some 109) rfl rfl Try.func21 (by kernel_rfl) rfl #[.slice A1 l1.length c1, .int .i64 3, .int .i64 (t103.size : Int)] rfl (by (try simp only [List.map_toArray, List.map_cons, List.map_nil]); first | done | rfl | (simp only [List.length_drop, List.length_take]; rfl)) ?_; (with_reducible refine (laws_at.calls _ _ l1 3 (t103.size : Int) t116 _ ?side1 ?side2 A34.out).mono ?_); (case side1 => repeat (first | exact (Kd.C_below HR1.out HB.out) | (with_reducible refine Kd.C_alloc ?_ _) | (with_reducible refine Kd.C_drewN ?_ _) | (with_reducible refine Kd.C_drew ?_))); (case side2 => exact HC1.out); rintro e w' ⟨rfl, ⟨nd, rfl⟩⟩; refine ⟨_, rfl, ?_⟩) | ((with_reducible refine gate_callee (f := 25) rfl ?_); refine goesL_ (some 111) rfl rfl Try.func25 (by kernel_rfl) rfl #[.string (t103.extract 0 (t116 : Int).toNat)] rfl (by (try simp only [List.map_toArray, List.map_cons, List.map_nil]); first | done | rfl | (simp only [List.length_drop, List.length_take]; rfl)) ?_; (with_reducible refine (impl_ReadFrame.calls kj10 (t103.extract 0 (t116 : Int).toNat) t117 t118 _ A37.out).mono ?_); rintro e w79 ⟨rfl, hb⟩; refine ⟨_, rfl, ?_⟩; have n0_ := Aside0.mk (Kd.R_below (by (with_reducible repeat (first | apply Kd.R_alloc | apply Kd.R_drewN | apply Kd.R_drew)); exact HO113.out) hb); have n1_ := Aside0.mk (below_step (by repeat (first | (with_reducible first | exact HB.out | apply below_alloc | apply pw_below_drewN | apply below_drew1) | exact HB.out)) hb); clear HO113; clear HB; have HO113 := n0_; have HB := n1_; clear n0_ n1_; (try clear hb); (try clear hb2); (try clear hk); (try clear hi)) | ((with_reducible refine gate_callee (f := 25) rfl ?_); refine goesL_ (some 117) rfl rfl Try.func25 (by kernel_rfl) rfl #[.string (t103 ++ (⟨#[120]⟩ : ByteArray))] rfl (by (try simp only [List.map_toArray, List.map_cons, List.map_nil]); first | done | rfl | (simp only [List.length_drop, List.length_take]; rfl)) ?_; (with_reducible refine (impl_ReadFrame.calls kj10 (t103 ++ (⟨#[120]⟩ : ByteArray)) t119 t120 _ A39.out).mono ?_); rintro e w80 ⟨rfl, hb⟩; refine ⟨_, rfl, ?_⟩; have n0_ := Aside0.mk (Kd.R_below (by (with_reducible repeat (first | apply Kd.R_alloc | apply Kd.R_drewN | apply Kd.R_drew)); exact HO113.out) hb); have n1_ := Aside0.mk (below_step (by repeat (first | (with_reducible first | exact HB.out | apply below_alloc | apply pw_below_drewN | apply below_drew1) | exact HB.out)) hb); clear HO113; clear HB; have HO113 := n0_; have HB := n1_; clear n0_ n1_; (try clear hb); (try clear hb2); (try clear hk); (try clear hi)) | ((with_reducible refine gate_callee (f := 30) rfl ?_); refine goesL_ (some 121) rfl rfl Try.func30 (by kernel_rfl) rfl #[.string t102] rfl (by (try simp only [List.map_toArray, List.map_cons, List.map_nil]); first | done | rfl | (simp only [List.length_drop, List.length_take]; rfl)) ?_; (with_reducible refine (impl_HexOf.calls kj10 t102 t121 _ A40.out).mono ?_); rintro e w81 ⟨rfl, hb⟩; refine ⟨_, rfl, ?_⟩; have n0_ := Aside0.mk (Kd.R_below (by (with_reducible repeat (first | apply Kd.R_alloc | apply Kd.R_drewN | apply Kd.R_drew)); exact HO113.out) hb); have n1_ := Aside0.mk (below_step (by repeat (first | (with_reducible first | exact HB.out | apply below_alloc | apply pw_below_drewN | apply below_drew1) | exact HB.out)) hb); clear HO113; clear HB; have HO113 := n0_; have HB := n1_; clear n0_ n1_; (try clear hb); (try clear hb2); (try clear hk); (try clear hi)) | ((with_reducible refine gate_callee (f := 31) rfl ?_); refine goesL_ (some 124) rfl rfl Try.func31 (by kernel_rfl) rfl #[.string t121] rfl (by (try simp only [List.map_toArray, List.map_cons, List.map_nil]); first | done | rfl | (simp only [List.length_drop, List.length_take]; rfl)) ?_; (with_reducible refine (impl_BytesOf.calls kj10 t121 t122 t123 _ A41.out).mono ?_); rintro e w82 ⟨rfl, hb⟩; refine ⟨_, rfl, ?_⟩; have n0_ := Aside0.mk (Kd.R_below (by (with_reducible repeat (first | apply Kd.R_alloc | apply Kd.R_drewN | apply Kd.R_drew)); exact HO113.out) hb); have n1_ := Aside0.mk (below_step (by repeat (first | (with_reducible first | exact HB.out | apply below_alloc | apply pw_below_drewN | apply below_drew1) | exact HB.out)) hb); clear HO113; clear HB; have HO113 := n0_; have HB := n1_; clear n0_ n1_; (try clear hb); (try clear hb2); (try clear hk); (try clear hi)) | ((with_reducible refine gate_callee (f := 31) rfl ?_); refine goesL_ (some 130) rfl rfl Try.func31 (by kernel_rfl) rfl #[.string (t121 ++ (⟨#[48]⟩ : ByteArray))] rfl (by (try simp only [List.map_toArray, List.map_cons, List.map_nil]); first | done | rfl | (simp only [List.length_drop, List.length_take]; rfl)) ?_; (with_reducible refine (impl_BytesOf.calls kj10 (t121 ++ (⟨#[48]⟩ : ByteArray)) t124 t125 _ A43.out).mono ?_); rintro e w83 ⟨rfl, hb⟩; refine ⟨_, rfl, ?_⟩; have n0_ := Aside0.mk (Kd.R_below (by (with_reducible repeat (first | apply Kd.R_alloc | apply Kd.R_drewN | apply Kd.R_drew)); exact HO113.out) hb); have n1_ := Aside0.mk (below_step (by repeat (first | (with_reducible first | exact HB.out | apply below_alloc | apply pw_below_drewN | apply below_drew1) | exact HB.out)) hb); clear HO113; clear HB; have HO113 := n0_; have HB := n1_; clear n0_ n1_; (try clear hb); (try clear hb2); (try clear hk); (try clear hi)) | (go_at_call 32; (with_reducible refine (impl_SumOf.calls kj10 t102 t129 _ A67.out).mono ?_); rintro e w' ⟨rfl, ⟨nd, rfl⟩⟩) | (go_at_call 33; (with_reducible refine (spec_SumOf.calls kj10 t102 t130 _ A68.out).mono ?_); rintro e w' ⟨rfl, ⟨nd, rfl⟩⟩) | (go_at_call 34; (with_reducible refine (spec_HexOf.calls kj10 t102 t131 _ A70.out).mono ?_); rintro e w84 ⟨rfl, hb⟩; have n0_ := Aside0.mk (Kd.R_below (by (with_reducible repeat (first | apply Kd.R_alloc | apply Kd.R_drewN | apply Kd.R_drew)); exact HO113.out) hb); have n1_ := Aside0.mk (below_step (by repeat (first | (with_reducible first | exact HB.out | apply below_alloc | apply pw_below_drewN | apply below_drew1) | exact HB.out)) hb); clear HO113; clear HB; have HO113 := n0_; have HB := n1_; clear n0_ n1_; (try clear hb); (try clear hb2); (try clear hk); (try clear hi)))
                                                    go_ret
                                                    exact ⟨by first | rfl | (simp [errW_none, errW_some] <;> rfl) | (simp only [← hji22, ← hji29]; first | rfl | (simp [errW_none, errW_some] <;> rfl)) | (simp [*, errW_none, errW_some] <;> rfl), by repeat (first | (with_reducible first | exact HB.out | apply below_alloc | apply pw_below_drewN | apply below_drew1) | exact HB.out)⟩
                                                  · rw [if_neg c73] at H
                                                    exact absurd H (by simp)
                                                · rw [if_neg c72] at H
                                                  exact absurd H (by simp)
                                              · rw [if_neg c71] at H
                                                exact absurd H (by simp)
                                            · rw [if_neg c69] at H
                                              exact absurd H (by simp)
                                          · rw [if_neg c66] at H
                                            exact absurd H (by simp)
                                        · rw [if_neg c65] at H
                                          exact absurd H (by simp)
                                    · rw [if_neg c44] at H
                                      exact absurd H (by simp)
                                  · rw [if_neg c42] at H
                                    exact absurd H (by simp)
                                · rw [if_neg c38] at H
                                  exact absurd H (by simp)
                              · rw [if_neg c36] at H
                                exact absurd H (by simp)
                            · rw [if_neg c35] at H
                              exact absurd H (by simp)
                          · rw [if_neg c32] at H
                            exact absurd H (by simp)
                        · rw [if_neg c31] at H
                          exact absurd H (by simp)
                      · rw [if_neg c30] at H
                        exact absurd H (by simp)
                    · rw [if_neg c28] at H
                      exact absurd H (by simp)
                  · rw [if_neg c25] at H
                    exact absurd H (by simp)
                · rw [if_neg c24] at H
                  exact absurd H (by simp)
              · rw [if_neg c23] at H
                exact absurd H (by simp)

/-- THE ONE PURE STATEMENT of laws_FnFrames: yours. -/
def laws_FnFrames.Pure : Prop := ∀ (l0 : List Int) (l1 : List Int), l0.length ≤ maxLen → l0.length * 1 ≤ 140737488351232 → (∀ x ∈ l0, (Lit.int .u8 x).wf = true) → l1.length ≤ maxLen → l1.length * 1 ≤ 140737488351232 → (∀ x ∈ l1, (Lit.int .u8 x).wf = true) → ∃ k, laws_FnFrames.f k l0 l1 = some true
theorem laws_FnFrames.walk (P : laws_FnFrames.Pure) (a0 : Option Addr) (len0 cap0 : Nat) (z0 : List Int) (a1 : Option Addr) (len1 cap1 : Nat) (z1 : List Int) (w : World) (w0 : (a0 = none ∧ len0 = 0 ∧ cap0 = 0 ∧ z0 = []) ∨ ∃ x, a0 = some x ∧ len0 ≤ cap0 ∧ cap0 ≤ maxLen ∧ z0.length = cap0 ∧ (∀ i, i < z0.length → w.cell? (x.add i) = some (.int .u8 (z0.getD i 0))) ∧ ∀ n ∈ z0, (Lit.int .u8 n).wf = true) (y0 : len0 * 1 ≤ 140737488351232) (w1 : (a1 = none ∧ len1 = 0 ∧ cap1 = 0 ∧ z1 = []) ∨ ∃ x, a1 = some x ∧ len1 ≤ cap1 ∧ cap1 ≤ maxLen ∧ z1.length = cap1 ∧ (∀ i, i < z1.length → w.cell? (x.add i) = some (.int .u8 (z1.getD i 0))) ∧ ∀ n ∈ z1, (Lit.int .u8 n).wf = true) (y1 : len1 * 1 ≤ 140737488351232) :
    Calls Try.prog 10 #[.slice a0 len0 cap0, .slice a1 len1 cap1] w fun e w' => e = .returned (.bool true) ∧ Below w.heap.size w w' := by
  obtain ⟨l0, rfl, hr0, hm0, hw0, hc0⟩ := ReadsInt.ofRowC w0
  obtain ⟨l1, rfl, hr1, hm1, hw1, hc1⟩ := ReadsInt.ofRowC w1
  obtain ⟨k, h⟩ := P l0 l1 hm0 y0 hw0 hm1 y1 hw1
  refine (laws_FnFrames.calls k _ _ l0 _ _ l1 true w (Kd.C_of_reads (d := (0 : Int)) (h1 := fun _ => rfl) hr0) hc0 (Kd.C_of_reads (d := (0 : Int)) (h1 := fun _ => rfl) hr1) hc1 h).mono ?_
  rintro e w' ⟨rfl, hd⟩
  exact ⟨rfl, hd⟩

end Go.Proofs.Ytnppmhijoaeibaa.Q
