/- Several of our texts, one behind the other, without what this claim does not need: PRepx8, DocS, DocJ, DocK, Wtr. -/
import Derived.Test.YthoeiiecmmagnaaZ624a9349
import Derived.Test.YthoeiiecmmagnaaProg
import Derived.Maps.OwnSet
import Derived.WalkKit
import Derived.Deep.QuietTactic
import Derived.BigQuiet
import Derived.Test.YthoeiiecmmagnaaZb002f17a
import Derived.LoopTactic
import Derived.Lib.Hide
namespace Go.Proofs.Ythoeiiecmmagnaa.Q
open Go.RowKit Go.Proofs.YthoeiiecmmagnaaW.PrintWords Go.Proofs.YthoeiiecmmagnaaW.PrintLast Go.Proofs.YthoeiiecmmagnaaW.PrintMore
open Go.Proofs.Ythoeiiecmmagnaa.H
attribute [local go_sem] max2_int min2_int max_two min_two max_three min_three max_four min_four
set_option linter.unusedVariables false
set_option linter.unusedSimpArgs false
def impl_sumOf.l0 : Nat → ByteArray → Int → Int → Int → Option (Int)
  | 0, _, _, _, _ => none
  | k + 1, x0, x3, x6, x7 => if x7 < x6 then (if 0 ≤ x7 then (if x7 < (x0.size : Int) then (impl_sumOf.l0 k x0 (Int.tmod (wrap64 ((wrap64 (31 * x3)) + (wrap64 (bt x0 x7)))) 65521) x6 (wrap64 (x7 + 1))) else (none)) else (none)) else (some x3)
def impl_sumOf.f (k : Nat) (a0 : ByteArray) : Option (Int) := impl_sumOf.l0 k a0 1 (a0.size : Int) 0
theorem impl_sumOf.mono_l : ∀ k, (∀ y0 y1 y2 y3, LeO (impl_sumOf.l0 k y0 y1 y2 y3) (impl_sumOf.l0 (k + 1) y0 y1 y2 y3))
  | 0 => fun _ _ _ _ r h => by simp [impl_sumOf.l0] at h
  | k + 1 => by
    have ih0 := impl_sumOf.mono_l k
    · intro y0 y1 y2 y3
      unfold impl_sumOf.l0
      repeat' first
      | (with_reducible exact ih0 _ _ _ _)
      | (with_reducible exact LeO.refl _)
      | (with_reducible exact LeO.none _)
      | (with_reducible refine LeO.ite ?_ ?_)
      | (with_reducible refine LeO.bind ?_ (fun _ => ?_))
      | exact ih0 _ _ _ _
      | exact LeO.none _
      | refine LeO.ite ?_ ?_
      | refine LeO.bind ?_ (fun _ => ?_)
theorem impl_sumOf.mono : ∀ a0 k, LeO (impl_sumOf.f k a0) (impl_sumOf.f (k + 1) a0) := by
  intro a0 k
  have ih0 := impl_sumOf.mono_l k
  unfold impl_sumOf.f
  repeat' first
      | (with_reducible exact ih0 _ _ _ _)
      | (with_reducible exact LeO.refl _)
      | (with_reducible exact LeO.none _)
      | (with_reducible refine LeO.ite ?_ ?_)
      | (with_reducible refine LeO.bind ?_ (fun _ => ?_))
      | exact ih0 _ _ _ _
      | exact LeO.none _
      | refine LeO.ite ?_ ?_
      | refine LeO.bind ?_ (fun _ => ?_)
set_option maxHeartbeats 8000000 in
set_option maxRecDepth 100000 in
theorem impl_sumOf.calls (k : Nat) (a0 : ByteArray) (r : Int) (w : World) (h : impl_sumOf.f k a0 = some r) :
    Calls Try.prog 60 #[.string a0] w fun e w' => e = .returned (.int .i64 r) ∧ Drawn0 w w' := by
  have H : (impl_sumOf.l0 k a0 1 (a0.size : Int) 0) = some r := h
  clear h
  have H' := Aside0.mk H
  clear H
  go_enter Try.func60, Try.ntmps60
  go_wp2
  go_loopg [3, 7] k (fun kq v3 v7 w' => ∃ (x3_1 : Int) (x7_1 : Int), v3 = .int .i64 x3_1 ∧ v7 = .int .i64 x7_1 ∧ Aside0 (impl_sumOf.l0 kq a0 x3_1 (a0.size : Int) x7_1 = some r) ∧ Aside0 (kq ≤ k) ∧ Drawn0 w w')
  case atStart => exact ⟨(1), (0), (by first | rfl | (simp; done) | (simp [*]; done)), (by first | rfl | (simp; done) | (simp [*]; done)), H', ⟨Nat.le_refl _⟩, by repeat (first | exact Drawn0.refl _ | apply Drawn0.step)⟩
  case round =>
    clear H'
    obtain ⟨x3_1, x7_1, rfl, rfl, HA, HK1, ⟨m1, rfl⟩⟩ := hrel
    cases gk with
    | zero => exact absurd HA.out (by simp [impl_sumOf.l0])
    | succ k1 =>
      have H := HA.out
      clear HA
      simp only [impl_sumOf.l0] at H
      by_cases c2 : x7_1 < (a0.size : Int)
      · rw [if_pos c2] at H
        have c2b0 : decide (x7_1 < (a0.size : Int)) = true := decide_eq_true c2
        clear c2
        by_cases c3 : 0 ≤ x7_1
        · rw [if_pos c3] at H
          have c3b0 : decide (0 ≤ x7_1) = true := decide_eq_true c3
          clear c3
          by_cases c4 : x7_1 < (a0.size : Int)
          · rw [if_pos c4] at H
            have c4b0 : decide (x7_1 < (a0.size : Int)) = true := decide_eq_true c4
            clear c4
            have H' := Aside0.mk H
            clear H
            have p5 : 0 ≤ (x7_1 : Int) := of_decide_eq_true (by first | (with_reducible assumption) | assumption)
            have q5 : x7_1 < (a0.size : Int) := of_decide_eq_true (by first | (with_reducible assumption) | assumption)
            have hx5 := bt_at a0 x7_1
            replace p5 := eq_true p5
            replace q5 := eq_true q5
            go_wp2
            go_roundg k1
            case measure => have := HK1.out; omega
            case rel => exact ⟨(Int.tmod (wrap64 ((wrap64 (31 * x3_1)) + (wrap64 (bt a0 x7_1)))) 65521), (wrap64 (x7_1 + 1)), (by first | rfl | (simp; done) | (simp [*]; done)), (by first | rfl | (simp; done) | (simp [*]; done)), H', ⟨by have := HK1.out; omega⟩, by repeat (first | exact Drawn0.refl _ | apply Drawn0.step)⟩
          · rw [if_neg c4] at H
            exact absurd H (by simp)
        · rw [if_neg c3] at H
          exact absurd H (by simp)
      · rw [if_neg c2] at H
        have c2b0 : decide (x7_1 < (a0.size : Int)) = false := decide_eq_false c2
        clear c2
        obtain rfl := Option.some.inj H
        go_wp2
        go_ret
        exact ⟨by first | rfl | (simp; done) | (simp [*]; done), by repeat (first | exact Drawn0.refl _ | apply Drawn0.step)⟩
def impl_sumText.f (k : Nat) (a0 : ByteArray) : Option (ByteArray) := (impl_sumOf.f k a0).bind fun t260 => (some (strOfNums (([(Int.tmod t260 256) % 256, (wrap64 (Int.tdiv t260 256)) % 256] : List Int))))
theorem impl_sumText.mono : ∀ a0 k, LeO (impl_sumText.f k a0) (impl_sumText.f (k + 1) a0) := by
  intro a0 k
  unfold impl_sumText.f
  repeat' first
      | (with_reducible exact impl_sumOf.mono _ _)
      | (with_reducible exact LeO.refl _)
      | (with_reducible exact LeO.none _)
      | (with_reducible refine LeO.ite ?_ ?_)
      | (with_reducible refine LeO.bind ?_ (fun _ => ?_))
      | exact impl_sumOf.mono _ _
      | exact LeO.none _
      | refine LeO.ite ?_ ?_
      | refine LeO.bind ?_ (fun _ => ?_)
set_option maxHeartbeats 8000000 in
set_option maxRecDepth 100000 in
theorem impl_sumText.calls (k : Nat) (a0 : ByteArray) (r : ByteArray) (w : World) (h : impl_sumText.f k a0 = some r) :
    Calls Try.prog 45 #[.string a0] w fun e w' => e = .returned (.string r) ∧ Below w.heap.size w w' := by
  have HB := Aside0.mk (Below.refl w.heap.size w)
  have H : ((impl_sumOf.f k a0).bind fun t260 => (some (strOfNums (([(Int.tmod t260 256) % 256, (wrap64 (Int.tdiv t260 256)) % 256] : List Int))))) = some r := h
  clear h
  replace H := Option.bind_eq_some_iff.mp H
  obtain ⟨t260, A20, H⟩ := H
  replace H : (some (strOfNums (([(Int.tmod t260 256) % 256, (wrap64 (Int.tdiv t260 256)) % 256] : List Int)))) = some r := H
  have A2 := Aside0.mk A20
  clear A20
  obtain ⟨y261, hy261⟩ : ∃ y_ : List Int, y_ = (([(Int.tmod t260 256) % 256, (wrap64 (Int.tdiv t260 256)) % 256] : List Int)) := ⟨_, rfl⟩
  replace H : (some (strOfNums y261)) = some r := by first | (rw [hy261]; with_reducible exact H) | (have H2_ := (Option.bind_some _ _).symm.trans H; rw [hy261]; with_reducible exact H2_) | (have H2_ := (Option.bind_some _ _).symm.trans H; with_reducible exact H2_) | with_reducible exact H | (rw [hy261]; exact H) | exact H
  have Ny261 := Aside0.mk hy261
  clear hy261
  obtain rfl := Option.some.inj H
  go_enter Try.func45, Try.ntmps45
  go_wp2_with (first | ((with_reducible refine gate_callee (f := 60) rfl ?_); refine goesL_ (some 5) rfl rfl Try.func60 (by kernel_rfl) rfl #[.string a0] rfl (by (try simp only [List.map_toArray, List.map_cons, List.map_nil]); first | done | rfl | (simp only [List.length_drop, List.length_take]; rfl)) ?_; (with_reducible refine (impl_sumOf.calls k a0 t260 _ A2.out).mono ?_); rintro e w' ⟨rfl, ⟨nd, rfl⟩⟩; refine ⟨_, rfl, ?_⟩) | ((with_reducible refine gate_dst (N := 12) rfl ?_); refine Kd.R_lit (Kd.int .u8) _ 5 ?hg (N := 12) ?hd (xs := ([(Int.tmod t260 256) % 256, (wrap64 (Int.tdiv t260 256)) % 256] : List Int)) (inner := [.int .u8 ((Int.tmod t260 256) % 256), .int .u8 ((wrap64 (Int.tdiv t260 256)) % 256)]) (ok := fun _ => True) (okp := fun _ => True) ?hr ?hp (fun _ hk => hk) trivial (Below.refl _ _) (Nat.le_refl _) (by simp) ?_; (case hd => rfl); (case hg => rfl); (case hr => first | (go_simp; done) | (go_simp; rfl)); (case hp => exact (Reps.one (show Kd.M (Kd.int .u8) _ _ _ ((Int.tmod t260 256) % 256) [.int .u8 ((Int.tmod t260 256) % 256)] from rfl) (Reps.one (show Kd.M (Kd.int .u8) _ _ _ ((wrap64 (Int.tdiv t260 256)) % 256) [.int .u8 ((wrap64 (Int.tdiv t260 256)) % 256)] from rfl) (Reps.none _ _)))); intro v262 w3 ho4 hb hg_ hnew_; clear hg_ hnew_; (first | rw [← Ny261.out] at ho4 | (simp only [Int.reduceToNat] at ho4; rw [← Ny261.out] at ho4)); have n0_ := Aside0.mk (Kd.R_lower ho4 (below_size (by repeat (first | (with_reducible first | exact HB.out | apply below_alloc | apply pw_below_drewN | apply below_drew1) | exact HB.out)))); have n1_ := Aside0.mk (below_step (by repeat (first | (with_reducible first | exact HB.out | apply below_alloc | apply pw_below_drewN | apply below_drew1) | exact HB.out)) hb); clear HB; have HO263 := n0_; have HB := n1_; clear n0_ n1_; clear hb ho4; have hcv5 := own_string (P := Try.prog) Try.underlying49 Try.underlying5 Try.underlying9 (Kd.own_of_R HO263.out)))
  go_ret
  exact ⟨by first | rfl | (simp [errW_none, errW_some] <;> rfl) | (simp [*, errW_none, errW_some] <;> rfl), by repeat (first | (with_reducible first | exact HB.out | apply below_alloc | apply pw_below_drewN | apply below_drew1) | exact HB.out)⟩
def impl_frame.f (k : Nat) (a0 : ByteArray) : Option (ByteArray) := (impl_text.f a0).bind fun t264 => (if 2 + t264.size ≤ 9223372036854775807 then ((impl_sumText.f k ((⟨#[67, 79]⟩ : ByteArray) ++ t264)).bind fun t265 => (if ((⟨#[67, 79]⟩ : ByteArray) ++ t264).size + t265.size ≤ 9223372036854775807 then (some (((⟨#[67, 79]⟩ : ByteArray) ++ t264) ++ t265)) else (none))) else (none))
theorem impl_frame.mono : ∀ a0 k, LeO (impl_frame.f k a0) (impl_frame.f (k + 1) a0) := by
  intro a0 k
  unfold impl_frame.f
  repeat' first
      | (with_reducible exact impl_sumText.mono _ _)
      | (with_reducible exact LeO.refl _)
      | (with_reducible exact LeO.none _)
      | (with_reducible refine LeO.ite ?_ ?_)
      | (with_reducible refine LeO.bind ?_ (fun _ => ?_))
      | exact impl_sumText.mono _ _
      | exact LeO.none _
      | refine LeO.ite ?_ ?_
      | refine LeO.bind ?_ (fun _ => ?_)
set_option maxHeartbeats 8000000 in
set_option maxRecDepth 100000 in
theorem impl_frame.calls (k : Nat) (a0 : ByteArray) (r : ByteArray) (w : World) (h : impl_frame.f k a0 = some r) :
    Calls Try.prog 22 #[.string a0] w fun e w' => e = .returned (.string r) ∧ Below w.heap.size w w' := by
  have HB := Aside0.mk (Below.refl w.heap.size w)
  have H : ((impl_text.f a0).bind fun t264 => (if 2 + t264.size ≤ 9223372036854775807 then ((impl_sumText.f k ((⟨#[67, 79]⟩ : ByteArray) ++ t264)).bind fun t265 => (if ((⟨#[67, 79]⟩ : ByteArray) ++ t264).size + t265.size ≤ 9223372036854775807 then (some (((⟨#[67, 79]⟩ : ByteArray) ++ t264) ++ t265)) else (none))) else (none))) = some r := h
  clear h
  replace H := Option.bind_eq_some_iff.mp H
  obtain ⟨t264, A20, H⟩ := H
  replace H : (if 2 + t264.size ≤ 9223372036854775807 then ((impl_sumText.f k ((⟨#[67, 79]⟩ : ByteArray) ++ t264)).bind fun t265 => (if ((⟨#[67, 79]⟩ : ByteArray) ++ t264).size + t265.size ≤ 9223372036854775807 then (some (((⟨#[67, 79]⟩ : ByteArray) ++ t264) ++ t265)) else (none))) else (none)) = some r := H
  have A2 := Aside0.mk A20
  clear A20
  by_cases c3 : 2 + t264.size ≤ 9223372036854775807
  · rw [if_pos c3] at H
    have c3b0 := eq_true c3
    have c3b1 : decide (2 + t264.size ≤ 9223372036854775807) = true := decide_eq_true c3
    try have c3b2 : (9223372036854775807 < 2 + t264.size) = False := eq_false (Nat.not_lt.2 c3)
    replace H := Option.bind_eq_some_iff.mp H
    obtain ⟨t265, A40, H⟩ := H
    replace H : (if ((⟨#[67, 79]⟩ : ByteArray) ++ t264).size + t265.size ≤ 9223372036854775807 then (some (((⟨#[67, 79]⟩ : ByteArray) ++ t264) ++ t265)) else (none)) = some r := H
    have A4 := Aside0.mk A40
    clear A40
    by_cases c5 : ((⟨#[67, 79]⟩ : ByteArray) ++ t264).size + t265.size ≤ 9223372036854775807
    · rw [if_pos c5] at H
      have c5b0 := eq_true c5
      have c5b1 : decide (((⟨#[67, 79]⟩ : ByteArray) ++ t264).size + t265.size ≤ 9223372036854775807) = true := decide_eq_true c5
      try have c5b2 : (9223372036854775807 < ((⟨#[67, 79]⟩ : ByteArray) ++ t264).size + t265.size) = False := eq_false (Nat.not_lt.2 c5)
      try (have c5s := c5; simp only [ByteArray.size_append, show (⟨#[67, 79]⟩ : ByteArray).size = 2 from rfl] at c5s)
      try have c5t := eq_false (Nat.not_lt.2 c5s)
      obtain rfl := Option.some.inj H
      go_enter Try.func22, Try.ntmps22
      go_wp2_with (first | ((with_reducible refine gate_callee (f := 44) rfl ?_); refine goesL_ (some 5) rfl rfl Try.func44 (by kernel_rfl) rfl #[.string a0] rfl (by (try simp only [List.map_toArray, List.map_cons, List.map_nil]); first | done | rfl | (simp only [List.length_drop, List.length_take]; rfl)) ?_; (with_reducible refine (impl_text.calls a0 t264 _ A2.out).mono ?_); rintro e w6 ⟨rfl, hb⟩; refine ⟨_, rfl, ?_⟩; have n0_ := Aside0.mk (below_step (by repeat (first | (with_reducible first | exact HB.out | apply below_alloc | apply pw_below_drewN | apply below_drew1) | exact HB.out)) hb); clear HB; have HB := n0_; clear n0_; (try clear hb); (try clear hb2); (try clear hk); (try clear hi)) | ((with_reducible refine gate_callee (f := 45) rfl ?_); refine goesL_ (some 9) rfl rfl Try.func45 (by kernel_rfl) rfl #[.string ((⟨#[67, 79]⟩ : ByteArray) ++ t264)] rfl (by (try simp only [List.map_toArray, List.map_cons, List.map_nil]); first | done | rfl | (simp only [List.length_drop, List.length_take]; rfl)) ?_; (with_reducible refine (impl_sumText.calls k ((⟨#[67, 79]⟩ : ByteArray) ++ t264) t265 _ A4.out).mono ?_); rintro e w7 ⟨rfl, hb⟩; refine ⟨_, rfl, ?_⟩; have n0_ := Aside0.mk (below_step (by repeat (first | (with_reducible first | exact HB.out | apply below_alloc | apply pw_below_drewN | apply below_drew1) | exact HB.out)) hb); clear HB; have HB := n0_; clear n0_; (try clear hb); (try clear hb2); (try clear hk); (try clear hi)))
      go_ret
      exact ⟨by first | rfl | (simp [errW_none, errW_some] <;> rfl) | (simp [*, errW_none, errW_some] <;> rfl), by repeat (first | (with_reducible first | exact HB.out | apply below_alloc | apply pw_below_drewN | apply below_drew1) | exact HB.out)⟩
    · rw [if_neg c5] at H
      exact absurd H (by simp)
  · rw [if_neg c3] at H
    exact absurd H (by simp)
def impl_within.f (a0 : Int) (a1 : Int) (a2 : Int) : Option (Bool) := if a0 ≥ a1 then (some (decide (a0 ≤ a2))) else (some false)
set_option maxHeartbeats 8000000 in
set_option maxRecDepth 100000 in
theorem impl_within.calls (a0 : Int) (a1 : Int) (a2 : Int) (r : Bool) (w : World) (h : impl_within.f a0 a1 a2 = some r) :
    Calls Try.prog 38 #[.int .i64 a0, .int .i64 a1, .int .i64 a2] w fun e w' => e = .returned (.bool r) ∧ Drawn0 w w' := by
  have H : (if a0 ≥ a1 then (some (decide (a0 ≤ a2))) else (some false)) = some r := h
  clear h
  by_cases c4 : a0 ≥ a1
  · rw [if_pos c4] at H
    have c4b0 : decide (a1 ≤ a0) = true := decide_eq_true c4
    clear c4
    obtain rfl := Option.some.inj H
    go_enter Try.func38, Try.ntmps38
    go_wp2
    go_ret
    exact ⟨by first | rfl | (simp; done) | (simp [*]; done), by repeat (first | exact Drawn0.refl _ | apply Drawn0.step)⟩
  · rw [if_neg c4] at H
    have c4b0 : decide (a1 ≤ a0) = false := decide_eq_false c4
    clear c4
    obtain rfl := Option.some.inj H
    go_enter Try.func38, Try.ntmps38
    go_wp2
    go_ret
    exact ⟨by first | rfl | (simp; done) | (simp [*]; done), by repeat (first | exact Drawn0.refl _ | apply Drawn0.step)⟩
def impl_within.Pure : Prop := ∀ (a0 : Int) (a1 : Int) (a2 : Int), (Lit.int .i64 a0).wf = true → (Lit.int .i64 a1).wf = true → (Lit.int .i64 a2).wf = true → impl_within.f a0 a1 a2 = some true
def impl_isCode.f (a0 : Int) : Option (Bool) := (impl_within.f a0 0 21).bind fun t266 => (some t266)
set_option maxHeartbeats 8000000 in
set_option maxRecDepth 100000 in
theorem impl_isCode.calls (a0 : Int) (r : Bool) (w : World) (h : impl_isCode.f a0 = some r) :
    Calls Try.prog 47 #[.int .i64 a0] w fun e w' => e = .returned (.bool r) ∧ Drawn0 w w' := by
  have H : ((impl_within.f a0 0 21).bind fun t266 => (some t266)) = some r := h
  clear h
  replace H := Option.bind_eq_some_iff.mp H
  obtain ⟨t266, A20, H⟩ := H
  replace H : (some t266) = some r := H
  have A2 := Aside0.mk A20
  clear A20
  obtain rfl := Option.some.inj H
  go_enter Try.func47, Try.ntmps47
  go_wp2_with (first | ((with_reducible refine gate_callee (f := 38) rfl ?_); refine goesL_ (some 4) rfl rfl Try.func38 (by kernel_rfl) rfl #[.int .i64 a0, .int .i64 0, .int .i64 21] rfl (by (try simp only [List.map_toArray, List.map_cons, List.map_nil]); first | done | rfl | (simp only [List.length_drop, List.length_take]; rfl)) ?_; (with_reducible refine (impl_within.calls a0 0 21 t266 _ A2.out).mono ?_); rintro e w' ⟨rfl, ⟨nd, rfl⟩⟩; refine ⟨_, rfl, ?_⟩))
  go_ret
  exact ⟨by first | rfl | (simp; done) | (simp [*]; done), by repeat (first | exact Drawn0.refl _ | apply Drawn0.step)⟩
def impl_isCode.Pure : Prop := ∀ (a0 : Int), (Lit.int .i64 a0).wf = true → impl_isCode.f a0 = some true
def impl_Doc_isZero.f (a0_0 : Int) (a0_1 : Int) (l0_2 : List (S67)) : Option (Bool) := if a0_0 = 0 then (if a0_1 = 0 then (some ((l0_2.length : Int) == 0)) else (some false)) else (some false)
set_option maxHeartbeats 8000000 in
set_option maxRecDepth 100000 in
theorem impl_Doc_isZero.calls (a0_0 : Int) (a0_1 : Int) (A0_2 : Option Addr) (c0_2 : Nat) (l0_2 : List (S67)) (r : Bool) (w : World) (hr0_2 : Kd.C k67 w A0_2 l0_2.length l0_2) (hc0_2 : l0_2.length ≤ c0_2) (h : impl_Doc_isZero.f a0_0 a0_1 l0_2 = some r) :
    Calls Try.prog 48 #[.agg #[.int .i64 a0_0, .int .i64 a0_1, .slice A0_2 l0_2.length c0_2]] w fun e w' => e = .returned (.bool r) ∧ Below w.heap.size w w' := by
  have hu30 := Try.underlying30
  have HR0_2 := Aside0.mk hr0_2
  have HC0_2 := Aside0.mk hc0_2
  clear hr0_2 hc0_2
  have HB := Aside0.mk (Below.refl w.heap.size w)
  have H : (if a0_0 = 0 then (if a0_1 = 0 then (some ((l0_2.length : Int) == 0)) else (some false)) else (some false)) = some r := h
  clear h
  by_cases c2 : a0_0 = 0
  · rw [if_pos c2] at H
    have c2b0 : (a0_0 == 0) = true := beq_iff_eq.mpr c2
    have c2b1 : (a0_0 != 0) = false := bne_eq_false_iff_eq.mpr c2
    clear c2
    by_cases c3 : a0_1 = 0
    · rw [if_pos c3] at H
      have c3b0 : (a0_1 == 0) = true := beq_iff_eq.mpr c3
      have c3b1 : (a0_1 != 0) = false := bne_eq_false_iff_eq.mpr c3
      clear c3
      obtain rfl := Option.some.inj H
      go_enter Try.func48, Try.ntmps48
      go_wp2_with (first | ((with_reducible refine gate_dst (N := 1) rfl ?_); (try (refine gate_guard (by rfl) ?_; dsimp only)); refine box_event ?hg (N := 1) ?hd (cs := #[.int .i64 a0_0, .int .i64 a0_1, .slice A0_2 l0_2.length c0_2]) (t := 30) ?hr ?_; (case hd => rfl); (case hg => rfl); (case hr => first | (go_simp; done) | (go_simp; rfl)); intro gb267 hg w4 hbox hb; have n0_ := Aside0.mk (below_step (by repeat (first | (with_reducible first | exact HB.out | apply below_alloc | apply pw_below_drewN | apply below_drew1) | exact HB.out)) hb); have n1_ := Aside0.mk (hbox); have n2_ := Aside0.mk ((by rw [hg]; exact (below_size (by repeat (first | (with_reducible first | exact HB.out | apply below_alloc | apply pw_below_drewN | apply below_drew1) | exact HB.out))) : w.heap.size ≤ gb267)); have n3_ := Aside0.mk ((by rw [hg]; exact (below_size (by repeat (first | (with_reducible first | exact HB.out | apply below_alloc | apply pw_below_drewN | apply below_drew1) | exact HB.out))) : w.heap.size ≤ gb267)); clear HB; have HB := n0_; have BK267 := n1_; have GW267 := n2_; have GE267 := n3_; clear n0_ n1_ n2_ n3_; clear hb hbox hg; have hcz5_0 : w4.cell? ⟨gb267, 0, none⟩ = some (.int .i64 a0_0) := (blk_cell BK267.out 0).trans rfl; have hcz5_1 : w4.cell? ⟨gb267, 1, none⟩ = some (.int .i64 a0_1) := (blk_cell BK267.out 1).trans rfl; have hcz5_2 : w4.cell? ⟨gb267, 2, none⟩ = some (.slice A0_2 l0_2.length c0_2) := (blk_cell BK267.out 2).trans rfl; have hfz5_0 := blk_frozen BK267.out 0; have hfz5_1 := blk_frozen BK267.out 1; have hfz5_2 := blk_frozen BK267.out 2))
      go_ret
      exact ⟨by first | rfl | (simp [errW_none, errW_some] <;> rfl) | (simp [*, errW_none, errW_some] <;> rfl), by repeat (first | (with_reducible first | exact HB.out | apply below_alloc | apply pw_below_drewN | apply below_drew1 | refine below_set ?_ GE267.out) | exact HB.out)⟩
    · rw [if_neg c3] at H
      have c3b0 : (a0_1 == 0) = false := beq_eq_false_iff_ne.mpr c3
      have c3b1 : (a0_1 != 0) = true := bne_iff_ne.mpr c3
      obtain rfl := Option.some.inj H
      go_enter Try.func48, Try.ntmps48
      go_wp2_with (first | ((with_reducible refine gate_dst (N := 1) rfl ?_); (try (refine gate_guard (by rfl) ?_; dsimp only)); refine box_event ?hg (N := 1) ?hd (cs := #[.int .i64 a0_0, .int .i64 a0_1, .slice A0_2 l0_2.length c0_2]) (t := 30) ?hr ?_; (case hd => rfl); (case hg => rfl); (case hr => first | (go_simp; done) | (go_simp; rfl)); intro gb267 hg w6 hbox hb; have n0_ := Aside0.mk (below_step (by repeat (first | (with_reducible first | exact HB.out | apply below_alloc | apply pw_below_drewN | apply below_drew1) | exact HB.out)) hb); have n1_ := Aside0.mk (hbox); have n2_ := Aside0.mk ((by rw [hg]; exact (below_size (by repeat (first | (with_reducible first | exact HB.out | apply below_alloc | apply pw_below_drewN | apply below_drew1) | exact HB.out))) : w.heap.size ≤ gb267)); have n3_ := Aside0.mk ((by rw [hg]; exact (below_size (by repeat (first | (with_reducible first | exact HB.out | apply below_alloc | apply pw_below_drewN | apply below_drew1) | exact HB.out))) : w.heap.size ≤ gb267)); clear HB; have HB := n0_; have BK267 := n1_; have GW267 := n2_; have GE267 := n3_; clear n0_ n1_ n2_ n3_; clear hb hbox hg; have hcz7_0 : w6.cell? ⟨gb267, 0, none⟩ = some (.int .i64 a0_0) := (blk_cell BK267.out 0).trans rfl; have hcz7_1 : w6.cell? ⟨gb267, 1, none⟩ = some (.int .i64 a0_1) := (blk_cell BK267.out 1).trans rfl; have hcz7_2 : w6.cell? ⟨gb267, 2, none⟩ = some (.slice A0_2 l0_2.length c0_2) := (blk_cell BK267.out 2).trans rfl; have hfz7_0 := blk_frozen BK267.out 0; have hfz7_1 := blk_frozen BK267.out 1; have hfz7_2 := blk_frozen BK267.out 2))
      go_ret
      exact ⟨by first | rfl | (simp [errW_none, errW_some] <;> rfl) | (simp [*, errW_none, errW_some] <;> rfl), by repeat (first | (with_reducible first | exact HB.out | apply below_alloc | apply pw_below_drewN | apply below_drew1 | refine below_set ?_ GE267.out) | exact HB.out)⟩
  · rw [if_neg c2] at H
    have c2b0 : (a0_0 == 0) = false := beq_eq_false_iff_ne.mpr c2
    have c2b1 : (a0_0 != 0) = true := bne_iff_ne.mpr c2
    obtain rfl := Option.some.inj H
    go_enter Try.func48, Try.ntmps48
    go_wp2_with (first | ((with_reducible refine gate_dst (N := 1) rfl ?_); (try (refine gate_guard (by rfl) ?_; dsimp only)); refine box_event ?hg (N := 1) ?hd (cs := #[.int .i64 a0_0, .int .i64 a0_1, .slice A0_2 l0_2.length c0_2]) (t := 30) ?hr ?_; (case hd => rfl); (case hg => rfl); (case hr => first | (go_simp; done) | (go_simp; rfl)); intro gb267 hg w8 hbox hb; have n0_ := Aside0.mk (below_step (by repeat (first | (with_reducible first | exact HB.out | apply below_alloc | apply pw_below_drewN | apply below_drew1) | exact HB.out)) hb); have n1_ := Aside0.mk (hbox); have n2_ := Aside0.mk ((by rw [hg]; exact (below_size (by repeat (first | (with_reducible first | exact HB.out | apply below_alloc | apply pw_below_drewN | apply below_drew1) | exact HB.out))) : w.heap.size ≤ gb267)); have n3_ := Aside0.mk ((by rw [hg]; exact (below_size (by repeat (first | (with_reducible first | exact HB.out | apply below_alloc | apply pw_below_drewN | apply below_drew1) | exact HB.out))) : w.heap.size ≤ gb267)); clear HB; have HB := n0_; have BK267 := n1_; have GW267 := n2_; have GE267 := n3_; clear n0_ n1_ n2_ n3_; clear hb hbox hg; have hcz9_0 : w8.cell? ⟨gb267, 0, none⟩ = some (.int .i64 a0_0) := (blk_cell BK267.out 0).trans rfl; have hcz9_1 : w8.cell? ⟨gb267, 1, none⟩ = some (.int .i64 a0_1) := (blk_cell BK267.out 1).trans rfl; have hcz9_2 : w8.cell? ⟨gb267, 2, none⟩ = some (.slice A0_2 l0_2.length c0_2) := (blk_cell BK267.out 2).trans rfl; have hfz9_0 := blk_frozen BK267.out 0; have hfz9_1 := blk_frozen BK267.out 1; have hfz9_2 := blk_frozen BK267.out 2))
    go_ret
    exact ⟨by first | rfl | (simp [errW_none, errW_some] <;> rfl) | (simp [*, errW_none, errW_some] <;> rfl), by repeat (first | (with_reducible first | exact HB.out | apply below_alloc | apply pw_below_drewN | apply below_drew1 | refine below_set ?_ GE267.out) | exact HB.out)⟩
end Go.Proofs.Ythoeiiecmmagnaa.Q
namespace Go.Proofs.Ythoeiiecmmagnaa.H
open Go.RowKit Go.Maps
theorem lookup_bool {H : Type} {P : Program} (w : World) {ops : Array Oper} {rest : List Oper} {o : Oper} {a : Act} {Q : Exit → Act → World → Prop}
    (hg : o.guard = none) (m x : Operand) (t : TypeId) (hop : o.op = Op.lookup t m x false)
    (k e : TypeId) (K : Keyed P k) (ht : P.underlying t = some (.map k e)) (he : P.underlying e = some .bool) (hz : (zeroValue e).run P w = .ok (.bool false) w) (b n : Nat) (D : DataW H)
    (hm : a.eval m = .map (some b)) (hown : w.ownsMap P k (plainElem P e) b n D) (key : Value) (kl : Lit) (hx : a.eval x = key) (hkey : keyOf P k key = some kl) (c : Bool)
    (hc : D.atKey kl (.lit (.bool false)) = .lit (.bool c)) (h : wpList P ops Q rest (a.put o.dst (.bool c)) w) : wpList P ops Q (o :: rest) a w := by
  refine wpList_plain hg fun K' hK' => ?_
  obtain ⟨v, ps, hrun, hv⟩ := hown.lookup K ht hz (plainElem_bool he false) hkey
  rw [hc] at hv
  have hv2 : v = .bool c := by
    unfold plainElem at hv
    rw [he] at hv
    cases v <;> simp at hv
    rw [hv.1]
  subst hv2
  unfold Oper.wp
  simp [execOp, hop, hm, hx, hrun, Result.andThen]
  exact hK' _ _ h
def setD (acc : List Int) : DataW Unit := setOf (.lit (.bool true)) (acc.map (Lit.int .i64))
theorem setD_snoc (acc : List Int) (x : Int) : setD (acc ++ [x]) = (setD acc).put (.int .i64 x) (.lit (.bool true)) := by unfold setD; rw [List.map_append, List.map_cons, List.map_nil, setOf_snoc]
theorem keys_ok (acc : List Int) : ∀ x ∈ acc.map (Lit.int .i64), WideAt.IsKeyLit x := by
  intro x hx
  obtain ⟨y, _, rfl⟩ := List.mem_map.1 hx
  simp [WideAt.IsKeyLit]
theorem setD_tidy (acc : List Int) : Tidy (setD acc) := tidy_setOf _ _ (keys_ok acc)
theorem rev_rec {P : List Int → Prop} (h0 : P []) (h1 : ∀ l x, P l → P (l ++ [x])) (l : List Int) : P l := by
  rw [← List.reverse_reverse l]
  generalize l.reverse = m
  induction m with
  | nil => exact h0
  | cons x m ih => rw [List.reverse_cons]; exact h1 _ _ ih
theorem setD_at (acc : List Int) (k : Int) : (setD acc).atKey (.int .i64 k) (.lit (.bool false)) = .lit (.bool (decide (k ∈ acc))) := by
  refine rev_rec (P := fun acc => (setD acc).atKey (.int .i64 k) (.lit (.bool false)) = .lit (.bool (decide (k ∈ acc)))) ?_ ?_ acc
  · rfl
  · intro acc x ih
    rw [setD_snoc]
    by_cases e : k = x
    · subst e
      rw [atKey_put_same (k := Lit.int .i64 k) (setD_tidy acc).isMap trivial]
      simp
    · rw [atKey_put_other (by simpa using e), ih]
      simp [e]
theorem setD_size (acc : List Int) (h : acc.Nodup) : size (setD acc) = acc.length := by
  refine rev_rec (P := fun acc => acc.Nodup → size (setD acc) = acc.length) ?_ ?_ acc h
  · intro _; rfl
  · intro acc x ih h
    rw [List.nodup_append] at h
    have hx : has (setD acc) (.int .i64 x) = false := by
      unfold setD
      rw [has_setOf _ _ _ (keys_ok acc)]
      refine List.any_eq_false.2 fun y hy => ?_
      obtain ⟨z, hz, rfl⟩ := List.mem_map.1 hy
      have hne : z ≠ x := h.2.2 z hz x (by simp)
      rw [sameKey_ne (by simpa using hne)]
      simp
    rw [setD_snoc, size_put (setD_tidy acc), hx, ih h.1]
    simp
end Go.Proofs.Ythoeiiecmmagnaa.H
set_option linter.unusedVariables false
set_option linter.unusedSimpArgs false
namespace Go.Proofs.Ythoeiiecmmagnaa.H
open Go.RowKit Go.Proofs.YthoeiiecmmagnaaW.PrintWords Go.Proofs.YthoeiiecmmagnaaW.PrintLast Go.Proofs.YthoeiiecmmagnaaW.PrintMore Go.Proofs.Ythoeiiecmmagnaa.Q
theorem within_f (a b c : Int) : impl_within.f a b c = some (decide (b ≤ a ∧ a ≤ c)) := by
  unfold impl_within.f
  by_cases h : a ≥ b
  · rw [if_pos h]; congr 1; simp; omega
  · rw [if_neg h]; congr 1; simp; omega
theorem within_c (a b c : Int) (w : World) {r : Bool} (h : decide (b ≤ a ∧ a ≤ c) = r) : Calls Try.prog 38 #[.int .i64 a, .int .i64 b, .int .i64 c] w fun e w' => e = .returned (.bool r) ∧ ∃ m, w' = w.drewN m := by
  refine (impl_within.calls a b c r w (by rw [within_f, h])).mono ?_
  rintro e w' ⟨rfl, nd, rfl⟩
  exact ⟨rfl, nd, rfl⟩
theorem s5 {w : World} {g T : Nat} {c0 c1 c2 c3 c4 : Value} (h : w.heap[g]? = some (.cells #[c0, c1, c2, c3, c4] T (0, 0))) (v0 v1 v2 v3 v4 : Value) : (((((w.setCell ⟨g, 0, none⟩ v0).setCell ⟨g, 1, none⟩ v1).setCell ⟨g, 2, none⟩ v2).setCell ⟨g, 3, none⟩ v3).setCell ⟨g, 4, none⟩ v4).heap[g]? = some (.cells #[v0, v1, v2, v3, v4] T (0, 0)) := by
  replace h : (w.setCell ⟨g, 0, none⟩ v0).heap[g]? = some (.cells #[v0, c1, c2, c3, c4] T (0, 0)) := blk_put h 0 v0 rfl
  generalize w.setCell ⟨g, 0, none⟩ v0 = w at h ⊢
  replace h : (w.setCell ⟨g, 1, none⟩ v1).heap[g]? = some (.cells #[v0, v1, c2, c3, c4] T (0, 0)) := blk_put h 1 v1 rfl
  generalize w.setCell ⟨g, 1, none⟩ v1 = w at h ⊢
  replace h : (w.setCell ⟨g, 2, none⟩ v2).heap[g]? = some (.cells #[v0, v1, v2, c3, c4] T (0, 0)) := blk_put h 2 v2 rfl
  generalize w.setCell ⟨g, 2, none⟩ v2 = w at h ⊢
  replace h : (w.setCell ⟨g, 3, none⟩ v3).heap[g]? = some (.cells #[v0, v1, v2, v3, c4] T (0, 0)) := blk_put h 3 v3 rfl
  generalize w.setCell ⟨g, 3, none⟩ v3 = w at h ⊢
  exact blk_put h 4 v4 rfl
theorem s5_far {w : World} {g g2 T : Nat} {cs : Array Value} (h : w.heap[g2]? = some (.cells cs T (0, 0))) (hne : g2 ≠ g) (v0 v1 v2 v3 v4 : Value) : (((((w.setCell ⟨g, 0, none⟩ v0).setCell ⟨g, 1, none⟩ v1).setCell ⟨g, 2, none⟩ v2).setCell ⟨g, 3, none⟩ v3).setCell ⟨g, 4, none⟩ v4).heap[g2]? = some (.cells cs T (0, 0)) :=
  blk_far (blk_far (blk_far (blk_far (blk_far h (p := ⟨g, 0, none⟩) hne _) (p := ⟨g, 1, none⟩) hne _) (p := ⟨g, 2, none⟩) hne _) (p := ⟨g, 3, none⟩) hne _) (p := ⟨g, 4, none⟩) hne _
theorem s5_below {w0 w : World} {g : Nat} {B : Nat} (h : Below B w0 w) (hg : B ≤ g) (v0 v1 v2 v3 v4 : Value) : Below B w0 (((((w.setCell ⟨g, 0, none⟩ v0).setCell ⟨g, 1, none⟩ v1).setCell ⟨g, 2, none⟩ v2).setCell ⟨g, 3, none⟩ v3).setCell ⟨g, 4, none⟩ v4) :=
  ((((h.setCell (p := ⟨g, 0, none⟩) hg v0).setCell (p := ⟨g, 1, none⟩) hg v1).setCell (p := ⟨g, 2, none⟩) hg v2).setCell (p := ⟨g, 3, none⟩) hg v3).setCell (p := ⟨g, 4, none⟩) hg v4
def NodeOK (next : Int) (x : Nd) : Prop := (1 ≤ x.f0 ∧ x.f0 ≤ next - 1) ∧ (1 ≤ x.f1 ∧ x.f1 ≤ 8) ∧ (0 ≤ x.f2 ∧ x.f2 ≤ 99) ∧ x.f3.size ≤ 20 ∧ x.f4.length ≤ 12
def StepOK (next : Int) (ns : List Nd) (t : Nat) : Prop := NodeOK next (rdN ns (t : Int)) ∧ ∀ y : Nat, y + 1 = t → (rdN ns (y : Int)).f0 < (rdN ns (t : Int)).f0
def kidsAll (ns : List Nd) : List Int := ns.flatMap (·.f4)
def SetOK (root : Int) (ns : List Nd) (ks : List Int) : Prop := ks.Nodup ∧ ∀ k ∈ ks, k ≠ root ∧ hasP ns k = true
def DOK (root next : Int) (ns : List Nd) : Prop :=
  (1 ≤ ns.length ∧ ns.length ≤ 40) ∧ (2 ≤ next ∧ next ≤ 999999) ∧ (∀ t : Nat, t < ns.length → StepOK next ns t) ∧ SetOK root ns (kidsAll ns) ∧
    (hasP ns root = true ∧ (kidsAll ns).length + 1 = ns.length ∧ depP ns 7 root ≤ 6) ∧ (ordP ns 6 root).length = ns.length
def All64 (root : Int) (ns : List Nd) : Prop := I64 root ∧ ∀ t : Nat, t < ns.length → ∀ k ∈ (rdN ns (t : Int)).f4, I64 k
def Bk (b : Bool) (P : Prop) : Prop := b = true ↔ P
theorem w64_nat {i : Nat} (h : i ≤ 4096) : wrap64 ((i : Int) + 1) = ((i + 1 : Nat) : Int) := by unfold wrap64; omega
theorem wf64 {x : Int} (h : I64 x) : (Lit.int .i64 x).wf = true := by
  have e1 : IntKind.i64.min = -9223372036854775808 := rfl
  have e2 : IntKind.i64.max = 9223372036854775807 := rfl
  obtain ⟨h1, h2⟩ := h
  simp [Lit.wf, e1, e2]
  omega
theorem good_of {next : Int} {ns : List Nd} (hn : next ≤ 999999) (hl : ns.length ≤ 40) (h : ∀ t : Nat, t < ns.length → StepOK next ns t) : Good ns := by
  refine ⟨by omega, fun a b hab hb => ?_, fun a ha => ?_⟩
  · induction b with
    | zero => omega
    | succ b ih =>
      have h1 := (h (b + 1) hb).2 b rfl
      by_cases q : a = b
      · subst q; exact h1
      · exact Int.lt_trans (ih (by omega) (by omega)) h1
  · have := (h a ha).1.1
    omega
def kidsTo (ns : List Nd) (j : Nat) : List Int := (ns.take j).flatMap (·.f4)
theorem kidsTo_all (ns : List Nd) : kidsTo ns ns.length = kidsAll ns := by unfold kidsTo kidsAll; rw [List.take_length]
theorem kidsTo_step {ns : List Nd} {j : Nat} (h : j < ns.length) : kidsTo ns (j + 1) = kidsTo ns j ++ (rdN ns (j : Int)).f4 := by
  unfold kidsTo
  rw [List.take_add_one, List.getElem?_eq_getElem h, List.flatMap_append, rdN_get h]; simp
theorem kids_split {ns : List Nd} {j i : Nat} (h : j < ns.length) (hi : i < (rdN ns (j : Int)).f4.length) : ∃ rest, kidsAll ns = (kidsTo ns j ++ (rdN ns (j : Int)).f4.take i) ++ (rdN ns (j : Int)).f4[i] :: rest := by
  refine ⟨(rdN ns (j : Int)).f4.drop (i + 1) ++ (ns.drop (j + 1)).flatMap (·.f4), ?_⟩
  have e1 : kidsAll ns = kidsTo ns (j + 1) ++ (ns.drop (j + 1)).flatMap (·.f4) := by
    unfold kidsTo kidsAll
    rw [← List.flatMap_append, List.take_append_drop]
  rw [e1, kidsTo_step h, List.append_assoc, List.append_assoc, ← List.cons_append, ← List.drop_eq_getElem_cons hi, ← List.append_assoc (List.take i _), List.take_append_drop]
theorem set_bad {root : Int} {ns : List Nd} {acc rest : List Int} {k : Int} (h : SetOK root ns (acc ++ k :: rest)) : k ∉ acc ∧ k ≠ root ∧ hasP ns k = true := by
  refine ⟨fun hk => ?_, h.2 k (by simp)⟩
  have := (List.nodup_append.1 h.1).2.2 k hk k (by simp)
  exact this rfl
theorem set_step {root : Int} {ns : List Nd} {acc : List Int} {k : Int} (h : SetOK root ns acc) (h1 : k ∉ acc) (h2 : k ≠ root) (h3 : hasP ns k = true) : SetOK root ns (acc ++ [k]) := by
  refine ⟨List.nodup_append.2 ⟨h.1, by simp, fun a ha b hb => ?_⟩, fun x hx => ?_⟩
  · obtain rfl : b = k := by simpa using hb
    exact fun e => h1 (e ▸ ha)
  · rcases List.mem_append.1 hx with hx | hx
    · exact h.2 x hx
    · obtain rfl : x = k := by simpa using hx
      exact ⟨h2, h3⟩
theorem lawI : Maps.Keyed Try.prog 3 := Maps.int_keyed Try.underlying3
theorem zeroB (w : World) : (zeroValue 4).run Try.prog w = .ok (.bool false) w := by kernel_rfl
def IsSet (w : World) (b n : Nat) (acc : List Int) : Prop := w.ownsMap Try.prog 3 (plainElem (H := Unit) Try.prog 4) b n (setD acc)
theorem IsSet.of_block {w w' : World} {b n : Nat} {acc : List Int} (h : IsSet w b n acc) (e : w'.heap[b]? = w.heap[b]?) : IsSet w' b n acc := by
  obtain ⟨es, clock, hb, r⟩ := h
  exact ⟨es, clock, e.trans hb, r⟩
theorem IsSet.below {w w' : World} {b n : Nat} {acc : List Int} (h : IsSet w b n acc) (hB : Below w.heap.size w w') : IsSet w' b n acc := h.of_block (hB.block b (World.ownsMap.lt h))
theorem IsSet.s5 {w : World} {b n g : Nat} {acc : List Int} (h : IsSet w b n acc) (hne : b ≠ g) (v0 v1 v2 v3 v4 : Value) : IsSet (((((w.setCell ⟨g, 0, none⟩ v0).setCell ⟨g, 1, none⟩ v1).setCell ⟨g, 2, none⟩ v2).setCell ⟨g, 3, none⟩ v3).setCell ⟨g, 4, none⟩ v4) b n acc :=
  World.ownsMap.setCell (World.ownsMap.setCell (World.ownsMap.setCell (World.ownsMap.setCell (World.ownsMap.setCell h (a := ⟨g, 0, none⟩) hne _) (a := ⟨g, 1, none⟩) hne _) (a := ⟨g, 2, none⟩) hne _) (a := ⟨g, 3, none⟩) hne _) (a := ⟨g, 4, none⟩) hne _
set_option maxHeartbeats 16000000 in
set_option maxRecDepth 100000 in
theorem docOK_calls (root next : Int) (A : Option Addr) (c : Nat) (ns : List Nd) (w : World) (hr : kNd.C w A ns.length ns) (hc : ns.length ≤ c) (h64 : All64 root ns) :
    Calls Try.prog 20 #[.agg #[.int .i64 root, .int .i64 next, .slice A ns.length c]] w fun e w' => (∃ b, e = .returned (.bool b) ∧ Bk b (DOK root next ns)) ∧ Below w.heap.size w w' := by
  have hu := Try.underlying67
  have hu2 := Try.underlying30
  have HC := Lib.hid hr
  have H64 := Lib.hid h64
  clear hr h64
  by_cases ca : 1 ≤ (ns.length : Int) ∧ (ns.length : Int) ≤ 40
  · by_cases cb : 2 ≤ next ∧ next ≤ 999999
    · go_enter Try.func20, Try.ntmps20
      go_wp2_with (first | ((with_reducible refine gate_dst (N := 1) rfl ?_); refine box_event ?hg (N := 1) ?hd (cs := #[.int .i64 root, .int .i64 next, .slice A ns.length c]) (t := 30) ?hr ?_; (case hd => rfl); (case hg => rfl); (case hr => first | (go_simp; done) | (go_simp; rfl)); intro g hg w1 hb1 hB1; have GW := Lib.hid (show w.heap.size ≤ g from Nat.le_of_eq hg.symm); clear hg; have BK := Lib.hid hb1; have HB := Lib.hid hB1; have hz0 : w1.cell? ⟨g, 0, none⟩ = some (.int .i64 root) := (blk_cell hb1 0).trans rfl; have hz1 : w1.cell? ⟨g, 1, none⟩ = some (.int .i64 next) := (blk_cell hb1 1).trans rfl; have hz2 : w1.cell? ⟨g, 2, none⟩ = some (.slice A ns.length c) := (blk_cell hb1 2).trans rfl; clear hb1 hB1))
      refine (within_c _ _ _ _ (r := true) (decide_eq_true (by first | exact ca | exact cb))).mono ?_
      rintro e w2 ⟨rfl, nd, rfl⟩
      go_wp2_with fail
      refine (within_c _ _ _ _ (r := true) (decide_eq_true (by first | exact ca | exact cb))).mono ?_
      rintro e w2 ⟨rfl, nd2, rfl⟩
      go_wp2
      have DOCB := Lib.hid (blk_drewN BK.out (nd + nd2))
      have HB1 := Lib.hid (pw_below_drewN HB.out (nd + nd2))
      have hd1 : (w1.drewN (nd + nd2)).cell? ⟨g, 1, none⟩ = some (.int .i64 next) := (blk_cell DOCB.out 1).trans rfl
      clear BK HB hz0 hz1 hz2
      generalize w1.drewN (nd + nd2) = w1 at *
      have hnx : wrap64 (next - 1) = next - 1 := by unfold wrap64; omega
      have hnx2 : IntKind.i64.wrap (next - 1) = next - 1 := by rw [IntKind.wrap_i64]; unfold wrap64 at hnx; exact hnx
      go_loopg [24] ns.length (fun kx s24 wr => ∃ i : Nat, s24 = .int .i64 i ∧ i ≤ ns.length ∧ ns.length - i ≤ kx ∧ Aside0 (∀ t : Nat, t < i → StepOK next ns t) ∧ Aside0 (Below w.heap.size w wr) ∧ Aside0 (wr.heap[g]? = some (.cells #[.int .i64 root, .int .i64 next, .slice A ns.length c] 30 (0, 0))))
      case atStart => exact ⟨0, rfl, Nat.zero_le _, by omega, ⟨fun t ht => absurd ht (Nat.not_lt_zero _)⟩, ⟨HB1.out⟩, ⟨DOCB.out⟩⟩
      case round =>
        clear HB1 DOCB hd1
        obtain ⟨i, rfl, hil, hg, SO, HB, BK⟩ := hrel
        by_cases hlt : i < ns.length
        · obtain ⟨ad, A4, c4, e4, hx0, hx1, hx2, hx3, hx4, hl4, hi4⟩ := at_T67 HC.out (i : Int) (by omega) (by omega)
          have HSO := Lib.hid (show StepOK next ns i ↔ ((1 ≤ (rd_T67 ns (i : Int)).f0 ∧ (rd_T67 ns (i : Int)).f0 ≤ next - 1) ∧ (1 ≤ (rd_T67 ns (i : Int)).f1 ∧ (rd_T67 ns (i : Int)).f1 ≤ 8) ∧ (0 ≤ (rd_T67 ns (i : Int)).f2 ∧ (rd_T67 ns (i : Int)).f2 ≤ 99) ∧ (rd_T67 ns (i : Int)).f3.size ≤ 20 ∧ (rd_T67 ns (i : Int)).f4.length ≤ 12) ∧ ∀ y : Nat, y + 1 = i → (rdN ns (y : Int)).f0 < (rd_T67 ns (i : Int)).f0 from Iff.rfl)
          cases e4
          rw [Int.toNat_natCast] at hx0 hx1 hx2 hx3 hx4
          replace hx0 := (HB.out.cell (World.block_lt_of_cell? w _ hx0)).trans hx0
          replace hx1 := (HB.out.cell (World.block_lt_of_cell? w _ hx1)).trans hx1
          replace hx2 := (HB.out.cell (World.block_lt_of_cell? w _ hx2)).trans hx2
          replace hx3 := (HB.out.cell (World.block_lt_of_cell? w _ hx3)).trans hx3
          replace hx4 := (HB.out.cell (World.block_lt_of_cell? w _ hx4)).trans hx4
          clear hl4 hi4
          obtain ⟨q0, hq0⟩ : ∃ q0, (rd_T67 ns (i : Int)).f0 = q0 := ⟨_, rfl⟩
          obtain ⟨q1, hq1⟩ : ∃ q1, (rd_T67 ns (i : Int)).f1 = q1 := ⟨_, rfl⟩
          obtain ⟨q2, hq2⟩ : ∃ q2, (rd_T67 ns (i : Int)).f2 = q2 := ⟨_, rfl⟩
          obtain ⟨q3, hq3⟩ : ∃ q3, (rd_T67 ns (i : Int)).f3 = q3 := ⟨_, rfl⟩
          obtain ⟨q4, hq4⟩ : ∃ q4, (rd_T67 ns (i : Int)).f4 = q4 := ⟨_, rfl⟩
          rw [hq0] at hx0; rw [hq1] at hx1; rw [hq2] at hx2; rw [hq3] at hx3; rw [hq4] at hx4
          rw [hq0, hq1, hq2, hq3, hq4] at HSO
          clear hq0 hq1 hq2 hq3 hq4
          go_upto_region 6 with (first | ((with_reducible refine gate_dst (N := 4) rfl ?_); refine box_event ?hg (N := 4) ?hd (cs := #[.int .i64 0, .int .i64 0, .int .i64 0, .string (⟨#[]⟩ : ByteArray), .slice none 0 0]) (t := 67) ?hr ?_; (case hd => rfl); (case hg => rfl); (case hr => first | (go_simp; done) | (go_simp; rfl)); intro g2 hg2 w2 hb2 hB2; have GW2 := Lib.hid (show w.heap.size ≤ g2 from by rw [hg2]; exact HB.out.size); have GNE := Lib.hid (show g ≠ g2 from by rw [hg2]; exact Nat.ne_of_lt (blk_lt BK.out)); clear hg2; have BK2 := Lib.hid hb2; have HB2 := Lib.hid (below_step HB.out hB2); have BKD := Lib.hid (blk_below BK.out hB2); have hy0 : w2.cell? ⟨g2, 0, none⟩ = some (.int .i64 0) := (blk_cell hb2 0).trans rfl; have hy1 : w2.cell? ⟨g2, 1, none⟩ = some (.int .i64 0) := (blk_cell hb2 1).trans rfl; have hy2 : w2.cell? ⟨g2, 2, none⟩ = some (.int .i64 0) := (blk_cell hb2 2).trans rfl; have hy3 : w2.cell? ⟨g2, 3, none⟩ = some (.string (⟨#[]⟩ : ByteArray)) := (blk_cell hb2 3).trans rfl; have hy4 : w2.cell? ⟨g2, 4, none⟩ = some (.slice none 0 0) := (blk_cell hb2 4).trans rfl; have fy0 := blk_frozen hb2 0; have fy1 := blk_frozen hb2 1; have fy2 := blk_frozen hb2 2; have fy3 := blk_frozen hb2 3; have fy4 := blk_frozen hb2 4; clear hb2 hB2))
          have BK3 := Lib.hid (s5 BK2.out (.int .i64 q0) (.int .i64 q1) (.int .i64 q2) (.string q3) (.slice A4 q4.length c4))
          have BKE := Lib.hid (s5_far BKD.out GNE.out (.int .i64 q0) (.int .i64 q1) (.int .i64 q2) (.string q3) (.slice A4 q4.length c4))
          have HB3 := Lib.hid (s5_below HB2.out GW2.out (.int .i64 q0) (.int .i64 q1) (.int .i64 q2) (.string q3) (.slice A4 q4.length c4))
          generalize (((((w2.setCell ⟨g2, 0, none⟩ (.int .i64 q0)).setCell ⟨g2, 1, none⟩ (.int .i64 q1)).setCell ⟨g2, 2, none⟩ (.int .i64 q2)).setCell ⟨g2, 3, none⟩ (.string q3)).setCell ⟨g2, 4, none⟩ (.slice A4 q4.length c4)) = w3 at BK3 BKE HB3 ⊢
          clear hx0 hx1 hx2 hx3 hx4 hy0 hy1 hy2 hy3 hy4 fy0 fy1 fy2 fy3 fy4 BK2 HB2 BKD HB BK
          go_cut [75] (fun v wc => ∃ b, v = .bool b ∧ Aside0 (Bk b (¬ StepOK next ns i)) ∧ Aside0 (Below w.heap.size w wc) ∧ Aside0 (wc.heap[g]? = some (.cells #[.int .i64 root, .int .i64 next, .slice (some ad) ns.length c] 30 (0, 0))))
          case first =>
            --<L1
            have z0 : w3.cell? ⟨g2, 0, none⟩ = some (.int .i64 q0) := (blk_cell BK3.out 0).trans rfl
            have z1 : w3.cell? ⟨g2, 1, none⟩ = some (.int .i64 q1) := (blk_cell BK3.out 1).trans rfl
            have z2 : w3.cell? ⟨g2, 2, none⟩ = some (.int .i64 q2) := (blk_cell BK3.out 2).trans rfl
            have z3 : w3.cell? ⟨g2, 3, none⟩ = some (.string q3) := (blk_cell BK3.out 3).trans rfl
            have z4 : w3.cell? ⟨g2, 4, none⟩ = some (.slice A4 q4.length c4) := (blk_cell BK3.out 4).trans rfl
            have y1 : w3.cell? ⟨g, 1, none⟩ = some (.int .i64 next) := (blk_cell BKE.out 1).trans rfl
            have y2 : w3.cell? ⟨g, 2, none⟩ = some (.slice (some ad) ns.length c) := (blk_cell BKE.out 2).trans rfl
            have D3 := True.intro
            have D4 := True.intro
            by_cases d1 : 1 ≤ q0 ∧ q0 ≤ next - 1
            · have D1 : decide (1 ≤ q0 ∧ q0 ≤ next - 1) = true := decide_eq_true d1
              by_cases d2 : 0 < i
              · have D2 : decide ((0 : Int) < (i : Int)) = true := decide_eq_true (by omega)
                have D2b : decide ((i : Int) > (0 : Int)) = true := decide_eq_true (by omega)
                obtain ⟨y, hy⟩ : ∃ y : Nat, y + 1 = i := ⟨i - 1, by omega⟩
                obtain ⟨ad', A5, c5, e5, hp0, hp1, hp2, hp3, hp4, hl5, hi5⟩ := at_T67 HC.out (y : Int) (by omega) (by omega)
                cases e5
                rw [Int.toNat_natCast] at hp0
                replace hp0 := (HB3.out.cell (World.block_lt_of_cell? w _ hp0)).trans hp0
                clear hp1 hp2 hp3 hp4 hl5 hi5
                have hw1 : wrap64 ((i : Int) - 1) = (y : Int) := by unfold wrap64; omega
                have hw2 : IntKind.i64.wrap ((i : Int) - 1) = (y : Int) := by rw [IntKind.wrap_i64]; unfold wrap64 at hw1; exact hw1
                have hw3 : decide ((0 : Int) ≤ (y : Int)) = true := decide_eq_true (by omega)
                have hw4 : decide ((y : Int) < (ns.length : Int)) = true := decide_eq_true (by omega)
                have hw5 : (0 : Int) ≤ (y : Int) := by omega
                have hw6 : (y : Int) < (ns.length : Int) := by omega
                have hw7 : y < ns.length := by omega
                obtain ⟨p0, hp⟩ : ∃ p0, (rd_T67 ns (y : Int)).f0 = p0 := ⟨_, rfl⟩
                rw [hp] at hp0
                have hpq : (rdN ns (y : Int)).f0 = p0 := hp
                clear hp
                by_cases d7 : p0 < q0
                · have D7 : decide (q0 ≤ p0) = false := decide_eq_false (by omega)
                  have D7b : decide (p0 ≥ q0) = false := decide_eq_false (by omega)
                  have hup : ∀ y' : Nat, y' + 1 = i → (rdN ns (y' : Int)).f0 < q0 := fun y' hy' => by (have e : y' = y := (by omega)); (rw [e, hpq]); exact d7
                  have HUP := Lib.hid hup
                  have HPQ := Lib.hid hpq
                  clear hup hpq
                  by_cases d3 : 1 ≤ q1 ∧ q1 ≤ 8
                  · have D3 : decide (1 ≤ q1 ∧ q1 ≤ 8) = true := decide_eq_true d3
                    by_cases d4 : 0 ≤ q2 ∧ q2 ≤ 99
                    · have D4 : decide (0 ≤ q2 ∧ q2 ≤ 99) = true := decide_eq_true d4
                      by_cases d5 : q3.size ≤ 20
                      · have D5 : decide ((20 : Int) < (q3.size : Int)) = false := decide_eq_false (by omega)
                        have D5b : decide ((q3.size : Int) > (20 : Int)) = false := decide_eq_false (by omega)
                        by_cases d6 : q4.length ≤ 12
                        · have D6 : decide ((12 : Int) < (q4.length : Int)) = false := decide_eq_false (by omega)
                          have D6b : decide ((q4.length : Int) > (12 : Int)) = false := decide_eq_false (by omega)
                          have HBK := Lib.hid (show Bk false (¬ StepOK next ns i) from ⟨(fun h => by cases h), fun h => absurd (HSO.out.2 ⟨⟨d1, d3, d4, d5, d6⟩, HUP.out⟩) h⟩)
                          go_quiet (exact Calls.quiet_of (within_c _ _ _ _ (by first | exact D1 | exact D3 | exact D4)))
                          go_wp2
                          go_meet
                          case rel => exact ⟨_, rfl, ⟨HBK.out⟩, ⟨pw_below_drewN HB3.out _⟩, ⟨blk_drewN BKE.out _⟩⟩
                        · have D6 : decide ((12 : Int) < (q4.length : Int)) = true := decide_eq_true (by omega)
                          have D6b : decide ((q4.length : Int) > (12 : Int)) = true := decide_eq_true (by omega)
                          have HBK := Lib.hid (show Bk true (¬ StepOK next ns i) from ⟨fun _ h => d6 (HSO.out.1 h).1.2.2.2.2, fun _ => rfl⟩)
                          go_quiet (exact Calls.quiet_of (within_c _ _ _ _ (by first | exact D1 | exact D3 | exact D4)))
                          go_wp2
                          go_meet
                          case rel => exact ⟨_, rfl, ⟨HBK.out⟩, ⟨pw_below_drewN HB3.out _⟩, ⟨blk_drewN BKE.out _⟩⟩
                      · have D5 : decide ((20 : Int) < (q3.size : Int)) = true := decide_eq_true (by omega)
                        have D5b : decide ((q3.size : Int) > (20 : Int)) = true := decide_eq_true (by omega)
                        have HBK := Lib.hid (show Bk true (¬ StepOK next ns i) from ⟨fun _ h => d5 (HSO.out.1 h).1.2.2.2.1, fun _ => rfl⟩)
                        go_quiet (exact Calls.quiet_of (within_c _ _ _ _ (by first | exact D1 | exact D3 | exact D4)))
                        go_wp2
                        go_meet
                        case rel => exact ⟨_, rfl, ⟨HBK.out⟩, ⟨pw_below_drewN HB3.out _⟩, ⟨blk_drewN BKE.out _⟩⟩
                    · have D4 : decide (0 ≤ q2 ∧ q2 ≤ 99) = false := decide_eq_false d4
                      have HBK := Lib.hid (show Bk true (¬ StepOK next ns i) from ⟨fun _ h => d4 (HSO.out.1 h).1.2.2.1, fun _ => rfl⟩)
                      go_quiet (exact Calls.quiet_of (within_c _ _ _ _ (by first | exact D1 | exact D3 | exact D4)))
                      go_wp2
                      go_meet
                      case rel => exact ⟨_, rfl, ⟨HBK.out⟩, ⟨pw_below_drewN HB3.out _⟩, ⟨blk_drewN BKE.out _⟩⟩
                  · have D3 : decide (1 ≤ q1 ∧ q1 ≤ 8) = false := decide_eq_false d3
                    have HBK := Lib.hid (show Bk true (¬ StepOK next ns i) from ⟨fun _ h => d3 (HSO.out.1 h).1.2.1, fun _ => rfl⟩)
                    go_quiet (exact Calls.quiet_of (within_c _ _ _ _ (by first | exact D1 | exact D3 | exact D4)))
                    go_wp2
                    go_meet
                    case rel => exact ⟨_, rfl, ⟨HBK.out⟩, ⟨pw_below_drewN HB3.out _⟩, ⟨blk_drewN BKE.out _⟩⟩
                · have D7 : decide (q0 ≤ p0) = true := decide_eq_true (by omega)
                  have D7b : decide (p0 ≥ q0) = true := decide_eq_true (by omega)
                  have HBK := Lib.hid (show Bk true (¬ StepOK next ns i) from ⟨fun _ h => d7 (by have := (HSO.out.1 h).2 y hy; rwa [hpq] at this), fun _ => rfl⟩)
                  go_quiet (exact Calls.quiet_of (within_c _ _ _ _ (by first | exact D1 | exact D3 | exact D4)))
                  go_wp2
                  go_meet
                  case rel => exact ⟨_, rfl, ⟨HBK.out⟩, ⟨pw_below_drewN HB3.out _⟩, ⟨blk_drewN BKE.out _⟩⟩
              · have D2 : decide ((0 : Int) < (i : Int)) = false := decide_eq_false (by omega)
                have D2b : decide ((i : Int) > (0 : Int)) = false := decide_eq_false (by omega)
                by_cases d3 : 1 ≤ q1 ∧ q1 ≤ 8
                · have D3 : decide (1 ≤ q1 ∧ q1 ≤ 8) = true := decide_eq_true d3
                  by_cases d4 : 0 ≤ q2 ∧ q2 ≤ 99
                  · have D4 : decide (0 ≤ q2 ∧ q2 ≤ 99) = true := decide_eq_true d4
                    by_cases d5 : q3.size ≤ 20
                    · have D5 : decide ((20 : Int) < (q3.size : Int)) = false := decide_eq_false (by omega)
                      have D5b : decide ((q3.size : Int) > (20 : Int)) = false := decide_eq_false (by omega)
                      by_cases d6 : q4.length ≤ 12
                      · have D6 : decide ((12 : Int) < (q4.length : Int)) = false := decide_eq_false (by omega)
                        have D6b : decide ((q4.length : Int) > (12 : Int)) = false := decide_eq_false (by omega)
                        have HBK := Lib.hid (show Bk false (¬ StepOK next ns i) from ⟨(fun h => by cases h), fun h => absurd (HSO.out.2 ⟨⟨d1, d3, d4, d5, d6⟩, fun y hy => absurd hy (by omega)⟩) h⟩)
                        go_quiet (exact Calls.quiet_of (within_c _ _ _ _ (by first | exact D1 | exact D3 | exact D4)))
                        go_wp2
                        go_meet
                        case rel => exact ⟨_, rfl, ⟨HBK.out⟩, ⟨pw_below_drewN HB3.out _⟩, ⟨blk_drewN BKE.out _⟩⟩
                      · have D6 : decide ((12 : Int) < (q4.length : Int)) = true := decide_eq_true (by omega)
                        have D6b : decide ((q4.length : Int) > (12 : Int)) = true := decide_eq_true (by omega)
                        have HBK := Lib.hid (show Bk true (¬ StepOK next ns i) from ⟨fun _ h => d6 (HSO.out.1 h).1.2.2.2.2, fun _ => rfl⟩)
                        go_quiet (exact Calls.quiet_of (within_c _ _ _ _ (by first | exact D1 | exact D3 | exact D4)))
                        go_wp2
                        go_meet
                        case rel => exact ⟨_, rfl, ⟨HBK.out⟩, ⟨pw_below_drewN HB3.out _⟩, ⟨blk_drewN BKE.out _⟩⟩
                    · have D5 : decide ((20 : Int) < (q3.size : Int)) = true := decide_eq_true (by omega)
                      have D5b : decide ((q3.size : Int) > (20 : Int)) = true := decide_eq_true (by omega)
                      have HBK := Lib.hid (show Bk true (¬ StepOK next ns i) from ⟨fun _ h => d5 (HSO.out.1 h).1.2.2.2.1, fun _ => rfl⟩)
                      go_quiet (exact Calls.quiet_of (within_c _ _ _ _ (by first | exact D1 | exact D3 | exact D4)))
                      go_wp2
                      go_meet
                      case rel => exact ⟨_, rfl, ⟨HBK.out⟩, ⟨pw_below_drewN HB3.out _⟩, ⟨blk_drewN BKE.out _⟩⟩
                  · have D4 : decide (0 ≤ q2 ∧ q2 ≤ 99) = false := decide_eq_false d4
                    have HBK := Lib.hid (show Bk true (¬ StepOK next ns i) from ⟨fun _ h => d4 (HSO.out.1 h).1.2.2.1, fun _ => rfl⟩)
                    go_quiet (exact Calls.quiet_of (within_c _ _ _ _ (by first | exact D1 | exact D3 | exact D4)))
                    go_wp2
                    go_meet
                    case rel => exact ⟨_, rfl, ⟨HBK.out⟩, ⟨pw_below_drewN HB3.out _⟩, ⟨blk_drewN BKE.out _⟩⟩
                · have D3 : decide (1 ≤ q1 ∧ q1 ≤ 8) = false := decide_eq_false d3
                  have HBK := Lib.hid (show Bk true (¬ StepOK next ns i) from ⟨fun _ h => d3 (HSO.out.1 h).1.2.1, fun _ => rfl⟩)
                  go_quiet (exact Calls.quiet_of (within_c _ _ _ _ (by first | exact D1 | exact D3 | exact D4)))
                  go_wp2
                  go_meet
                  case rel => exact ⟨_, rfl, ⟨HBK.out⟩, ⟨pw_below_drewN HB3.out _⟩, ⟨blk_drewN BKE.out _⟩⟩
            · have D1 : decide (1 ≤ q0 ∧ q0 ≤ next - 1) = false := decide_eq_false d1
              have HBK := Lib.hid (show Bk true (¬ StepOK next ns i) from ⟨fun _ h => d1 (HSO.out.1 h).1.1, fun _ => rfl⟩)
              go_quiet (exact Calls.quiet_of (within_c _ _ _ _ (by first | exact D1 | exact D3 | exact D4)))
              go_wp2
              go_meet
              case rel => exact ⟨_, rfl, ⟨HBK.out⟩, ⟨pw_below_drewN HB3.out _⟩, ⟨blk_drewN BKE.out _⟩⟩
            --L1>
          case rest =>
            obtain ⟨b, rfl, HBK, HB4, BK4⟩ := hcut
            clear HB3 BK3 BKE
            cases b with
            | true =>
              go_wp2
              go_ret
              exact ⟨⟨false, rfl, ⟨(fun h => by cases h), fun h => absurd (h.2.2.1 i hlt) (HBK.out.1 rfl)⟩⟩, HB4.out⟩
            | false =>
              have SOK : StepOK next ns i := by
                by_cases hs : StepOK next ns i
                · exact hs
                · exact absurd (HBK.out.2 hs) (by decide)
              have SO2 : Aside0 (∀ t : Nat, t < i + 1 → StepOK next ns t) := ⟨fun t ht => by
                by_cases q : t < i
                · exact SO.out t q
                · obtain rfl : t = i := by omega
                  exact SOK⟩
              clear HBK SOK SO
              have hil2 : wrap64 ((i : Int) + 1) = (i : Int) + 1 := by unfold wrap64; omega
              go_wp2
              go_roundg (ns.length - (i + 1))
              case measure => omega
              case rel => exact ⟨i + 1, by rw [show ((i + 1 : Nat) : Int) = (i : Int) + 1 by omega], by omega, Nat.le_refl _, SO2, HB4, BK4⟩
        · obtain rfl : i = ns.length := by omega
          have hmm := @run_makeMap Try.prog
          have ha2 : (wr.alloc (Obj.map #[] 0)).cell? ⟨g, 2, none⟩ = some (.slice A ns.length c) := (blk_cell (blk_alloc BK.out _) 2).trans rfl
          go_wp2_with fail
          clear hmm ha2
          have OM := Lib.hid (show IsSet (wr.alloc (Obj.map #[] 0)) wr.heap.size (12 * 0) (kidsTo ns 0) from World.ownsMap_made _ _ _ _)
          have HB1 := Lib.hid (below_alloc HB.out (Obj.map #[] 0))
          have BK1 := Lib.hid (blk_alloc BK.out (Obj.map #[] 0))
          have GNM := Lib.hid (Nat.ne_of_lt (blk_lt BK.out))
          have GMW := Lib.hid HB.out.size
          have HGD := Lib.hid (good_of cb.2 (by omega) SO.out)
          generalize wr.alloc (Obj.map #[] 0) = w1 at OM HB1 BK1 ⊢
          generalize wr.heap.size = gm at OM GNM GMW ⊢
          clear BK HB
          clear wr
          go_loopg [81] ns.length (fun kx s81 wr => ∃ j : Nat, s81 = .int .i64 j ∧ j ≤ ns.length ∧ ns.length - j ≤ kx ∧ Aside0 (SetOK root ns (kidsTo ns j)) ∧ Aside0 (IsSet wr gm (12 * j) (kidsTo ns j)) ∧ Aside0 (Below w.heap.size w wr) ∧ Aside0 (wr.heap[g]? = some (.cells #[.int .i64 root, .int .i64 next, .slice A ns.length c] 30 (0, 0))))
          case atStart => exact ⟨0, rfl, Nat.zero_le _, by omega, ⟨⟨List.nodup_nil, fun k hk => absurd hk (by simp [kidsTo])⟩⟩, ⟨OM.out⟩, ⟨HB1.out⟩, ⟨BK1.out⟩⟩
          case round =>
            clear OM HB1 BK1
            obtain ⟨j, rfl, hjl, hgj, SK, OM, HB, BK⟩ := hrel
            by_cases hjt : j < ns.length
            · obtain ⟨ad, A4, c4, e4, hx0, hx1, hx2, hx3, hx4, hl4, hi4⟩ := at_T67 HC.out (j : Int) (by omega) (by omega)
              cases e4
              rw [Int.toNat_natCast] at hx0 hx1 hx2 hx3 hx4
              replace hx0 := (HB.out.cell (World.block_lt_of_cell? w _ hx0)).trans hx0
              replace hx1 := (HB.out.cell (World.block_lt_of_cell? w _ hx1)).trans hx1
              replace hx2 := (HB.out.cell (World.block_lt_of_cell? w _ hx2)).trans hx2
              replace hx3 := (HB.out.cell (World.block_lt_of_cell? w _ hx3)).trans hx3
              replace hx4 := (HB.out.cell (World.block_lt_of_cell? w _ hx4)).trans hx4
              have KS := Lib.hid (kidsTo_step hjt)
              have SPL := Lib.hid (fun (i : Nat) (hi : i < (rd_T67 ns (j : Int)).f4.length) => kids_split hjt hi)
              have K64 := Lib.hid (show ∀ k ∈ (rd_T67 ns (j : Int)).f4, I64 k from H64.out.2 j hjt)
              have K12 := Lib.hid (show (rd_T67 ns (j : Int)).f4.length ≤ 12 from (SO.out j hjt).1.2.2.2.2)
              have H4 := Lib.hid hi4
              have HL4 := Lib.hid hl4
              rw [show (rdN ns (j : Int)).f4 = (rd_T67 ns (j : Int)).f4 from rfl] at KS
              have SPL2 := Lib.hid (show ∀ (i : Nat) (hi : i < (rd_T67 ns (j : Int)).f4.length), ∃ rest, kidsAll ns = (kidsTo ns j ++ (rd_T67 ns (j : Int)).f4.take i) ++ (rd_T67 ns (j : Int)).f4[i] :: rest from SPL.out)
              clear hl4 hi4 SPL
              generalize (rd_T67 ns (j : Int)).f0 = q0 at hx0
              generalize (rd_T67 ns (j : Int)).f1 = q1 at hx1
              generalize (rd_T67 ns (j : Int)).f2 = q2 at hx2
              generalize (rd_T67 ns (j : Int)).f3 = q3 at hx3
              generalize (rd_T67 ns (j : Int)).f4 = q4 at hx4 KS K64 K12 H4 HL4 SPL2
              go_upto_region 13 with (first | ((with_reducible refine gate_dst (N := 7) rfl ?_); refine box_event ?hg (N := 7) ?hd (cs := #[.int .i64 0, .int .i64 0, .int .i64 0, .string (⟨#[]⟩ : ByteArray), .slice none 0 0]) (t := 67) ?hr ?_; (case hd => rfl); (case hg => rfl); (case hr => first | (go_simp; done) | (go_simp; rfl)); intro g2 hg2 w2 hb2 hB2; have GW2 := Lib.hid (show w.heap.size ≤ g2 from by rw [hg2]; exact HB.out.size); have GNE := Lib.hid (show g ≠ g2 from by rw [hg2]; exact Nat.ne_of_lt (blk_lt BK.out)); have GNM2 := Lib.hid (show g2 ≠ gm from by rw [hg2]; exact Nat.ne_of_gt (World.ownsMap.lt OM.out)); have OM2 := Lib.hid (IsSet.below OM.out hB2); clear hg2; have BK2 := Lib.hid hb2; have HB2 := Lib.hid (below_step HB.out hB2); have BKD := Lib.hid (blk_below BK.out hB2); have hy0 : w2.cell? ⟨g2, 0, none⟩ = some (.int .i64 0) := (blk_cell hb2 0).trans rfl; have hy1 : w2.cell? ⟨g2, 1, none⟩ = some (.int .i64 0) := (blk_cell hb2 1).trans rfl; have hy2 : w2.cell? ⟨g2, 2, none⟩ = some (.int .i64 0) := (blk_cell hb2 2).trans rfl; have hy3 : w2.cell? ⟨g2, 3, none⟩ = some (.string (⟨#[]⟩ : ByteArray)) := (blk_cell hb2 3).trans rfl; have hy4 : w2.cell? ⟨g2, 4, none⟩ = some (.slice none 0 0) := (blk_cell hb2 4).trans rfl; have fy0 := blk_frozen hb2 0; have fy1 := blk_frozen hb2 1; have fy2 := blk_frozen hb2 2; have fy3 := blk_frozen hb2 3; have fy4 := blk_frozen hb2 4; clear hb2 hB2))
              have BK3 := Lib.hid (s5 BK2.out (.int .i64 q0) (.int .i64 q1) (.int .i64 q2) (.string q3) (.slice A4 q4.length c4))
              have BKE := Lib.hid (s5_far BKD.out GNE.out (.int .i64 q0) (.int .i64 q1) (.int .i64 q2) (.string q3) (.slice A4 q4.length c4))
              have HB3 := Lib.hid (s5_below HB2.out GW2.out (.int .i64 q0) (.int .i64 q1) (.int .i64 q2) (.string q3) (.slice A4 q4.length c4))
              have OM3 := Lib.hid (OM2.out.s5 GNM2.out.symm (.int .i64 q0) (.int .i64 q1) (.int .i64 q2) (.string q3) (.slice A4 q4.length c4))
              generalize (((((w2.setCell ⟨g2, 0, none⟩ (.int .i64 q0)).setCell ⟨g2, 1, none⟩ (.int .i64 q1)).setCell ⟨g2, 2, none⟩ (.int .i64 q2)).setCell ⟨g2, 3, none⟩ (.string q3)).setCell ⟨g2, 4, none⟩ (.slice A4 q4.length c4)) = w3 at BK3 BKE HB3 OM3 ⊢
              clear hx0 hx1 hx2 hx3 hx4 hy0 hy1 hy2 hy3 hy4 fy0 fy1 fy2 fy3 fy4 BK2 HB2 BKD OM2 HB BK OM
              have z4 : w3.cell? ⟨g2, 4, none⟩ = some (.slice A4 q4.length c4) := (blk_cell BK3.out 4).trans rfl
              go_wp2
              go_loopg [88] q4.length (fun kx s88 wr => ∃ i : Nat, s88 = .int .i64 i ∧ i ≤ q4.length ∧ q4.length - i ≤ kx ∧ Aside0 (SetOK root ns (kidsTo ns j ++ q4.take i)) ∧ Aside0 (IsSet wr gm (12 * j + i) (kidsTo ns j ++ q4.take i)) ∧ Aside0 (Below w.heap.size w wr) ∧ Aside0 (wr.heap[g]? = some (.cells #[.int .i64 root, .int .i64 next, .slice (some ad) ns.length c] 30 (0, 0))))
              case atStart => exact ⟨0, rfl, Nat.zero_le _, by omega, ⟨by simpa using SK.out⟩, ⟨by simpa using OM3.out⟩, ⟨HB3.out⟩, ⟨BKE.out⟩⟩
              case round =>
                clear OM3 HB3 BKE BK3 z4 SK
                obtain ⟨i, rfl, hil, hg, SK, OM, HB, BK⟩ := hrel
                by_cases hlt : i < q4.length
                · obtain ⟨ak, ek, hk0⟩ := Kd.at_int H4.out (i : Int) (by omega) (by omega)
                  cases ek
                  replace hk0 := (HB.out.cell (World.block_lt_of_cell? w _ hk0)).trans hk0
                  rw [Int.toNat_natCast] at hk0
                  have hrd : rd q4 (i : Int) = q4[i] := by unfold rd; rw [Int.toNat_natCast, List.getD_eq_getElem?_getD, List.getElem?_eq_getElem hlt]; rfl
                  rw [hrd] at hk0
                  have K1 := Lib.hid (K64.out q4[i] (List.getElem_mem hlt))
                  have TK := Lib.hid (show q4.take (i + 1) = q4.take i ++ [q4[i]] from by rw [List.take_add_one, List.getElem?_eq_getElem hlt]; rfl)
                  have SP := Lib.hid (SPL2.out i hlt)
                  have HK := Lib.hid (Maps.keyOf_int_mk Try.underlying3 (wf64 K1.out))
                  clear hrd
                  generalize q4[i] = kk at *
                  generalize hacc : kidsTo ns j ++ q4.take i = acc at *
                  have hcell0 : wr.cell? ⟨g, 0, none⟩ = some (.int .i64 root) := (blk_cell BK.out 0).trans rfl
                  have SA := Lib.hid (setD_at acc kk)
                  have HD := Lib.hid (show IsD wr g root next (some ad) c ns from ⟨BK.out, Kd.C_below HC.out HB.out, hc⟩)
                  by_cases e1 : kk ∈ acc
                  · have E1 := Lib.hid (show (setD acc).atKey (.int .i64 kk) (.lit (.bool false)) = .lit (.bool true) from by rw [SA.out, decide_eq_true e1])
                    have NB := Lib.hid (show ¬ DOK root next ns from fun h => by obtain ⟨rest, hr⟩ := SP.out; exact (set_bad (hr ▸ h.2.2.2.1)).1 e1)
                    go_wp2_with (first | (at_lookup; refine lookup_bool _ rfl _ _ 69 rfl 3 4 lawI Try.underlying69 Try.underlying4 (zeroB _) gm (12 * j + i) (setD acc) rfl OM.out _ _ rfl HK.out true E1.out ?_))
                    go_ret
                    exact ⟨⟨false, rfl, ⟨(fun h => by cases h), fun h => absurd h NB.out⟩⟩, HB.out⟩
                  · have E1 := Lib.hid (show (setD acc).atKey (.int .i64 kk) (.lit (.bool false)) = .lit (.bool false) from by rw [SA.out, decide_eq_false e1])
                    by_cases e2 : kk = root
                    · have E2 : (kk == root) = true := beq_iff_eq.mpr e2
                      have NB := Lib.hid (show ¬ DOK root next ns from fun h => by obtain ⟨rest, hr⟩ := SP.out; exact (set_bad (hr ▸ h.2.2.2.1)).2.1 e2)
                      clear e2
                      go_wp2_with (first | (at_lookup; refine lookup_bool _ rfl _ _ 69 rfl 3 4 lawI Try.underlying69 Try.underlying4 (zeroB _) gm (12 * j + i) (setD acc) rfl OM.out _ _ rfl HK.out false E1.out ?_))
                      go_ret
                      exact ⟨⟨false, rfl, ⟨(fun h => by cases h), fun h => absurd h NB.out⟩⟩, HB.out⟩
                    · have E2 : (kk == root) = false := beq_eq_false_iff_ne.mpr e2
                      obtain ⟨hb, hhb⟩ : ∃ hb, hasP ns kk = hb := ⟨_, rfl⟩
                      have HHB := Lib.hid hhb
                      have NE2 := Lib.hid e2
                      have E3 := Lib.hid e1
                      clear e2 hhb e1
                      go_wp2_with (first | (at_lookup; refine lookup_bool _ rfl _ _ 69 rfl 3 4 lawI Try.underlying69 Try.underlying4 (zeroB _) gm (12 * j + i) (setD acc) rfl OM.out _ _ rfl HK.out false E1.out ?_))
                      refine (has_calls g root next (some ad) c ns kk wr HD.out HGD.out K1.out).mono ?_
                      rw [HHB.out]
                      rintro e w4 ⟨rfl, hb4⟩
                      have HB4 := Lib.hid (below_step HB.out hb4)
                      have BK4 := Lib.hid (blk_below BK.out hb4)
                      have OM4 := Lib.hid (OM.out.below hb4)
                      clear hb4 hcell0
                      cases hb with
                      | false =>
                        have NB := Lib.hid (show ¬ DOK root next ns from fun h => by obtain ⟨rest, hr⟩ := SP.out; exact absurd (set_bad (hr ▸ h.2.2.2.1)).2.2 (by rw [HHB.out]; decide))
                        go_wp2
                        go_ret
                        exact ⟨⟨false, rfl, ⟨(fun h => by cases h), fun h => absurd h NB.out⟩⟩, HB4.out⟩
                      | true =>
                        have SK2 := Lib.hid (set_step SK.out E3.out NE2.out HHB.out)
                        have hroom : 12 * j + i < maxLen := by have := K12.out; unfold maxLen; omega
                        have HROOM := Lib.hid hroom
                        clear hroom
                        go_wp2_with (first | (at_mapUpdate; refine wpList_mapUpdate_own _ rfl _ _ _ 69 rfl 3 4 lawI Try.underlying69 _ gm (12 * j + i) (setD acc) rfl OM4.out HROOM.out _ _ (.int .i64 kk) rfl rfl HK.out (.lit (.bool true)) [] (plainElem_bool Try.underlying4 true) ?_; intro w5 om5 hg5; have OM5 := Lib.hid (show IsSet w5 gm (12 * j + i + 1) (acc ++ [kk]) from by unfold IsSet; rw [setD_snoc]; exact om5); have HB5 := Lib.hid (HB4.out.grown hg5 HB4.out.size (fun q hq => by cases hq; exact GMW.out)); have BK5 := Lib.hid (blk_grown BK4.out hg5 (fun e => GNM.out (Option.some.inj e))); clear om5 hg5))
                        --<L2
                        have hil2 := w64_nat (i := i) (Nat.le_trans (Nat.le_of_lt hlt) (Nat.le_trans K12.out (by decide)))
                        go_roundg (q4.length - (i + 1))
                        case measure => exact Nat.lt_of_lt_of_le (Nat.sub_succ_lt_self _ _ hlt) hg
                        case rel => exact ⟨i + 1, by rw [hil2], hlt, Nat.le_refl _, ⟨by rw [TK.out, ← List.append_assoc, hacc]; exact SK2.out⟩, ⟨by rw [TK.out, ← List.append_assoc, hacc]; exact OM5.out⟩, ⟨HB5.out⟩, ⟨BK5.out⟩⟩
                        --L2>
                · obtain rfl : i = q4.length := by omega
                  rw [List.take_length, ← KS.out] at SK OM
                  --<L3
                  have hjl2 := w64_nat (i := j) (Nat.le_trans (Nat.le_of_lt hjt) HGD.out.1)
                  go_wp2
                  go_roundg (ns.length - (j + 1))
                  case measure => exact Nat.lt_of_lt_of_le (Nat.sub_succ_lt_self _ _ hjt) hgj
                  case rel => exact ⟨j + 1, by rw [hjl2], hjt, Nat.le_refl _, SK, ⟨World.ownsMap.mono OM.out (by rw [Nat.mul_succ]; exact Nat.add_le_add_left K12.out _)⟩, HB, BK⟩
                  --L3>
            · obtain rfl : j = ns.length := by omega
              rw [kidsTo_all] at SK OM
              --<L4
              have KI := Lib.hid (show KidsIn ns from fun t ht => ⟨(SO.out t ht).1.2.2.2.2, fun k hk => ⟨(SK.out.2 k (List.mem_flatMap.2 ⟨_, List.getElem_mem ht, by rw [← rdN_get ht]; exact hk⟩)).2, H64.out.2 t ht k hk⟩⟩)
              have HS := Lib.hid (show Maps.size (setD (kidsAll ns)) = (kidsAll ns).length from setD_size _ SK.out.1)
              have z0 : wr.cell? ⟨g, 0, none⟩ = some (.int .i64 root) := (blk_cell BK.out 0).trans rfl
              obtain ⟨hb, hhb⟩ : ∃ hb, hasP ns root = hb := ⟨_, rfl⟩
              have HHB := Lib.hid hhb
              have HD := Lib.hid (show IsD wr g root next A c ns from ⟨BK.out, Kd.C_below HC.out HB.out, hc⟩)
              have HCA := Lib.hid ca
              have HCB := Lib.hid cb
              have HNW := Lib.hid (show wrap64 ((ns.length : Int) - 1) = (ns.length : Int) - 1 from by clear hnx hnx2; unfold wrap64; omega)
              clear hhb ca cb hnx hnx2 hil hg hjl hgj hjt
              go_wp2_with fail
              refine (has_calls g root next A c ns root wr HD.out HGD.out H64.out.1).mono ?_
              rw [HHB.out]
              rintro e w4 ⟨rfl, hb4⟩
              have HB4 := Lib.hid (below_step HB.out hb4)
              have BK4 := Lib.hid (blk_below BK.out hb4)
              have OM4 := Lib.hid (OM.out.below hb4)
              clear hb4 z0 BK OM HB HD
              cases hb with
              | false =>
                have NB := Lib.hid (show ¬ DOK root next ns from fun h => absurd h.2.2.2.2.1.1 (by rw [HHB.out]; decide))
                go_wp2
                go_ret
                exact ⟨⟨false, rfl, ⟨(fun h => by cases h), fun h => absurd h NB.out⟩⟩, HB4.out⟩
              | true =>
                obtain ⟨kz, hkz⟩ : ∃ kz : Int, ((kidsAll ns).length : Int) = kz := ⟨_, rfl⟩
                have hlen : (Builtin.len_ #[69] 3 #[.map (some gm)]).run Try.prog w4 = .ok (.int .i64 kz) w4 := by
                  have := World.ownsMap.len OM4.out Try.underlying69 3
                  rwa [HS.out, hkz] at this
                have z2 : w4.cell? ⟨g, 2, none⟩ = some (.slice A ns.length c) := (blk_cell BK4.out 2).trans rfl
                have hnw := HNW.out
                by_cases e5 : kz = (ns.length : Int) - 1
                · have E5 : (kz == (ns.length : Int) - 1) = true := beq_iff_eq.mpr e5
                  have E5b : (kz != (ns.length : Int) - 1) = false := bne_eq_false_iff_eq.mpr e5
                  have HKZ := Lib.hid (show (kidsAll ns).length + 1 = ns.length by omega)
                  have HDW := Lib.hid (show IsD w4 g root next A c ns from ⟨BK4.out, Kd.C_below HC.out HB4.out, hc⟩)
                  obtain ⟨bd, hbd⟩ : ∃ bd, decide (depP ns 7 root > 6) = bd := ⟨_, rfl⟩
                  have HBD := Lib.hid hbd
                  clear hkz e5 hbd
                  go_wp2_with fail
                  refine (isDeep_calls g root next A c ns HGD.out KI.out w4 HHB.out H64.out.1 HDW.out).mono ?_
                  rw [HBD.out]
                  rintro e w6 ⟨rfl, hb6⟩
                  have HB6 := Lib.hid (below_step HB4.out hb6)
                  have BK6 := Lib.hid (blk_below BK4.out hb6)
                  clear hb6 z2 hlen HB4 BK4 OM4 HDW hnw
                  cases bd with
                  | true =>
                    have NB := Lib.hid (show ¬ DOK root next ns from fun h => by have h1 := h.2.2.2.2.1.2.2; have h2 := of_decide_eq_true HBD.out; exact absurd h1 (Int.not_le.2 h2))
                    go_wp2
                    go_ret
                    exact ⟨⟨false, rfl, ⟨(fun h => by cases h), fun h => absurd h NB.out⟩⟩, HB6.out⟩
                  | false =>
                    have DL := Lib.hid (show depP ns 7 root ≤ 6 from Int.not_lt.1 (of_decide_eq_false HBD.out))
                    have FT := Lib.hid (depP_fits 6 root DL.out)
                    obtain ⟨os, hos⟩ : ∃ os, ordP ns 6 root = os := ⟨_, rfl⟩
                    have HOS := Lib.hid hos
                    have hoc := order_calls g root next A c ns HGD.out KI.out w HC.out hc 6 root (.slice none 0 0) [] w6.drew FT.out HHB.out H64.out.1 (below_drew1 HB6.out) (blk_drew BK6.out) (Kd.R_nil _ _ _ _ _) (by decide)
                    rw [hos, List.nil_append] at hoc
                    have HOC := Lib.hid hoc
                    clear hos hoc
                    have z0 : w6.cell? ⟨g, 0, none⟩ = some (.int .i64 root) := (blk_cell BK6.out 0).trans rfl
                    have z2 : w6.cell? ⟨g, 2, none⟩ = some (.slice A ns.length c) := (blk_cell BK6.out 2).trans rfl
                    obtain ⟨bq, hbq⟩ : ∃ bq, ((os.length : Int) == (ns.length : Int)) = bq := ⟨_, rfl⟩
                    go_upto_region 23 with fail
                    refine start_ (n := 9) (S := fun w' => w'.cell? ⟨g, 0, none⟩ = some (.int .i64 root) ∧ w'.cell? ⟨g, 2, none⟩ = some (.slice A ns.length c)) (ds := []) #[false, false, false, false, false, false, false, false, false] (by kernel_rfl) rfl rfl ⟨z0, z2⟩ (fun hHeld => ?_)
                    refine pure_ (i := 0) (N := some 126) (v := ?_) (a' := ?_) #[true, false, false, false, false, false, false, false, false] rfl rfl (by kernel_rfl) (fun _ _ _ h => h) (Or.inl ⟨by rfl, ?_⟩) ?_ ?_
                    rotate_left
                    · intro w'
                      go_simp
                      with_reducible rfl
                    rotate_left
                    · simp only [Act.put, List.setIfInBounds_toArray, List.set_cons_zero, List.set_cons_succ, i64_w, i32_w]
                      rfl
                    refine pure_ (i := 4) (N := some 130) (v := ?_) (a' := ?_) #[true, false, false, false, true, false, false, false, false] rfl rfl (by kernel_rfl) (fun _ _ _ h => h) (Or.inl ⟨by rfl, ?_⟩) ?_ ?_
                    rotate_left
                    · intro w'
                      go_simp
                      with_reducible rfl
                    rotate_left
                    · simp only [Act.put, List.setIfInBounds_toArray, List.set_cons_zero, List.set_cons_succ, i64_w, i32_w]
                      rfl
                    refine take_ (i := 1) (N := some 127) (v := ?_) (a' := ?_) #[true, true, false, false, true, false, false, false, false] rfl rfl (by kernel_rfl) (fun _ _ _ h => h) (Or.inl ⟨by rfl, ?_⟩) hHeld ?_ ?_
                    rotate_left
                    · rintro w' ⟨s0, s1⟩
                      go_simp
                      with_reducible rfl
                    rotate_left
                    · simp only [Act.put, List.setIfInBounds_toArray, List.set_cons_zero, List.set_cons_succ, i64_w, i32_w]
                      rfl
                    refine take_ (i := 5) (N := some 131) (v := ?_) (a' := ?_) #[true, true, false, false, true, true, false, false, false] rfl rfl (by kernel_rfl) (fun _ _ _ h => h) (Or.inl ⟨by rfl, ?_⟩) hHeld ?_ ?_
                    rotate_left
                    · rintro w' ⟨s0, s1⟩
                      go_simp
                      with_reducible rfl
                    rotate_left
                    · simp only [Act.put, List.setIfInBounds_toArray, List.set_cons_zero, List.set_cons_succ, i64_w, i32_w]
                      rfl
                    refine pure_ (i := 6) (N := some 132) (v := ?_) (a' := ?_) #[true, true, false, false, true, true, true, false, false] rfl rfl (by kernel_rfl) (fun _ _ _ h => h) (Or.inl ⟨by rfl, ?_⟩) ?_ ?_
                    rotate_left
                    · intro w'
                      go_simp
                      with_reducible rfl
                    rotate_left
                    · simp only [Act.put, List.setIfInBounds_toArray, List.set_cons_zero, List.set_cons_succ, i64_w, i32_w]
                      rfl
                    refine one_ (i := 2) (N := some 128) #[true, true, true, false, true, true, true, false, false] rfl rfl (by kernel_rfl) (by decide) (fun K hK => ?_)
                    refine goes_ Try.func41 (by kernel_rfl) rfl #[.pointer (some ⟨g, 0, none⟩), .slice none 0 0, .int .i64 root] (by rfl) rfl rfl (by simp only [List.map_toArray, List.map_cons, List.map_nil]; rfl) ?_
                    with_reducible refine (HOC.out).mono ?_
                    rintro e w8 ⟨v8, rfl, hr8, hb8, hk8⟩
                    refine ⟨_, rfl, ?_⟩
                    obtain ⟨A8, c8, rfl⟩ := Kd.R_slice hr8
                    refine hK.out _ _ ⟨(blk_cell hk8 0).trans rfl, (blk_cell hk8 2).trans rfl⟩ (fun hHeld => ?_)
                    clear hK K
                    refine norm_ (a' := ?_) ?_ ?_
                    rotate_left
                    · show Act.put _ (some 128) _ = _
                      simp only [Act.put, List.setIfInBounds_toArray, List.set_cons_zero, List.set_cons_succ, i64_w, i32_w]
                      rfl
                    refine pure_ (i := 3) (N := some 129) (v := ?_) (a' := ?_) #[true, true, true, true, true, true, true, false, false] rfl rfl (by kernel_rfl) (fun _ _ _ h => h) (Or.inl ⟨by rfl, ?_⟩) ?_ ?_
                    rotate_left
                    · intro w'
                      go_simp
                      with_reducible rfl
                    rotate_left
                    · simp only [Act.put, List.setIfInBounds_toArray, List.set_cons_zero, List.set_cons_succ, i64_w, i32_w]
                      rfl
                    refine pure_ (i := 7) (N := some 133) (v := ?_) (a' := ?_) #[true, true, true, true, true, true, true, true, false] rfl rfl (by kernel_rfl) (fun _ _ _ h => h) (Or.inl ⟨by rfl, ?_⟩) ?_ ?_
                    rotate_left
                    · intro w'
                      go_simp
                      with_reducible rfl
                    rotate_left
                    · simp only [Act.put, List.setIfInBounds_toArray, List.set_cons_zero, List.set_cons_succ, i64_w, i32_w]
                      rfl
                    refine pure_ (i := 8) (N := some 2) (v := ?_) (a' := ?_) #[true, true, true, true, true, true, true, true, true] rfl rfl (by kernel_rfl) (fun _ _ _ h => h) (Or.inl ⟨by rfl, ?_⟩) ?_ ?_
                    rotate_left
                    · intro w'
                      go_simp
                      with_reducible rfl
                    rotate_left
                    · simp only [Act.put, List.setIfInBounds_toArray, List.set_cons_zero, List.set_cons_succ, i64_w, i32_w]
                      rfl
                    refine done_ (by kernel_rfl) ?_
                    
                    have HB8 := Lib.hid hb8
                    have HBQ := Lib.hid (show Bk bq (DOK root next ns) from ⟨fun h => ⟨⟨by have := HCA.out; omega, by have := HCA.out; omega⟩, HCB.out, SO.out, SK.out, ⟨HHB.out, HKZ.out, DL.out⟩, by rw [HOS.out]; have := hbq.trans h; exact Int.ofNat.inj (beq_iff_eq.1 this)⟩, fun h => by rw [← hbq]; exact beq_iff_eq.2 (by rw [← HOS.out, h.2.2.2.2.2])⟩)
                    go_wp2
                    go_ret
                    exact ⟨⟨bq, by first | rfl | simp [hbq], HBQ.out⟩, HB8.out⟩
                · have E5 : (kz == (ns.length : Int) - 1) = false := beq_eq_false_iff_ne.mpr e5
                  have E5b : (kz != (ns.length : Int) - 1) = true := bne_iff_ne.mpr e5
                  have NB := Lib.hid (show ¬ DOK root next ns from fun h => e5 (by have := h.2.2.2.2.1.2.1; omega))
                  clear e5
                  go_wp2
                  go_ret
                  exact ⟨⟨false, rfl, ⟨(fun h => by cases h), fun h => absurd h NB.out⟩⟩, HB4.out⟩
              --L4>
    · go_enter Try.func20, Try.ntmps20
      go_wp2_with (first | ((with_reducible refine gate_dst (N := 1) rfl ?_); refine box_event ?hg (N := 1) ?hd (cs := #[.int .i64 root, .int .i64 next, .slice A ns.length c]) (t := 30) ?hr ?_; (case hd => rfl); (case hg => rfl); (case hr => first | (go_simp; done) | (go_simp; rfl)); intro g hg w1 hb1 hB1; clear hg; have HB := Lib.hid hB1; have hz1 : w1.cell? ⟨g, 1, none⟩ = some (.int .i64 next) := (blk_cell hb1 1).trans rfl; have hz2 : w1.cell? ⟨g, 2, none⟩ = some (.slice A ns.length c) := (blk_cell hb1 2).trans rfl; clear hb1 hB1))
      refine (within_c _ _ _ _ (r := true) (decide_eq_true ca)).mono ?_
      rintro e w2 ⟨rfl, nd, rfl⟩
      go_wp2_with fail
      refine (within_c _ _ _ _ (r := false) (decide_eq_false cb)).mono ?_
      rintro e w2 ⟨rfl, nd2, rfl⟩
      go_wp2
      go_ret
      exact ⟨⟨false, rfl, ⟨(fun h => by cases h), fun h => absurd h.2.1 cb⟩⟩, pw_below_drewN HB.out _⟩
  · go_enter Try.func20, Try.ntmps20
    go_wp2_with (first | ((with_reducible refine gate_dst (N := 1) rfl ?_); refine box_event ?hg (N := 1) ?hd (cs := #[.int .i64 root, .int .i64 next, .slice A ns.length c]) (t := 30) ?hr ?_; (case hd => rfl); (case hg => rfl); (case hr => first | (go_simp; done) | (go_simp; rfl)); intro g hg w1 hb1 hB1; clear hg; have HB := Lib.hid hB1; have hz2 : w1.cell? ⟨g, 2, none⟩ = some (.slice A ns.length c) := (blk_cell hb1 2).trans rfl; clear hb1 hB1))
    refine (within_c _ _ _ _ (r := false) (decide_eq_false ca)).mono ?_
    rintro e w2 ⟨rfl, nd, rfl⟩
    go_wp2
    go_ret
    exact ⟨⟨false, rfl, ⟨(fun h => by cases h), fun h => absurd h.1 (by omega)⟩⟩, pw_below_drewN HB.out _⟩
end Go.Proofs.Ythoeiiecmmagnaa.H
set_option linter.unusedVariables false
namespace Go.Proofs.Ythoeiiecmmagnaa.H
open Go.RowKit Go.Proofs.YthoeiiecmmagnaaW.PrintWords Go.Proofs.YthoeiiecmmagnaaW.PrintLast Go.Proofs.Ythoeiiecmmagnaa.Q
noncomputable def docB (root next : Int) (ns : List Nd) : Bool := @decide (DOK root next ns) (Classical.propDecidable _)
theorem docB_iff {root next : Int} {ns : List Nd} : docB root next ns = true ↔ DOK root next ns := by unfold docB; exact @decide_eq_true_iff _ (Classical.propDecidable _)
noncomputable def impl_DocOK.f (a0_0 : Int) (a0_1 : Int) (l0_2 : List (S67)) : Option Bool := @ite _ (All64 a0_0 l0_2) (Classical.propDecidable _) (some (docB a0_0 a0_1 l0_2)) none
theorem impl_DocOK.calls (a0_0 : Int) (a0_1 : Int) (A0_2 : Option Addr) (c0_2 : Nat) (l0_2 : List (S67)) (r : Bool) (w : World) (hr0_2 : Kd.C k67 w A0_2 l0_2.length l0_2) (hc0_2 : l0_2.length ≤ c0_2) (h : impl_DocOK.f a0_0 a0_1 l0_2 = some r) :
    Calls Try.prog 20 #[.agg #[.int .i64 a0_0, .int .i64 a0_1, .slice A0_2 l0_2.length c0_2]] w fun e w' => e = .returned (.bool r) ∧ Below w.heap.size w w' := by
  unfold impl_DocOK.f at h
  by_cases c : All64 a0_0 l0_2
  · rw [if_pos c] at h
    obtain rfl := Option.some.inj h
    refine (docOK_calls a0_0 a0_1 A0_2 c0_2 l0_2 w hr0_2 hc0_2 c).mono ?_
    rintro e w' ⟨⟨b, rfl, hb⟩, hB⟩
    refine ⟨?_, hB⟩
    have e1 : docB a0_0 a0_1 l0_2 = b := Bool.eq_iff_iff.2 (docB_iff.trans hb.symm)
    rw [e1]
  · rw [if_neg c] at h; cases h
end Go.Proofs.Ythoeiiecmmagnaa.H
set_option linter.unusedVariables false
set_option linter.unusedSimpArgs false
namespace Go.Proofs.Ythoeiiecmmagnaa.H
open Go.RowKit Go.Proofs.YthoeiiecmmagnaaW.PrintWords Go.Proofs.YthoeiiecmmagnaaW.PrintLast
structure Kp (w w' : World) : Prop where
  size : w.heap.size ≤ w'.heap.size
  blk : ∀ (i : Nat) (cs : Array Value) (q : TypeId) (fr : Nat × Nat), w.heap[i]? = some (Obj.cells cs q fr) → q ≠ 53 → q ≠ 5 → w'.heap[i]? = w.heap[i]?
theorem Kp.refl (w : World) : Kp w w := ⟨Nat.le_refl _, fun _ _ _ _ _ _ _ => rfl⟩
theorem Kp.trans {w w1 w2 : World} (h : Kp w w1) (k : Kp w1 w2) : Kp w w2 :=
  ⟨Nat.le_trans h.size k.size, fun i cs q fr hi h1 h2 => (k.blk i cs q fr ((h.blk i cs q fr hi h1 h2).trans hi) h1 h2).trans (h.blk i cs q fr hi h1 h2)⟩
theorem Kp.below {w w' : World} (h : Below w.heap.size w w') : Kp w w' :=
  ⟨h.size, fun i cs q fr hi _ _ => h.block i (by rcases Nat.lt_or_ge i w.heap.size with h' | h'; exact h'; simp [Array.getElem?_eq_none h'] at hi)⟩
theorem Kp.grown {w w1 : World} {row : Option Nat} (h : w.grownBy w1 row) (hr : ∀ k, row = some k → ∃ (cs : Array Value) (fr : Nat × Nat), w.heap[k]? = some (Obj.cells cs 5 fr)) : Kp w w1 :=
  ⟨h.size, fun i cs q fr hi h1 h2 => h.block i (by rcases Nat.lt_or_ge i w.heap.size with h' | h'; exact h'; simp [Array.getElem?_eq_none h'] at hi) (fun e => by
    obtain ⟨cs', fr', hk⟩ := hr i e.symm
    rw [hk] at hi
    injection hi with hi
    injection hi with _ hq _
    exact h2 hq.symm)⟩
theorem Kp.setCell {w : World} {b : Nat} {cs : Array Value} {fr : Nat × Nat} (hb : w.heap[b]? = some (.cells cs 53 fr)) (j : Nat) (u : Value) : Kp w (w.setCell ⟨b, j, none⟩ u) :=
  ⟨by simp [World.setCell], fun i cs' q fr' hi h1 h2 => Below.heap_setCell w ⟨b, j, none⟩ u i (fun e => by
    have e : i = b := e
    subst e
    rw [hb] at hi
    injection hi with hi
    injection hi with _ hq _
    exact h1 hq.symm)⟩
set_option maxHeartbeats 1000000 in
theorem copyCheckK (B b : Nat) (bs : List Value) (w : World) (h : Lib.IsBuilder 53 5 B b bs w) :
    Calls Try.prog 59 #[.pointer (some ⟨b, 0, none⟩)] w fun e w' => e = .returned (.tuple #[]) ∧ (Lib.BuilderAt 53 5 B b (.pointer (some ⟨b, 0, none⟩)) bs w' ∧ Below B w w') ∧ Kp w w' := by
  rcases h with h | h
  · refine (copyCheck_fresh isW b w h.cell0 h.shape h.frozen0).mono ?_
    rintro e w' ⟨rfl, rfl⟩
    obtain ⟨hB, v, hbk, _⟩ := h
    exact ⟨rfl, ⟨Lib.BuilderAt.used ⟨hB, v, hbk, ‹_›⟩ _, (Below.refl B w).setCell (p := ⟨b, 0, none⟩) hB _⟩, Kp.setCell hbk 0 _⟩
  · refine (copyCheck_used b w h.cell0).mono ?_
    rintro e w' ⟨rfl, rfl⟩
    exact ⟨rfl, ⟨h, Below.refl B _⟩, Kp.refl _⟩
set_option maxHeartbeats 2000000 in
set_option maxRecDepth 100000 in
theorem writeStringK (B b : Nat) (bs : List Value) (s : ByteArray) (w : World) (h : Lib.IsBuilder 53 5 B b bs w) (hlen : bs.length + s.size ≤ 140737488355328) (hBw : B ≤ w.heap.size) :
    Calls Try.prog 43 #[.pointer (some ⟨b, 0, none⟩), .string s] w fun e w' => e = .returned (.tuple #[.int .i64 s.size, .nilIface]) ∧ (Lib.IsBuilder 53 5 B b (bs ++ Lib.strCells s) w' ∧ Below B w w') ∧ Kp w w' := by
  obtain ⟨i0, hi, hz0, hz1, hz2⟩ := info_parts infoByte
  have hcc := copyCheckK B b bs w h
  go_enter Try.func43, Try.ntmps43
  go_wp2_with (go_at_call 59; refine hcc.mono ?_)
  rintro e w1 ⟨rfl, ⟨h1, hb1⟩, hk1⟩
  obtain ⟨hB, v, hbk, hown, hne⟩ := h1
  have c0 : w1.cell? ⟨b, 0, none⟩ = some (.pointer (some ⟨b, 0, none⟩)) := by rw [Lib.cell_of_heap hbk]; rfl
  have c1 : w1.cell? ⟨b, 1, none⟩ = some v := by rw [Lib.cell_of_heap hbk]; rfl
  go_wp2_with (at_builtin; refine Lib.wpList_append_own_string _ rfl _ _ 49 9 rfl B 5 i0 Try.underlying49 Try.underlying9 hi hz0 hz1 hz2 _ _ _ rfl hown s rfl ?c3 ?c4 ?c5 ?_)
  case c3 => unfold maxLen; omega
  case c4 => omega
  case c5 => have := hb1.size; omega
  intro v' w2 hown' hgrow _
  have hlt : b < w1.heap.size := by
    rcases Nat.lt_or_ge b w1.heap.size with h' | h'
    · exact h'
    · simp [Array.getElem?_eq_none h'] at hbk
  have hb2 : w2.heap[b]? = some (.cells #[.pointer (some ⟨b, 0, none⟩), v] 53 (0, 0)) := by
    rw [hgrow.block b hlt (fun e => hne e.symm)]
    exact hbk
  have d0 : w2.cell? ⟨b, 0, none⟩ = some (.pointer (some ⟨b, 0, none⟩)) := by rw [Lib.cell_of_heap hb2]; rfl
  have d1 : w2.cell? ⟨b, 1, none⟩ = some v := by rw [Lib.cell_of_heap hb2]; rfl
  have f1 : w2.frozen? ⟨b, 1, none⟩ = false := Lib.frozen_of_heap hb2 1
  have hkk : Kp w w2 := hk1.trans (Kp.grown hgrow (fun k hk => by obtain ⟨cells, hc⟩ := own_typed hown k hk; exact ⟨_, _, hc⟩))
  obtain ⟨ao, n', cap, rfl⟩ : ∃ ao n' cap, v' = .slice ao n' cap := by
    rcases hown'.2 with ⟨hv, _⟩ | ⟨g, cap, cur, hv, _⟩
    · exact ⟨_, _, _, hv⟩
    · exact ⟨_, _, _, hv⟩
  go_wp2
  go_ret2
  refine ⟨rfl, ⟨.inr ?_, ?_⟩, hkk.trans (Kp.setCell hb2 1 _)⟩
  · exact Lib.BuilderAt.put (T := 53) (e := 5) hB hb2 (bs' := bs ++ Lib.strCells s) (by simpa [Lib.strCells_length] using hown') isW.2
  · exact (hb1.grown hgrow (by have := hb1.size; omega) (fun k hk => (hown.lt k hk).1)).setCell (p := ⟨b, 1, none⟩) hB _
def IsW (w : World) (B g : Nat) (l : List Int) : Prop := Lib.IsBuilder 53 5 B g (nums .u8 l) w
def numsL (xs : List Int) : List Int := xs.flatMap putL
theorem numsL_len (xs : List Int) : (numsL xs).length ≤ 3 * xs.length := by
  induction xs with
  | nil => simp [numsL]
  | cons x xs ih => have := putL_len x; unfold numsL at ih ⊢; rw [List.flatMap_cons, List.length_append, List.length_cons]; omega
theorem numsL_range {xs : List Int} (h : ∀ x ∈ xs, x < 2097152) : ∀ x ∈ numsL xs, 0 ≤ x ∧ x ≤ 255 := fun x hx => by
  obtain ⟨b, hb, hx⟩ := List.mem_flatMap.1 hx
  exact putL_range (h b hb) x hx
theorem strOfNums_len (xs : List Int) : (strOfNums xs).size = xs.length := by simp [strOfNums, ByteArray.size]
theorem strCells_nums (l : List Int) (h : ∀ x ∈ l, 0 ≤ x ∧ x ≤ 255) : Lib.strCells (strOfNums l) = nums .u8 l := by
  rw [nums_cells l h]; rfl
theorem IsW.mono {w w' : World} {B g : Nat} {l : List Int} (h : IsW w B g l) (hb : w'.heap[g]? = w.heap[g]?) (hr : ∀ (k : Nat) (cs : Array Value) (fr : Nat × Nat), w.heap[k]? = some (Obj.cells cs 5 fr) → w'.heap[k]? = w.heap[k]?) : IsW w' B g l := by
  rcases h with ⟨h0, v, h1, h2, h3⟩ | ⟨h0, v, h1, h2, h3⟩
  · exact .inl ⟨h0, v, hb.trans h1, own_move h2 (fun k hk => by obtain ⟨cs, hc⟩ := own_typed h2 k hk; exact hr k cs _ hc), h3⟩
  · exact .inr ⟨h0, v, hb.trans h1, own_move h2 (fun k hk => by obtain ⟨cs, hc⟩ := own_typed h2 k hk; exact hr k cs _ hc), h3⟩
theorem IsW.lt {w : World} {B g : Nat} {l : List Int} (h : IsW w B g l) : g < w.heap.size := by
  rcases h with h | h
  · exact h.lt
  · exact h.lt
theorem IsW.below {w w' : World} {B g : Nat} {l : List Int} (h : IsW w B g l) (hb : Below w.heap.size w w') : IsW w' B g l :=
  h.mono (hb.block g h.lt) (fun k cs fr hk => hb.block k (by rcases Nat.lt_or_ge k w.heap.size with h' | h'; exact h'; simp [Array.getElem?_eq_none h'] at hk))
def NumsRel (w : World) (B g : Nat) (l xs : List Int) (n : Value) (wr : World) : Prop :=
  ∃ i : Int, n = .int .i64 i ∧ 0 ≤ i ∧ i ≤ xs.length ∧ IsW wr B g (l ++ numsL (xs.take i.toNat)) ∧ Below B w wr ∧ Kp w wr
set_option maxHeartbeats 2000000 in
set_option maxRecDepth 100000 in
theorem numbers (B g : Nat) (l xs : List Int) (A : Option Addr) (c : Nat) (w : World) (hW : IsW w B g l) (hB : B ≤ w.heap.size) (hS : ∀ w', Kp w w' → Below B w w' → Kd.C (Kd.int .i64) w' A xs.length xs) (hx : ∀ x ∈ xs, x < 2097152) (hl : l.length + 3 * xs.length ≤ 140737488355328) :
    Calls Try.prog 42 #[.pointer (some ⟨g, 0, none⟩), .slice A xs.length c] w fun e w' => e = .returned (.tuple #[]) ∧ IsW w' B g (l ++ numsL xs) ∧ Below B w w' ∧ Kp w w' := by
  have hS := Lib.hid hS
  have hx := Lib.hid hx
  go_enter Try.func42, Try.ntmps42
  go_wp2
  go_loopw [8] (fun n wr => NumsRel w B g l xs n wr) (fun n _ => ((xs.length : Int) - intOf n).toNat)
  case atStart => exact ⟨0, rfl, by omega, by omega, by simpa [numsL] using hW, Below.refl _ _, Kp.refl _⟩
  case round =>
    obtain ⟨i, rfl, h0, h1, hWi, hb, hk⟩ := hrel
    by_cases c : i < (xs.length : Int)
    · have cb : decide (i < (xs.length : Int)) = true := decide_eq_true c
      obtain ⟨ad, rfl, hc0⟩ := Kd.at_int (hS.out wr hk hb) i h0 c
      have hv : rd xs i < 2097152 := hx.out _ (by unfold rd; rw [List.getD_eq_getElem?_getD, List.getElem?_eq_getElem (by omega)]; exact List.getElem_mem _)
      have hf : impl_number.f (rd xs i) = some (strOfNums (putL (rd xs i))) := by unfold impl_number.f; rw [if_pos hv]
      have p1 : 0 ≤ i := h0
      replace p1 := eq_true p1
      replace c := eq_true c
      go_wp2_with fail
      refine start_ (n := 6) (S := fun w' => True) (ds := []) #[false, false, false, false, false, false] (by kernel_rfl) rfl rfl trivial (fun hHeld => ?_)
      refine pure_ (i := 0) (N := (some 12)) (v := ?_) (a' := ?_) #[true, false, false, false, false, false] rfl rfl (by kernel_rfl) (fun _ _ _ h => h) (Or.inl ⟨by rfl, ?_⟩) ?_ ?_
      rotate_left
      · intro w'
        go_simp
        with_reducible rfl
      rotate_left
      · simp only [Act.put, List.setIfInBounds_toArray, List.set_cons_zero, List.set_cons_succ, i64_w, i32_w]
        rfl
      refine pure_ (i := 1) (N := (some 13)) (v := ?_) (a' := ?_) #[true, true, false, false, false, false] rfl rfl (by kernel_rfl) (fun _ _ _ h => h) (Or.inl ⟨by rfl, ?_⟩) ?_ ?_
      rotate_left
      · intro w'
        go_simp
        with_reducible rfl
      rotate_left
      · simp only [Act.put, List.setIfInBounds_toArray, List.set_cons_zero, List.set_cons_succ, i64_w, i32_w]
        rfl
      refine pure_ (i := 2) (N := (some 14)) (v := ?_) (a' := ?_) #[true, true, true, false, false, false] rfl rfl (by kernel_rfl) (fun _ _ _ h => h) (Or.inl ⟨by rfl, ?_⟩) ?_ ?_
      rotate_left
      · intro w'
        go_simp
        with_reducible rfl
      rotate_left
      · simp only [Act.put, List.setIfInBounds_toArray, List.set_cons_zero, List.set_cons_succ, i64_w, i32_w]
        rfl
      refine pure_ (i := 3) (N := (some 15)) (v := ?_) (a' := ?_) #[true, true, true, true, false, false] rfl rfl (by kernel_rfl) (fun _ _ _ h => h) (Or.inl ⟨by rfl, ?_⟩) ?_ ?_
      rotate_left
      · intro w'
        go_simp
        with_reducible rfl
      rotate_left
      · simp only [Act.put, List.setIfInBounds_toArray, List.set_cons_zero, List.set_cons_succ, i64_w, i32_w]
        rfl
      refine one_ (i := 4) (N := (some 16)) #[true, true, true, true, true, false] rfl rfl (by kernel_rfl) (by decide) (fun K hK => ?_)
      refine goes_ Try.func58 (by kernel_rfl) rfl #[.int .i64 (rd xs i)] (by rfl) rfl rfl (by simp only [List.map_toArray, List.map_cons, List.map_nil]; rfl) ?_
      refine (impl_number.calls (rd xs i) _ _ hf).mono ?_
      rintro e w6 ⟨rfl, hb6⟩
      refine ⟨_, rfl, ?_⟩
      refine hK.out _ _ trivial (fun _ => ?_)
      clear hK K
      refine norm_ (a' := ?_) ?_ ?_
      rotate_left
      · show Act.put _ (some 16) _ = _
        simp only [Act.put, List.setIfInBounds_toArray, List.set_cons_zero, List.set_cons_succ, i64_w, i32_w]
        rfl
      refine one_ (i := 5) (N := (some 17)) #[true, true, true, true, true, true] rfl rfl (by kernel_rfl) (by decide) (fun K hK => ?_)
      refine goes_ Try.func43 (by kernel_rfl) rfl #[.pointer (some ⟨g, 0, none⟩), .string (strOfNums (putL (rd xs i)))] (by rfl) rfl rfl (by simp only [List.map_toArray, List.map_cons, List.map_nil]; rfl) ?_
      have clt := of_eq_true c
      have hW6 : IsW w6 B g (l ++ numsL (xs.take i.toNat)) := IsW.below (w := wr.drew) hWi hb6
      have hB6 : B ≤ w6.heap.size := Nat.le_trans hB (Nat.le_trans hb.size hb6.size)
      have hl6 : (nums .u8 (l ++ numsL (xs.take i.toNat))).length + (strOfNums (putL (rd xs i))).size ≤ 140737488355328 := by
        have h1 := numsL_len (xs.take i.toNat)
        have h2 := putL_len (rd xs i)
        rw [nums_length, List.length_append, strOfNums_len]
        rw [List.length_take] at h1
        omega
      refine (writeStringK B g _ _ _ hW6 hl6 hB6).mono ?_
      rintro e w7 ⟨rfl, ⟨hI7, hb7⟩, hk7⟩
      refine ⟨_, rfl, ?_⟩
      refine hK.out _ _ trivial (fun _ => ?_)
      clear hK K
      refine norm_ (a' := ?_) ?_ ?_
      rotate_left
      · show Act.put _ (some 17) _ = _
        simp only [Act.put, List.setIfInBounds_toArray, List.set_cons_zero, List.set_cons_succ, i64_w, i32_w]
        rfl
      refine done_ (by kernel_rfl) ?_
      have hW7 : IsW w7 B g (l ++ numsL (xs.take (i + 1).toNat)) := by
        have e : (i + 1).toNat = i.toNat + 1 := by omega
        have hr : rd xs i = xs[i.toNat]'(by omega) := by unfold rd; rw [List.getD_eq_getElem?_getD, List.getElem?_eq_getElem (by omega)]; rfl
        rw [strCells_nums _ (putL_range hv), ← nums_append, hr] at hI7
        rw [e, List.take_succ_eq_append_getElem (by omega)]
        unfold numsL
        rw [List.flatMap_append, List.flatMap_singleton, ← List.append_assoc]
        exact hI7
      have hb8 : Below B w w7 := (hb.trans (Below.mono (B := wr.heap.size) (w := wr) ⟨hb6.os, hb6.tape, hb6.output, hb6.size, hb6.block⟩ (Nat.le_trans hB hb.size))).trans hb7
      have hk8 : Kp w w7 := (hk.trans (show Kp wr w6 from ⟨(Kp.below hb6).size, (Kp.below hb6).blk⟩)).trans hk7
      go_wp2
      go_roundw
      case rel => exact ⟨i + 1, rfl, by omega, by omega, hW7, hb8, hk8⟩
      case measure => simp [intOf]; omega
    · have cb : decide (i < (xs.length : Int)) = false := decide_eq_false c
      have he : i.toNat = xs.length := by omega
      rw [he, List.take_length] at hWi
      go_wp2
      go_end0
      exact ⟨rfl, hWi, hb, hk⟩
theorem C_lit {w w' : World} {g : Nat} {xs : List Int} {fr : Nat × Nat} (hb : w'.heap[g]? = some (.cells (nums .i64 xs).toArray 3 fr)) (hl : xs.length ≤ 9223372036854775807) : Kd.C (Kd.int .i64) w' (some ⟨g, 0, none⟩) xs.length xs := by
  refine Kd.C_of_reads (d := (0 : Int)) (h1 := fun _ => rfl) ⟨rfl, hl, fun hn => ⟨_, rfl, fun j hj => ?_⟩⟩
  have : w'.cell? ((⟨g, 0, none⟩ : Addr).add j) = (nums .i64 xs).toArray[j]? := by
    cases j with
    | zero => simp [Addr.add, World.cell?, hb]
    | succ j => simp [Addr.add, World.cell?, hb]
  rw [this, List.getElem?_toArray, nums, List.getElem?_map, List.getElem?_eq_getElem hj, List.getD_eq_getElem?_getD, List.getElem?_eq_getElem hj]; rfl
theorem numbers_lit (B g : Nat) (l xs : List Int) (w : World) (hW : IsW w B g l) (hB : B ≤ w.heap.size) (hx : ∀ x ∈ xs, x < 2097152) (hl : l.length + 3 * xs.length ≤ 140737488355328) :
    Calls Try.prog 42 #[.pointer (some ⟨g, 0, none⟩), .slice (some ⟨w.heap.size, 0, none⟩) xs.length xs.length] (w.alloc (.cells (nums .i64 xs).toArray 3)) fun e w' => e = .returned (.tuple #[]) ∧ IsW w' B g (l ++ numsL xs) ∧ Below B w w' ∧ Kp w w' := by
  have hb0 : Below w.heap.size w (w.alloc (.cells (nums .i64 xs).toArray 3)) := (Below.refl _ _).alloc (Nat.le_refl _) _
  have hW1 : IsW (w.alloc (.cells (nums .i64 xs).toArray 3)) B g l := hW.below hb0
  have hn : (w.alloc (.cells (nums .i64 xs).toArray 3)).heap[w.heap.size]? = some (.cells (nums .i64 xs).toArray 3 (0, 0)) := heap_alloc_new _ _
  refine (numbers B g l xs _ _ _ hW1 (Nat.le_trans hB hb0.size) (fun w' hk _ => C_lit (w := w) ((hk.blk _ _ _ _ hn (by decide) (by decide)).trans hn) (by omega)) hx hl).mono ?_
  rintro e w' ⟨rfl, h1, h2, h3⟩
  exact ⟨rfl, h1, (hb0.mono hB).trans h2, (Kp.below hb0).trans h3⟩
theorem stringW (B g : Nat) (l : List Int) (w : World) (hW : IsW w B g l) (hl : ∀ x ∈ l, 0 ≤ x ∧ x ≤ 255) (h0 : l ≠ []) :
    Calls Try.prog 23 #[.pointer (some ⟨g, 0, none⟩)] w fun e w' => e = .returned (.string (strOfNums l)) ∧ Below B w w' := by
  unfold IsW at hW
  rw [nums_cells l hl] at hW
  refine (string_ isW B g _ w hW (by simpa using h0)).mono ?_
  rintro e w' ⟨rfl, h⟩
  exact ⟨rfl, h⟩
theorem writeW (B g : Nat) (l : List Int) (s : ByteArray) (w : World) (hW : IsW w B g l) (hlen : l.length + s.size ≤ 140737488355328) (hBw : B ≤ w.heap.size) :
    Calls Try.prog 43 #[.pointer (some ⟨g, 0, none⟩), .string s] w fun e w' => e = .returned (.tuple #[.int .i64 s.size, .nilIface]) ∧ IsW w' B g (l ++ bytesOf s) ∧ Below B w w' ∧ Kp w w' := by
  refine (writeStringK B g _ s w hW (by rw [nums_length]; exact hlen) hBw).mono ?_
  rintro e w' ⟨rfl, ⟨h1, h2⟩, h3⟩
  refine ⟨rfl, ?_, h2, h3⟩
  have e : nums .u8 l ++ Lib.strCells s = nums .u8 (l ++ bytesOf s) := by
    rw [nums_append]; congr 1; simp [nums, bytesOf, Lib.strCells]
  rw [e] at h1
  exact h1
theorem bytesOf_range (s : ByteArray) : ∀ x ∈ bytesOf s, 0 ≤ x ∧ x ≤ 255 := fun x hx => by
  simp [bytesOf] at hx
  obtain ⟨b, _, rfl⟩ := hx
  have := b.toNat_lt
  omega
theorem strOfNums_bytes (l : List Int) (s : ByteArray) : strOfNums (l ++ bytesOf s) = strOfNums l ++ s := by
  apply ByteArray.ext
  apply Array.ext'
  rw [ByteArray.data_append, Array.toList_append]
  simp only [strOfNums, bytesOf, List.map_append, List.map_map]
  congr 1
  rw [show ((fun n : Int => UInt8.ofNat n.toNat) ∘ fun b : UInt8 => (b.toNat : Int)) = id from by funext b; simp]
  simp
end Go.Proofs.Ythoeiiecmmagnaa.H
