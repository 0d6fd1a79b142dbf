/- Several of our texts, one behind the other, without what this claim does not need: RepT, PRplx1, PFnExactReplyTextx1, StmFnExactReplyText, DocP, DocQ, DocR, NumsP, DocL, PureFnExactReplyText. -/
import Derived.Test.YthoeiiecmmagnaaZf08aea7c
import Derived.Test.YthoeiiecmmagnaaProg
import Derived.Below
import Derived.Deep.Draws
import Derived.Deep.AppendLies
import Derived.Maps.AppendAt
import Derived.OwnWalk
import Derived.Laws.BytesArg
import Derived.Laws.MakeOwn
import Derived.Laws.OwnMore
import Derived.Deep.OwnRows
import Derived.Tactics
import Derived.Lib.ConvBytes
import Derived.Laws.Slices
import Derived.WalkKit
import Derived.KernelRfl
import Derived.RowKit3
import Derived.Deep.LoopGhost
import Derived.Deep.QuietTactic
import Derived.BigQuiet
import Derived.WideLaws
import Derived.Deep.DeepCutAuto
import Derived.Deep.CutBlock
import Derived.Deep.RegionHeld3
import Derived.Laws.Rows
import Derived.Lib.AppendStr
import Derived.ArgAppend
import Derived.Laws.IdiomCopy
import Derived.OrdersHeld
import Derived.Laws.BitsLemmas
import Derived.RowKit
import Derived.Test.YthoeiiecmmagnaaZ624a9349
import Derived.Test.YthoeiiecmmagnaaZ4c891c4b
import Derived.Test.YthoeiiecmmagnaaZ54cd915e
import Derived.Test.YthoeiiecmmagnaaZ4287a6a1
import Derived.Test.YthoeiiecmmagnaaZcbb9a872
import Derived.Test.YthoeiiecmmagnaaZb002f17a
import Derived.Test.YthoeiiecmmagnaaZ48e0c7d0
import Derived.Test.YthoeiiecmmagnaaZed5c9d57
import Derived.Test.YthoeiiecmmagnaaZa820dec1
import Derived.Test.YthoeiiecmmagnaaZc2d0c044
import Derived.Test.YthoeiiecmmagnaaZc9b746d0
import Derived.Test.YthoeiiecmmagnaaZ0d6200c3
import Derived.Laws.StructEq
import Derived.Test.YthoeiiecmmagnaaZba9a7e11
import Derived.Test.YthoeiiecmmagnaaZ36ec4955
import Derived.Test.YthoeiiecmmagnaaZa6c238a5
import Derived.Test.YthoeiiecmmagnaaZ672500a2
set_option linter.unusedVariables false
set_option linter.unusedSimpArgs false
namespace Go.Proofs.Ythoeiiecmmagnaa.H
open Go.RowKit Go.Proofs.YthoeiiecmmagnaaW.PrintWords Go.Proofs.YthoeiiecmmagnaaW.PrintLast Go.Proofs.Ythoeiiecmmagnaa.Q
def replyL (code n root next : Int) (ns : List Nd) : List Int := if (ns.length : Int) > 0 then numsL [code, n] ++ docL root next ns else numsL [code, n]
noncomputable def impl_replyText.f (k : Nat) (a0_0 : Int) (a0_1 : Int) (a0_2 : Int) (a0_3 : Int) (l0_4 : List (S67)) : Option ByteArray :=
  @ite _ ((a0_0 < 2097152 ∧ a0_1 < 2097152) ∧ ((l0_4.length : Int) > 0 → DocW a0_2 a0_3 l0_4)) (Classical.propDecidable _) (impl_frame.f k (strOfNums (replyL a0_0 a0_1 a0_2 a0_3 l0_4))) none
theorem impl_replyText.mono : ∀ a0 a1 a2 a3 a4 k, LeO (impl_replyText.f k a0 a1 a2 a3 a4) (impl_replyText.f (k + 1) a0 a1 a2 a3 a4) := by
  intro a0 a1 a2 a3 a4 k
  unfold impl_replyText.f
  by_cases c : (a0 < 2097152 ∧ a1 < 2097152) ∧ ((a4.length : Int) > 0 → DocW a2 a3 a4)
  · rw [if_pos c, if_pos c]; exact impl_frame.mono _ _
  · rw [if_neg c, if_neg c]; exact LeO.refl _
set_option maxHeartbeats 4000000 in
set_option maxRecDepth 100000 in
theorem impl_replyText.calls (k : Nat) (a0_0 : Int) (a0_1 : Int) (a0_2 : Int) (a0_3 : Int) (A0_4 : Option Addr) (c0_4 : Nat) (l0_4 : List (S67)) (r : ByteArray) (w : World) (hr0_4 : Kd.C k67 w A0_4 l0_4.length l0_4) (hc0_4 : l0_4.length ≤ c0_4) (h : impl_replyText.f k a0_0 a0_1 a0_2 a0_3 l0_4 = some r) :
    Calls Try.prog 28 #[.agg #[.int .i64 a0_0, .int .i64 a0_1, .int .i64 a0_2, .int .i64 a0_3, .slice A0_4 l0_4.length c0_4]] w fun e w' => e = .returned (.string r) ∧ Below w.heap.size w w' := by
  have hu2 := Try.underlying30
  have hu3 := Try.underlying39
  have HC := Lib.hid hr0_4
  have HLC := Lib.hid hc0_4
  unfold impl_replyText.f at h
  by_cases c : (a0_0 < 2097152 ∧ a0_1 < 2097152) ∧ ((l0_4.length : Int) > 0 → DocW a0_2 a0_3 l0_4)
  case neg => rw [if_neg c] at h; cases h
  rw [if_pos c] at h
  have HR := Lib.hid h
  have HDW := Lib.hid c.2
  have HX := Lib.hid (show ∀ x ∈ [a0_0, a0_1], x < 2097152 from fun x hx => by have := c.1; simp at hx; omega)
  clear h c hr0_4 hc0_4
  go_enter Try.func28, Try.ntmps28
  go_wp2_with (first | ((with_reducible refine gate_dst (N := 1) rfl ?_); refine box_event ?hg (N := 1) ?hd (cs := #[.int .i64 a0_0, .int .i64 a0_1, .int .i64 a0_2, .int .i64 a0_3, .slice A0_4 l0_4.length c0_4]) (t := 39) ?hr ?_; (case hd => rfl); (case hg => rfl); (case hr => first | (go_simp; done) | (go_simp; rfl)); intro gd hg w1 hb1 hB1; clear hg; have BK1 := Lib.hid hb1; have HB1 := Lib.hid hB1; clear hb1 hB1) | ((with_reducible refine gate_dst (N := 3) rfl ?_); refine box_event ?hg (N := 3) ?hd (cs := #[.pointer none, .slice none 0 0]) (t := 53) ?hr ?_; (case hd => rfl); (case hg => rfl); (case hr => first | (go_simp; done) | (go_simp; rfl)); intro gw hgw w3 hw3 hb3; have BK3 := Lib.hid (blk_below BK1.out hb3); have HB3 := Lib.hid (below_step HB1.out hb3); have HW3 := Lib.hid (show IsW w3 w.heap.size gw [] from .inl ⟨by rw [hgw]; exact HB1.out.size, .slice none 0 0, hw3, own_nil _ _ _ _, by simp [Value.ownBlock]⟩); clear hb3 hgw hw3; have hy0 : w3.cell? ⟨gd, 0, none⟩ = some (.int .i64 a0_0) := (blk_cell BK3.out 0).trans rfl; have hy1 : w3.cell? ⟨gd, 1, none⟩ = some (.int .i64 a0_1) := (blk_cell BK3.out 1).trans rfl))
  refine (numbers_lit w.heap.size gw [] [a0_0, a0_1] w3 HW3.out HB3.out.size HX.out (by simp)).mono ?_
  rintro e w4 ⟨rfl, hw4, hb4, hk4⟩
  have BK4 := Lib.hid ((hk4.blk _ _ _ _ BK3.out (by decide) (by decide)).trans BK3.out)
  have HB4 := Lib.hid (HB3.out.trans hb4)
  have HW4 := Lib.hid hw4
  clear hy0 hy1 hw4 hb4 hk4 BK3 HB3 HW3
  have z2 : w4.cell? ⟨gd, 2, none⟩ = some (.int .i64 a0_2) := (blk_cell BK4.out 2).trans rfl
  have z3 : w4.cell? ⟨gd, 3, none⟩ = some (.int .i64 a0_3) := (blk_cell BK4.out 3).trans rfl
  have z4 : w4.cell? ⟨gd, 4, none⟩ = some (.slice A0_4 l0_4.length c0_4) := (blk_cell BK4.out 4).trans rfl
  by_cases c : (l0_4.length : Int) > 0
  · have c1 : decide (0 < (l0_4.length : Int)) = true := decide_eq_true c
    have c2 : decide (0 < l0_4.length) = true := decide_eq_true (by omega)
    have DW := Lib.hid (HDW.out c)
    have HRL := Lib.hid (show replyL a0_0 a0_1 a0_2 a0_3 l0_4 = numsL [a0_0, a0_1] ++ docL a0_2 a0_3 l0_4 from if_pos c)
    clear c
    go_wp2_with fail
    refine (doc_calls a0_2 a0_3 A0_4 c0_4 l0_4 w HC.out HLC.out DW.out gw ([] ++ numsL [a0_0, a0_1]) w4 HW4.out HB4.out (by have := numsL_len [a0_0, a0_1]; simp only [List.length_cons, List.length_nil] at this; rw [List.nil_append]; omega)).mono ?_
    rintro e w5 ⟨rfl, hw5, hb5, hk5⟩
    have HB5 := Lib.hid hb5
    have HW5 := Lib.hid (show IsW w5 w.heap.size gw (replyL a0_0 a0_1 a0_2 a0_3 l0_4) from by rw [HRL.out]; simpa using hw5)
    clear z2 z3 z4 hw5 hb5 hk5 BK4 HB4 HW4
    go_wp2_with fail
    refine (stringW w.heap.size gw _ w5 HW5.out (by
      rw [HRL.out]
      intro x hx
      rcases List.mem_append.1 hx with hx | hx
      · exact numsL_range HX.out x hx
      · exact docL_range DW.out x hx) (by rw [HRL.out]; have := docL_ne a0_2 a0_3 l0_4; simp [this])).mono ?_
    rintro e w6 ⟨rfl, hb6⟩
    have HB6 := Lib.hid (HB5.out.trans hb6)
    go_wp2_with fail
    refine (impl_frame.calls k _ r w6 HR.out).mono ?_
    rintro e w7 ⟨rfl, hb7⟩
    go_wp2
    go_ret
    exact ⟨rfl, HB6.out.trans (hb7.mono HB6.out.size)⟩
  · have c1 : decide (0 < (l0_4.length : Int)) = false := decide_eq_false c
    have c2 : decide (0 < l0_4.length) = false := decide_eq_false (by omega)
    have HRL := Lib.hid (show replyL a0_0 a0_1 a0_2 a0_3 l0_4 = numsL [a0_0, a0_1] from if_neg c)
    have HW5 := Lib.hid (show IsW w4 w.heap.size gw (replyL a0_0 a0_1 a0_2 a0_3 l0_4) from by rw [HRL.out]; simpa using HW4.out)
    clear c
    go_wp2_with fail
    refine (stringW w.heap.size gw _ w4 HW5.out (by rw [HRL.out]; exact numsL_range HX.out) (by rw [HRL.out]; have := putL_ne a0_0; simp [numsL, this])).mono ?_
    rintro e w6 ⟨rfl, hb6⟩
    have HB6 := Lib.hid (HB4.out.trans hb6)
    clear z2 z3 z4
    go_wp2_with fail
    refine (impl_frame.calls k _ r w6 HR.out).mono ?_
    rintro e w7 ⟨rfl, hb7⟩
    go_wp2
    go_ret
    exact ⟨rfl, HB6.out.trans (hb7.mono HB6.out.size)⟩
end Go.Proofs.Ythoeiiecmmagnaa.H
namespace Go.Proofs.Ythoeiiecmmagnaa.Q
open Go.RowKit Go.Proofs.YthoeiiecmmagnaaW.PrintWords Go.Proofs.YthoeiiecmmagnaaW.PrintLast Go.Proofs.YthoeiiecmmagnaaW.PrintMore
open Go.Proofs.Ythoeiiecmmagnaa.H
attribute [local go_sem] max2_int min2_int max_two min_two max_three min_three max_four min_four
set_option linter.unusedVariables false
set_option linter.unusedSimpArgs false
noncomputable def impl_isTold.f (a0_0 : Int) (a0_1 : Int) (a0_2 : Int) (a0_3 : Int) (l0_4 : List (S67)) : Option (Bool) := (impl_isCode.f a0_0).bind fun t102 => (if t102 = true then ((impl_within.f a0_1 0 999999).bind fun t103 => (if t103 = true then ((impl_Doc_isZero.f a0_2 a0_3 l0_4).bind fun t104 => (if t104 = true then (some true) else ((impl_DocOK.f a0_2 a0_3 l0_4).bind fun t105 => (some t105)))) else (some false))) else (some false))
set_option maxHeartbeats 8000000 in
set_option maxRecDepth 100000 in
theorem impl_isTold.calls (a0_0 : Int) (a0_1 : Int) (a0_2 : Int) (a0_3 : Int) (A0_4 : Option Addr) (c0_4 : Nat) (l0_4 : List (S67)) (r : Bool) (w : World) (hr0_4 : Kd.C k67 w A0_4 l0_4.length l0_4) (hc0_4 : l0_4.length ≤ c0_4) (h : impl_isTold.f a0_0 a0_1 a0_2 a0_3 l0_4 = some r) :
    Calls Try.prog 27 #[.agg #[.int .i64 a0_0, .int .i64 a0_1, .int .i64 a0_2, .int .i64 a0_3, .slice A0_4 l0_4.length c0_4]] w fun e w' => e = .returned (.bool r) ∧ Below w.heap.size w w' := by
  have hu39 := Try.underlying39
  have hu30 := Try.underlying30
  have HR0_4 := Aside0.mk hr0_4
  have HC0_4 := Aside0.mk hc0_4
  clear hr0_4 hc0_4
  have HB := Aside0.mk (Below.refl w.heap.size w)
  have H : ((impl_isCode.f a0_0).bind fun t102 => (if t102 = true then ((impl_within.f a0_1 0 999999).bind fun t103 => (if t103 = true then ((impl_Doc_isZero.f a0_2 a0_3 l0_4).bind fun t104 => (if t104 = true then (some true) else ((impl_DocOK.f a0_2 a0_3 l0_4).bind fun t105 => (some t105)))) else (some false))) else (some false))) = some r := h
  clear h
  replace H := Option.bind_eq_some_iff.mp H
  obtain ⟨t102, A20, H⟩ := H
  replace H : (if t102 = true then ((impl_within.f a0_1 0 999999).bind fun t103 => (if t103 = true then ((impl_Doc_isZero.f a0_2 a0_3 l0_4).bind fun t104 => (if t104 = true then (some true) else ((impl_DocOK.f a0_2 a0_3 l0_4).bind fun t105 => (some t105)))) else (some false))) else (some false)) = some r := H
  have A2 := Aside0.mk A20
  clear A20
  by_cases c3 : t102 = true
  · subst c3
    have H1 : ((impl_within.f a0_1 0 999999).bind fun t103 => (if t103 = true then ((impl_Doc_isZero.f a0_2 a0_3 l0_4).bind fun t104 => (if t104 = true then (some true) else ((impl_DocOK.f a0_2 a0_3 l0_4).bind fun t105 => (some t105)))) else (some false))) = some r := by rw [if_pos rfl] at H; exact H
    clear H
    have H := H1
    clear H1
    replace H := Option.bind_eq_some_iff.mp H
    obtain ⟨t103, A40, H⟩ := H
    replace H : (if t103 = true then ((impl_Doc_isZero.f a0_2 a0_3 l0_4).bind fun t104 => (if t104 = true then (some true) else ((impl_DocOK.f a0_2 a0_3 l0_4).bind fun t105 => (some t105)))) else (some false)) = some r := H
    have A4 := Aside0.mk A40
    clear A40
    by_cases c5 : t103 = true
    · subst c5
      have H1 : ((impl_Doc_isZero.f a0_2 a0_3 l0_4).bind fun t104 => (if t104 = true then (some true) else ((impl_DocOK.f a0_2 a0_3 l0_4).bind fun t105 => (some t105)))) = some r := by rw [if_pos rfl] at H; exact H
      clear H
      have H := H1
      clear H1
      replace H := Option.bind_eq_some_iff.mp H
      obtain ⟨t104, A60, H⟩ := H
      replace H : (if t104 = true then (some true) else ((impl_DocOK.f a0_2 a0_3 l0_4).bind fun t105 => (some t105))) = some r := H
      have A6 := Aside0.mk A60
      clear A60
      by_cases c7 : t104 = true
      · subst c7
        have H1 : (some true) = some r := by rw [if_pos rfl] at H; exact H
        clear H
        have H := H1
        clear H1
        obtain rfl := Option.some.inj H
        go_enter Try.func27, Try.ntmps27
        go_wp2_with (first | ((with_reducible refine gate_dst (N := 1) rfl ?_); refine box_event ?hg (N := 1) ?hd (cs := #[.int .i64 a0_0, .int .i64 a0_1, .int .i64 a0_2, .int .i64 a0_3, .slice A0_4 l0_4.length c0_4]) (t := 39) ?hr ?_; (case hd => rfl); (case hg => rfl); (case hr => first | (go_simp; done) | (go_simp; rfl)); intro gb101 hg w8 hbox hb; have n0_ := Aside0.mk (below_step (by repeat (first | (with_reducible first | exact HB.out | apply below_alloc | apply pw_below_drewN | apply below_drew1) | exact HB.out)) hb); have n1_ := Aside0.mk (hbox); have n2_ := Aside0.mk ((by rw [hg]; exact (below_size (by repeat (first | (with_reducible first | exact HB.out | apply below_alloc | apply pw_below_drewN | apply below_drew1) | exact HB.out))) : w.heap.size ≤ gb101)); have n3_ := Aside0.mk ((by rw [hg]; exact (below_size (by repeat (first | (with_reducible first | exact HB.out | apply below_alloc | apply pw_below_drewN | apply below_drew1) | exact HB.out))) : w.heap.size ≤ gb101)); clear HB; have HB := n0_; have BK101 := n1_; have GW101 := n2_; have GE101 := n3_; clear n0_ n1_ n2_ n3_; clear hb hbox hg; have hcz9_0 : w8.cell? ⟨gb101, 0, none⟩ = some (.int .i64 a0_0) := (blk_cell BK101.out 0).trans rfl; have hcz9_1 : w8.cell? ⟨gb101, 1, none⟩ = some (.int .i64 a0_1) := (blk_cell BK101.out 1).trans rfl; have hcz9_2 : w8.cell? ⟨gb101, 2, none⟩ = some (.int .i64 a0_2) := (blk_cell BK101.out 2).trans rfl; have hcz9_3 : w8.cell? ⟨gb101, 3, none⟩ = some (.int .i64 a0_3) := (blk_cell BK101.out 3).trans rfl; have hcz9_4 : w8.cell? ⟨gb101, 4, none⟩ = some (.slice A0_4 l0_4.length c0_4) := (blk_cell BK101.out 4).trans rfl; have hfz9_0 := blk_frozen BK101.out 0; have hfz9_1 := blk_frozen BK101.out 1; have hfz9_2 := blk_frozen BK101.out 2; have hfz9_3 := blk_frozen BK101.out 3; have hfz9_4 := blk_frozen BK101.out 4) | ((with_reducible refine gate_callee (f := 47) rfl ?_); refine goesL_ (some 5) rfl rfl Try.func47 (by kernel_rfl) rfl #[.int .i64 a0_0] rfl (by (try simp only [List.map_toArray, List.map_cons, List.map_nil]); first | done | rfl | (simp only [List.length_drop, List.length_take]; rfl)) ?_; (with_reducible refine (impl_isCode.calls a0_0 true _ A2.out).mono ?_); rintro e w' ⟨rfl, ⟨nd, rfl⟩⟩; refine ⟨_, rfl, ?_⟩) | (go_at_call 38; (with_reducible refine (impl_within.calls a0_1 0 999999 true _ A4.out).mono ?_); rintro e w' ⟨rfl, ⟨nd, rfl⟩⟩) | (go_at_call 48; (with_reducible refine (impl_Doc_isZero.calls a0_2 a0_3 _ _ l0_4 true _ ?side1 ?side2 A6.out).mono ?_); (case side1 => repeat (first | exact (Kd.C_below HR0_4.out (by repeat (first | (with_reducible first | exact HB.out | apply below_alloc | apply pw_below_drewN | apply below_drew1 | refine below_set ?_ GE101.out) | exact HB.out))) | (with_reducible refine Kd.C_alloc ?_ _) | (with_reducible refine Kd.C_drewN ?_ _) | (with_reducible refine Kd.C_drew ?_))); (case side2 => exact HC0_4.out); rintro e w10 ⟨rfl, hb⟩; have n0_ := Aside0.mk (blk_below (g := gb101) (o := .cells #[.int .i64 a0_0, .int .i64 a0_1, .int .i64 a0_2, .int .i64 a0_3, .slice A0_4 l0_4.length c0_4] 39 (0, 0)) (by (with_reducible repeat (first | refine blk_drewN ?_ _ | refine blk_drew ?_ | refine blk_alloc ?_ _)); exact BK101.out) hb); have n1_ := Aside0.mk (below_step (by repeat (first | (with_reducible first | exact HB.out | apply below_alloc | apply pw_below_drewN | apply below_drew1 | refine below_set ?_ GE101.out) | exact HB.out)) hb); clear BK101; clear HB; have BK101 := n0_; have HB := n1_; clear n0_ n1_; (try clear hb); (try clear hb2); (try clear hk); (try clear hi)))
        go_ret
        exact ⟨by first | rfl | (simp [errW_none, errW_some] <;> rfl) | (simp [*, errW_none, errW_some] <;> rfl), by repeat (first | (with_reducible first | exact HB.out | apply below_alloc | apply pw_below_drewN | apply below_drew1 | refine below_set ?_ GE101.out) | exact HB.out)⟩
      · replace c7 := Bool.eq_false_iff.mpr c7
        subst c7
        have H1 : ((impl_DocOK.f a0_2 a0_3 l0_4).bind fun t105 => (some t105)) = some r := by rw [if_neg (show ¬ (false = true) by decide)] at H; exact H
        clear H
        have H := H1
        clear H1
        replace H := Option.bind_eq_some_iff.mp H
        obtain ⟨t105, A110, H⟩ := H
        replace H : (some t105) = some r := H
        have A11 := Aside0.mk A110
        clear A110
        obtain rfl := Option.some.inj H
        go_enter Try.func27, Try.ntmps27
        go_wp2_with (first | ((with_reducible refine gate_dst (N := 1) rfl ?_); refine box_event ?hg (N := 1) ?hd (cs := #[.int .i64 a0_0, .int .i64 a0_1, .int .i64 a0_2, .int .i64 a0_3, .slice A0_4 l0_4.length c0_4]) (t := 39) ?hr ?_; (case hd => rfl); (case hg => rfl); (case hr => first | (go_simp; done) | (go_simp; rfl)); intro gb101 hg w12 hbox hb; have n0_ := Aside0.mk (below_step (by repeat (first | (with_reducible first | exact HB.out | apply below_alloc | apply pw_below_drewN | apply below_drew1) | exact HB.out)) hb); have n1_ := Aside0.mk (hbox); have n2_ := Aside0.mk ((by rw [hg]; exact (below_size (by repeat (first | (with_reducible first | exact HB.out | apply below_alloc | apply pw_below_drewN | apply below_drew1) | exact HB.out))) : w.heap.size ≤ gb101)); have n3_ := Aside0.mk ((by rw [hg]; exact (below_size (by repeat (first | (with_reducible first | exact HB.out | apply below_alloc | apply pw_below_drewN | apply below_drew1) | exact HB.out))) : w.heap.size ≤ gb101)); clear HB; have HB := n0_; have BK101 := n1_; have GW101 := n2_; have GE101 := n3_; clear n0_ n1_ n2_ n3_; clear hb hbox hg; have hcz13_0 : w12.cell? ⟨gb101, 0, none⟩ = some (.int .i64 a0_0) := (blk_cell BK101.out 0).trans rfl; have hcz13_1 : w12.cell? ⟨gb101, 1, none⟩ = some (.int .i64 a0_1) := (blk_cell BK101.out 1).trans rfl; have hcz13_2 : w12.cell? ⟨gb101, 2, none⟩ = some (.int .i64 a0_2) := (blk_cell BK101.out 2).trans rfl; have hcz13_3 : w12.cell? ⟨gb101, 3, none⟩ = some (.int .i64 a0_3) := (blk_cell BK101.out 3).trans rfl; have hcz13_4 : w12.cell? ⟨gb101, 4, none⟩ = some (.slice A0_4 l0_4.length c0_4) := (blk_cell BK101.out 4).trans rfl; have hfz13_0 := blk_frozen BK101.out 0; have hfz13_1 := blk_frozen BK101.out 1; have hfz13_2 := blk_frozen BK101.out 2; have hfz13_3 := blk_frozen BK101.out 3; have hfz13_4 := blk_frozen BK101.out 4) | ((with_reducible refine gate_callee (f := 47) rfl ?_); refine goesL_ (some 5) rfl rfl Try.func47 (by kernel_rfl) rfl #[.int .i64 a0_0] rfl (by (try simp only [List.map_toArray, List.map_cons, List.map_nil]); first | done | rfl | (simp only [List.length_drop, List.length_take]; rfl)) ?_; (with_reducible refine (impl_isCode.calls a0_0 true _ A2.out).mono ?_); rintro e w' ⟨rfl, ⟨nd, rfl⟩⟩; refine ⟨_, rfl, ?_⟩) | (go_at_call 38; (with_reducible refine (impl_within.calls a0_1 0 999999 true _ A4.out).mono ?_); rintro e w' ⟨rfl, ⟨nd, rfl⟩⟩) | (go_at_call 48; (with_reducible refine (impl_Doc_isZero.calls a0_2 a0_3 _ _ l0_4 false _ ?side1 ?side2 A6.out).mono ?_); (case side1 => repeat (first | exact (Kd.C_below HR0_4.out (by repeat (first | (with_reducible first | exact HB.out | apply below_alloc | apply pw_below_drewN | apply below_drew1 | refine below_set ?_ GE101.out) | exact HB.out))) | (with_reducible refine Kd.C_alloc ?_ _) | (with_reducible refine Kd.C_drewN ?_ _) | (with_reducible refine Kd.C_drew ?_))); (case side2 => exact HC0_4.out); rintro e w14 ⟨rfl, hb⟩; have n0_ := Aside0.mk (blk_below (g := gb101) (o := .cells #[.int .i64 a0_0, .int .i64 a0_1, .int .i64 a0_2, .int .i64 a0_3, .slice A0_4 l0_4.length c0_4] 39 (0, 0)) (by (with_reducible repeat (first | refine blk_drewN ?_ _ | refine blk_drew ?_ | refine blk_alloc ?_ _)); exact BK101.out) hb); have n1_ := Aside0.mk (below_step (by repeat (first | (with_reducible first | exact HB.out | apply below_alloc | apply pw_below_drewN | apply below_drew1 | refine below_set ?_ GE101.out) | exact HB.out)) hb); clear BK101; clear HB; have BK101 := n0_; have HB := n1_; clear n0_ n1_; (try clear hb); (try clear hb2); (try clear hk); (try clear hi); have hcz15_0 : w14.cell? ⟨gb101, 0, none⟩ = some (.int .i64 a0_0) := (blk_cell BK101.out 0).trans rfl; have hcz15_1 : w14.cell? ⟨gb101, 1, none⟩ = some (.int .i64 a0_1) := (blk_cell BK101.out 1).trans rfl; have hcz15_2 : w14.cell? ⟨gb101, 2, none⟩ = some (.int .i64 a0_2) := (blk_cell BK101.out 2).trans rfl; have hcz15_3 : w14.cell? ⟨gb101, 3, none⟩ = some (.int .i64 a0_3) := (blk_cell BK101.out 3).trans rfl; have hcz15_4 : w14.cell? ⟨gb101, 4, none⟩ = some (.slice A0_4 l0_4.length c0_4) := (blk_cell BK101.out 4).trans rfl; have hfz15_0 := blk_frozen BK101.out 0; have hfz15_1 := blk_frozen BK101.out 1; have hfz15_2 := blk_frozen BK101.out 2; have hfz15_3 := blk_frozen BK101.out 3; have hfz15_4 := blk_frozen BK101.out 4) | (go_at_call 20; (with_reducible refine (impl_DocOK.calls a0_2 a0_3 _ _ l0_4 t105 _ ?side1 ?side2 A11.out).mono ?_); (case side1 => repeat (first | exact (Kd.C_below HR0_4.out HB.out) | (with_reducible refine Kd.C_alloc ?_ _) | (with_reducible refine Kd.C_drewN ?_ _) | (with_reducible refine Kd.C_drew ?_))); (case side2 => exact HC0_4.out); rintro e w16 ⟨rfl, hb⟩; have n0_ := Aside0.mk (blk_below (g := gb101) (o := .cells #[.int .i64 a0_0, .int .i64 a0_1, .int .i64 a0_2, .int .i64 a0_3, .slice A0_4 l0_4.length c0_4] 39 (0, 0)) (by (with_reducible repeat (first | refine blk_drewN ?_ _ | refine blk_drew ?_ | refine blk_alloc ?_ _)); exact BK101.out) hb); have n1_ := Aside0.mk (below_step (by repeat (first | (with_reducible first | exact HB.out | apply below_alloc | apply pw_below_drewN | apply below_drew1 | refine below_set ?_ GE101.out) | exact HB.out)) hb); clear BK101; clear HB; have BK101 := n0_; have HB := n1_; clear n0_ n1_; (try clear hb); (try clear hb2); (try clear hk); (try clear hi)))
        go_ret
        exact ⟨by first | rfl | (simp [errW_none, errW_some] <;> rfl) | (simp [*, errW_none, errW_some] <;> rfl), by repeat (first | (with_reducible first | exact HB.out | apply below_alloc | apply pw_below_drewN | apply below_drew1 | refine below_set ?_ GE101.out) | exact HB.out)⟩
    · replace c5 := Bool.eq_false_iff.mpr c5
      subst c5
      have H1 : (some false) = some r := by rw [if_neg (show ¬ (false = true) by decide)] at H; exact H
      clear H
      have H := H1
      clear H1
      obtain rfl := Option.some.inj H
      go_enter Try.func27, Try.ntmps27
      go_wp2_with (first | ((with_reducible refine gate_dst (N := 1) rfl ?_); refine box_event ?hg (N := 1) ?hd (cs := #[.int .i64 a0_0, .int .i64 a0_1, .int .i64 a0_2, .int .i64 a0_3, .slice A0_4 l0_4.length c0_4]) (t := 39) ?hr ?_; (case hd => rfl); (case hg => rfl); (case hr => first | (go_simp; done) | (go_simp; rfl)); intro gb101 hg w17 hbox hb; have n0_ := Aside0.mk (below_step (by repeat (first | (with_reducible first | exact HB.out | apply below_alloc | apply pw_below_drewN | apply below_drew1) | exact HB.out)) hb); have n1_ := Aside0.mk (hbox); have n2_ := Aside0.mk ((by rw [hg]; exact (below_size (by repeat (first | (with_reducible first | exact HB.out | apply below_alloc | apply pw_below_drewN | apply below_drew1) | exact HB.out))) : w.heap.size ≤ gb101)); have n3_ := Aside0.mk ((by rw [hg]; exact (below_size (by repeat (first | (with_reducible first | exact HB.out | apply below_alloc | apply pw_below_drewN | apply below_drew1) | exact HB.out))) : w.heap.size ≤ gb101)); clear HB; have HB := n0_; have BK101 := n1_; have GW101 := n2_; have GE101 := n3_; clear n0_ n1_ n2_ n3_; clear hb hbox hg; have hcz18_0 : w17.cell? ⟨gb101, 0, none⟩ = some (.int .i64 a0_0) := (blk_cell BK101.out 0).trans rfl; have hcz18_1 : w17.cell? ⟨gb101, 1, none⟩ = some (.int .i64 a0_1) := (blk_cell BK101.out 1).trans rfl; have hcz18_2 : w17.cell? ⟨gb101, 2, none⟩ = some (.int .i64 a0_2) := (blk_cell BK101.out 2).trans rfl; have hcz18_3 : w17.cell? ⟨gb101, 3, none⟩ = some (.int .i64 a0_3) := (blk_cell BK101.out 3).trans rfl; have hcz18_4 : w17.cell? ⟨gb101, 4, none⟩ = some (.slice A0_4 l0_4.length c0_4) := (blk_cell BK101.out 4).trans rfl; have hfz18_0 := blk_frozen BK101.out 0; have hfz18_1 := blk_frozen BK101.out 1; have hfz18_2 := blk_frozen BK101.out 2; have hfz18_3 := blk_frozen BK101.out 3; have hfz18_4 := blk_frozen BK101.out 4) | ((with_reducible refine gate_callee (f := 47) rfl ?_); refine goesL_ (some 5) rfl rfl Try.func47 (by kernel_rfl) rfl #[.int .i64 a0_0] rfl (by (try simp only [List.map_toArray, List.map_cons, List.map_nil]); first | done | rfl | (simp only [List.length_drop, List.length_take]; rfl)) ?_; (with_reducible refine (impl_isCode.calls a0_0 true _ A2.out).mono ?_); rintro e w' ⟨rfl, ⟨nd, rfl⟩⟩; refine ⟨_, rfl, ?_⟩) | (go_at_call 38; (with_reducible refine (impl_within.calls a0_1 0 999999 false _ A4.out).mono ?_); rintro e w' ⟨rfl, ⟨nd, rfl⟩⟩))
      go_ret
      exact ⟨by first | rfl | (simp [errW_none, errW_some] <;> rfl) | (simp [*, errW_none, errW_some] <;> rfl), by repeat (first | (with_reducible first | exact HB.out | apply below_alloc | apply pw_below_drewN | apply below_drew1 | refine below_set ?_ GE101.out) | exact HB.out)⟩
  · replace c3 := Bool.eq_false_iff.mpr c3
    subst c3
    have H1 : (some false) = some r := by rw [if_neg (show ¬ (false = true) by decide)] at H; exact H
    clear H
    have H := H1
    clear H1
    obtain rfl := Option.some.inj H
    go_enter Try.func27, Try.ntmps27
    go_wp2_with (first | ((with_reducible refine gate_dst (N := 1) rfl ?_); refine box_event ?hg (N := 1) ?hd (cs := #[.int .i64 a0_0, .int .i64 a0_1, .int .i64 a0_2, .int .i64 a0_3, .slice A0_4 l0_4.length c0_4]) (t := 39) ?hr ?_; (case hd => rfl); (case hg => rfl); (case hr => first | (go_simp; done) | (go_simp; rfl)); intro gb101 hg w19 hbox hb; have n0_ := Aside0.mk (below_step (by repeat (first | (with_reducible first | exact HB.out | apply below_alloc | apply pw_below_drewN | apply below_drew1) | exact HB.out)) hb); have n1_ := Aside0.mk (hbox); have n2_ := Aside0.mk ((by rw [hg]; exact (below_size (by repeat (first | (with_reducible first | exact HB.out | apply below_alloc | apply pw_below_drewN | apply below_drew1) | exact HB.out))) : w.heap.size ≤ gb101)); have n3_ := Aside0.mk ((by rw [hg]; exact (below_size (by repeat (first | (with_reducible first | exact HB.out | apply below_alloc | apply pw_below_drewN | apply below_drew1) | exact HB.out))) : w.heap.size ≤ gb101)); clear HB; have HB := n0_; have BK101 := n1_; have GW101 := n2_; have GE101 := n3_; clear n0_ n1_ n2_ n3_; clear hb hbox hg; have hcz20_0 : w19.cell? ⟨gb101, 0, none⟩ = some (.int .i64 a0_0) := (blk_cell BK101.out 0).trans rfl; have hcz20_1 : w19.cell? ⟨gb101, 1, none⟩ = some (.int .i64 a0_1) := (blk_cell BK101.out 1).trans rfl; have hcz20_2 : w19.cell? ⟨gb101, 2, none⟩ = some (.int .i64 a0_2) := (blk_cell BK101.out 2).trans rfl; have hcz20_3 : w19.cell? ⟨gb101, 3, none⟩ = some (.int .i64 a0_3) := (blk_cell BK101.out 3).trans rfl; have hcz20_4 : w19.cell? ⟨gb101, 4, none⟩ = some (.slice A0_4 l0_4.length c0_4) := (blk_cell BK101.out 4).trans rfl; have hfz20_0 := blk_frozen BK101.out 0; have hfz20_1 := blk_frozen BK101.out 1; have hfz20_2 := blk_frozen BK101.out 2; have hfz20_3 := blk_frozen BK101.out 3; have hfz20_4 := blk_frozen BK101.out 4) | ((with_reducible refine gate_callee (f := 47) rfl ?_); refine goesL_ (some 5) rfl rfl Try.func47 (by kernel_rfl) rfl #[.int .i64 a0_0] rfl (by (try simp only [List.map_toArray, List.map_cons, List.map_nil]); first | done | rfl | (simp only [List.length_drop, List.length_take]; rfl)) ?_; (with_reducible refine (impl_isCode.calls a0_0 false _ A2.out).mono ?_); rintro e w' ⟨rfl, ⟨nd, rfl⟩⟩; refine ⟨_, rfl, ?_⟩))
    go_ret
    exact ⟨by first | rfl | (simp [errW_none, errW_some] <;> rfl) | (simp [*, errW_none, errW_some] <;> rfl), by repeat (first | (with_reducible first | exact HB.out | apply below_alloc | apply pw_below_drewN | apply below_drew1 | refine below_set ?_ GE101.out) | exact HB.out)⟩
noncomputable def impl_ReplyText.f (k : Nat) (a0_0 : Int) (a0_1 : Int) (a0_2 : Int) (a0_3 : Int) (l0_4 : List (S67)) : Option (ByteArray × Int) := (impl_isTold.f a0_0 a0_1 a0_2 a0_3 l0_4).bind fun t107 => (if t107 = true then ((impl_replyText.f k a0_0 a0_1 a0_2 a0_3 l0_4).bind fun t108 => (some (t108, 0))) else (some ((⟨#[]⟩ : ByteArray), 1)))
theorem impl_ReplyText.mono : ∀ a0 a1 a2 a3 a4 k, LeO (impl_ReplyText.f k a0 a1 a2 a3 a4) (impl_ReplyText.f (k + 1) a0 a1 a2 a3 a4) := by
  intro a0 a1 a2 a3 a4 k
  unfold impl_ReplyText.f
  repeat' first
      | (with_reducible exact impl_replyText.mono _ _ _ _ _ _)
      | (with_reducible exact LeO.refl _)
      | (with_reducible exact LeO.none _)
      | (with_reducible refine LeO.ite ?_ ?_)
      | (with_reducible refine LeO.bind ?_ (fun _ => ?_))
      | exact impl_replyText.mono _ _ _ _ _ _
      | exact LeO.none _
      | refine LeO.ite ?_ ?_
      | refine LeO.bind ?_ (fun _ => ?_)
set_option maxHeartbeats 8000000 in
set_option maxRecDepth 100000 in
theorem impl_ReplyText.calls (k : Nat) (a0_0 : Int) (a0_1 : Int) (a0_2 : Int) (a0_3 : Int) (A0_4 : Option Addr) (c0_4 : Nat) (l0_4 : List (S67)) (r1 : ByteArray) (r2 : Int) (w : World) (hr0_4 : Kd.C k67 w A0_4 l0_4.length l0_4) (hc0_4 : l0_4.length ≤ c0_4) (h : impl_ReplyText.f k a0_0 a0_1 a0_2 a0_3 l0_4 = some (r1, r2)) :
    Calls Try.prog 13 #[.agg #[.int .i64 a0_0, .int .i64 a0_1, .int .i64 a0_2, .int .i64 a0_3, .slice A0_4 l0_4.length c0_4]] w fun e w' => e = .returned (.tuple #[.string r1, .int .i64 r2]) ∧ Below w.heap.size w w' := by
  have hu39 := Try.underlying39
  have HR0_4 := Aside0.mk hr0_4
  have HC0_4 := Aside0.mk hc0_4
  clear hr0_4 hc0_4
  have HB := Aside0.mk (Below.refl w.heap.size w)
  have H : ((impl_isTold.f a0_0 a0_1 a0_2 a0_3 l0_4).bind fun t107 => (if t107 = true then ((impl_replyText.f k a0_0 a0_1 a0_2 a0_3 l0_4).bind fun t108 => (some (t108, 0))) else (some ((⟨#[]⟩ : ByteArray), 1)))) = some (r1, r2) := h
  clear h
  replace H := Option.bind_eq_some_iff.mp H
  obtain ⟨t107, A20, H⟩ := H
  replace H : (if t107 = true then ((impl_replyText.f k a0_0 a0_1 a0_2 a0_3 l0_4).bind fun t108 => (some (t108, 0))) else (some ((⟨#[]⟩ : ByteArray), 1))) = some (r1, r2) := H
  have A2 := Aside0.mk A20
  clear A20
  by_cases c3 : t107 = true
  · subst c3
    have H1 : ((impl_replyText.f k a0_0 a0_1 a0_2 a0_3 l0_4).bind fun t108 => (some (t108, 0))) = some (r1, r2) := by rw [if_pos rfl] at H; exact H
    clear H
    have H := H1
    clear H1
    replace H := Option.bind_eq_some_iff.mp H
    obtain ⟨t108, A40, H⟩ := H
    replace H : (some (t108, 0)) = some (r1, r2) := H
    have A4 := Aside0.mk A40
    clear A40
    simp only [Option.some.injEq, Prod.mk.injEq] at H
    obtain ⟨rfl, rfl⟩ := H
    go_enter Try.func13, Try.ntmps13
    go_wp2_with (first | ((with_reducible refine gate_dst (N := 1) rfl ?_); refine box_event ?hg (N := 1) ?hd (cs := #[.int .i64 a0_0, .int .i64 a0_1, .int .i64 a0_2, .int .i64 a0_3, .slice A0_4 l0_4.length c0_4]) (t := 39) ?hr ?_; (case hd => rfl); (case hg => rfl); (case hr => first | (go_simp; done) | (go_simp; rfl)); intro gb106 hg w5 hbox hb; have n0_ := Aside0.mk (below_step (by repeat (first | (with_reducible first | exact HB.out | apply below_alloc | apply pw_below_drewN | apply below_drew1) | exact HB.out)) hb); have n1_ := Aside0.mk (hbox); have n2_ := Aside0.mk ((by rw [hg]; exact (below_size (by repeat (first | (with_reducible first | exact HB.out | apply below_alloc | apply pw_below_drewN | apply below_drew1) | exact HB.out))) : w.heap.size ≤ gb106)); have n3_ := Aside0.mk ((by rw [hg]; exact (below_size (by repeat (first | (with_reducible first | exact HB.out | apply below_alloc | apply pw_below_drewN | apply below_drew1) | exact HB.out))) : w.heap.size ≤ gb106)); clear HB; have HB := n0_; have BK106 := n1_; have GW106 := n2_; have GE106 := n3_; clear n0_ n1_ n2_ n3_; clear hb hbox hg; have hcz6_0 : w5.cell? ⟨gb106, 0, none⟩ = some (.int .i64 a0_0) := (blk_cell BK106.out 0).trans rfl; have hcz6_1 : w5.cell? ⟨gb106, 1, none⟩ = some (.int .i64 a0_1) := (blk_cell BK106.out 1).trans rfl; have hcz6_2 : w5.cell? ⟨gb106, 2, none⟩ = some (.int .i64 a0_2) := (blk_cell BK106.out 2).trans rfl; have hcz6_3 : w5.cell? ⟨gb106, 3, none⟩ = some (.int .i64 a0_3) := (blk_cell BK106.out 3).trans rfl; have hcz6_4 : w5.cell? ⟨gb106, 4, none⟩ = some (.slice A0_4 l0_4.length c0_4) := (blk_cell BK106.out 4).trans rfl; have hfz6_0 := blk_frozen BK106.out 0; have hfz6_1 := blk_frozen BK106.out 1; have hfz6_2 := blk_frozen BK106.out 2; have hfz6_3 := blk_frozen BK106.out 3; have hfz6_4 := blk_frozen BK106.out 4) | ((with_reducible refine gate_callee (f := 27) rfl ?_); refine goesL_ (some 5) rfl rfl Try.func27 (by kernel_rfl) rfl #[.agg #[.int .i64 a0_0, .int .i64 a0_1, .int .i64 a0_2, .int .i64 a0_3, .slice A0_4 l0_4.length c0_4]] rfl (by (try simp only [List.map_toArray, List.map_cons, List.map_nil]); first | done | rfl | (simp only [List.length_drop, List.length_take]; rfl)) ?_; (with_reducible refine (impl_isTold.calls a0_0 a0_1 a0_2 a0_3 _ _ l0_4 true _ ?side1 ?side2 A2.out).mono ?_); (case side1 => repeat (first | exact (Kd.C_below HR0_4.out HB.out) | (with_reducible refine Kd.C_alloc ?_ _) | (with_reducible refine Kd.C_drewN ?_ _) | (with_reducible refine Kd.C_drew ?_))); (case side2 => exact HC0_4.out); rintro e w7 ⟨rfl, hb⟩; refine ⟨_, rfl, ?_⟩; have n0_ := Aside0.mk (blk_below (g := gb106) (o := .cells #[.int .i64 a0_0, .int .i64 a0_1, .int .i64 a0_2, .int .i64 a0_3, .slice A0_4 l0_4.length c0_4] 39 (0, 0)) (by (with_reducible repeat (first | refine blk_drewN ?_ _ | refine blk_drew ?_ | refine blk_alloc ?_ _)); exact BK106.out) hb); have n1_ := Aside0.mk (below_step (by repeat (first | (with_reducible first | exact HB.out | apply below_alloc | apply pw_below_drewN | apply below_drew1 | refine below_set ?_ GE106.out) | exact HB.out)) hb); clear BK106; clear HB; have BK106 := n0_; have HB := n1_; clear n0_ n1_; (try clear hb); (try clear hb2); (try clear hk); (try clear hi); have hcz8_0 : w7.cell? ⟨gb106, 0, none⟩ = some (.int .i64 a0_0) := (blk_cell BK106.out 0).trans rfl; have hcz8_1 : w7.cell? ⟨gb106, 1, none⟩ = some (.int .i64 a0_1) := (blk_cell BK106.out 1).trans rfl; have hcz8_2 : w7.cell? ⟨gb106, 2, none⟩ = some (.int .i64 a0_2) := (blk_cell BK106.out 2).trans rfl; have hcz8_3 : w7.cell? ⟨gb106, 3, none⟩ = some (.int .i64 a0_3) := (blk_cell BK106.out 3).trans rfl; have hcz8_4 : w7.cell? ⟨gb106, 4, none⟩ = some (.slice A0_4 l0_4.length c0_4) := (blk_cell BK106.out 4).trans rfl; have hfz8_0 := blk_frozen BK106.out 0; have hfz8_1 := blk_frozen BK106.out 1; have hfz8_2 := blk_frozen BK106.out 2; have hfz8_3 := blk_frozen BK106.out 3; have hfz8_4 := blk_frozen BK106.out 4) | ((with_reducible refine gate_callee (f := 28) rfl ?_); refine goesL_ (some 8) rfl rfl Try.func28 (by kernel_rfl) rfl #[.agg #[.int .i64 a0_0, .int .i64 a0_1, .int .i64 a0_2, .int .i64 a0_3, .slice A0_4 l0_4.length c0_4]] rfl (by (try simp only [List.map_toArray, List.map_cons, List.map_nil]); first | done | rfl | (simp only [List.length_drop, List.length_take]; rfl)) ?_; (with_reducible refine (impl_replyText.calls k a0_0 a0_1 a0_2 a0_3 _ _ l0_4 t108 _ ?side1 ?side2 A4.out).mono ?_); (case side1 => repeat (first | exact (Kd.C_below HR0_4.out HB.out) | (with_reducible refine Kd.C_alloc ?_ _) | (with_reducible refine Kd.C_drewN ?_ _) | (with_reducible refine Kd.C_drew ?_))); (case side2 => exact HC0_4.out); rintro e w9 ⟨rfl, hb⟩; refine ⟨_, rfl, ?_⟩; have n0_ := Aside0.mk (blk_below (g := gb106) (o := .cells #[.int .i64 a0_0, .int .i64 a0_1, .int .i64 a0_2, .int .i64 a0_3, .slice A0_4 l0_4.length c0_4] 39 (0, 0)) (by (with_reducible repeat (first | refine blk_drewN ?_ _ | refine blk_drew ?_ | refine blk_alloc ?_ _)); exact BK106.out) hb); have n1_ := Aside0.mk (below_step (by repeat (first | (with_reducible first | exact HB.out | apply below_alloc | apply pw_below_drewN | apply below_drew1 | refine below_set ?_ GE106.out) | exact HB.out)) hb); clear BK106; clear HB; have BK106 := n0_; have HB := n1_; clear n0_ n1_; (try clear hb); (try clear hb2); (try clear hk); (try clear hi)))
    go_ret2
    exact ⟨by first | rfl | (simp [errW_none, errW_some] <;> rfl) | (simp [*, errW_none, errW_some] <;> rfl), by repeat (first | (with_reducible first | exact HB.out | apply below_alloc | apply pw_below_drewN | apply below_drew1 | refine below_set ?_ GE106.out) | exact HB.out)⟩
  · replace c3 := Bool.eq_false_iff.mpr c3
    subst c3
    have H1 : (some ((⟨#[]⟩ : ByteArray), 1)) = some (r1, r2) := by rw [if_neg (show ¬ (false = true) by decide)] at H; exact H
    clear H
    have H := H1
    clear H1
    simp only [Option.some.injEq, Prod.mk.injEq] at H
    obtain ⟨rfl, rfl⟩ := H
    go_enter Try.func13, Try.ntmps13
    go_wp2_with (first | ((with_reducible refine gate_dst (N := 1) rfl ?_); refine box_event ?hg (N := 1) ?hd (cs := #[.int .i64 a0_0, .int .i64 a0_1, .int .i64 a0_2, .int .i64 a0_3, .slice A0_4 l0_4.length c0_4]) (t := 39) ?hr ?_; (case hd => rfl); (case hg => rfl); (case hr => first | (go_simp; done) | (go_simp; rfl)); intro gb106 hg w10 hbox hb; have n0_ := Aside0.mk (below_step (by repeat (first | (with_reducible first | exact HB.out | apply below_alloc | apply pw_below_drewN | apply below_drew1) | exact HB.out)) hb); have n1_ := Aside0.mk (hbox); have n2_ := Aside0.mk ((by rw [hg]; exact (below_size (by repeat (first | (with_reducible first | exact HB.out | apply below_alloc | apply pw_below_drewN | apply below_drew1) | exact HB.out))) : w.heap.size ≤ gb106)); have n3_ := Aside0.mk ((by rw [hg]; exact (below_size (by repeat (first | (with_reducible first | exact HB.out | apply below_alloc | apply pw_below_drewN | apply below_drew1) | exact HB.out))) : w.heap.size ≤ gb106)); clear HB; have HB := n0_; have BK106 := n1_; have GW106 := n2_; have GE106 := n3_; clear n0_ n1_ n2_ n3_; clear hb hbox hg; have hcz11_0 : w10.cell? ⟨gb106, 0, none⟩ = some (.int .i64 a0_0) := (blk_cell BK106.out 0).trans rfl; have hcz11_1 : w10.cell? ⟨gb106, 1, none⟩ = some (.int .i64 a0_1) := (blk_cell BK106.out 1).trans rfl; have hcz11_2 : w10.cell? ⟨gb106, 2, none⟩ = some (.int .i64 a0_2) := (blk_cell BK106.out 2).trans rfl; have hcz11_3 : w10.cell? ⟨gb106, 3, none⟩ = some (.int .i64 a0_3) := (blk_cell BK106.out 3).trans rfl; have hcz11_4 : w10.cell? ⟨gb106, 4, none⟩ = some (.slice A0_4 l0_4.length c0_4) := (blk_cell BK106.out 4).trans rfl; have hfz11_0 := blk_frozen BK106.out 0; have hfz11_1 := blk_frozen BK106.out 1; have hfz11_2 := blk_frozen BK106.out 2; have hfz11_3 := blk_frozen BK106.out 3; have hfz11_4 := blk_frozen BK106.out 4) | ((with_reducible refine gate_callee (f := 27) rfl ?_); refine goesL_ (some 5) rfl rfl Try.func27 (by kernel_rfl) rfl #[.agg #[.int .i64 a0_0, .int .i64 a0_1, .int .i64 a0_2, .int .i64 a0_3, .slice A0_4 l0_4.length c0_4]] rfl (by (try simp only [List.map_toArray, List.map_cons, List.map_nil]); first | done | rfl | (simp only [List.length_drop, List.length_take]; rfl)) ?_; (with_reducible refine (impl_isTold.calls a0_0 a0_1 a0_2 a0_3 _ _ l0_4 false _ ?side1 ?side2 A2.out).mono ?_); (case side1 => repeat (first | exact (Kd.C_below HR0_4.out HB.out) | (with_reducible refine Kd.C_alloc ?_ _) | (with_reducible refine Kd.C_drewN ?_ _) | (with_reducible refine Kd.C_drew ?_))); (case side2 => exact HC0_4.out); rintro e w12 ⟨rfl, hb⟩; refine ⟨_, rfl, ?_⟩; have n0_ := Aside0.mk (blk_below (g := gb106) (o := .cells #[.int .i64 a0_0, .int .i64 a0_1, .int .i64 a0_2, .int .i64 a0_3, .slice A0_4 l0_4.length c0_4] 39 (0, 0)) (by (with_reducible repeat (first | refine blk_drewN ?_ _ | refine blk_drew ?_ | refine blk_alloc ?_ _)); exact BK106.out) hb); have n1_ := Aside0.mk (below_step (by repeat (first | (with_reducible first | exact HB.out | apply below_alloc | apply pw_below_drewN | apply below_drew1 | refine below_set ?_ GE106.out) | exact HB.out)) hb); clear BK106; clear HB; have BK106 := n0_; have HB := n1_; clear n0_ n1_; (try clear hb); (try clear hb2); (try clear hk); (try clear hi)))
    go_ret2
    exact ⟨by first | rfl | (simp [errW_none, errW_some] <;> rfl) | (simp [*, errW_none, errW_some] <;> rfl), by repeat (first | (with_reducible first | exact HB.out | apply below_alloc | apply pw_below_drewN | apply below_drew1 | refine below_set ?_ GE106.out) | exact HB.out)⟩
end Go.Proofs.Ythoeiiecmmagnaa.Q
namespace Go.Proofs.Ythoeiiecmmagnaa.Q
open Go.RowKit Go.Proofs.YthoeiiecmmagnaaW.PrintWords Go.Proofs.YthoeiiecmmagnaaW.PrintLast Go.Proofs.YthoeiiecmmagnaaW.PrintMore
open Go.Proofs.Ythoeiiecmmagnaa.H
attribute [local go_sem] max2_int min2_int max_two min_two max_three min_three max_four min_four
set_option linter.unusedVariables false
set_option linter.unusedSimpArgs false
noncomputable def laws_FnExactReplyText.j0 : Nat → Bool → Int → Int → Int → Int → List (S62) → Int → Int → Int → Int → List (S67) → Option (Bool)
  | 0, _, _, _, _, _, _, _, _, _, _, _ => none
  | k + 1, x34, x102000, x102001, x102002, x102003, x102004, x120000, x120001, x120002, x120003, x120004 => if x34 = true then (none) else ((laws_toReply.f k x102000 x102001 x102002 x102003 x102004).bind fun bt122 => ((laws_eqReply.f k x120000 x120001 x120002 x120003 x120004 bt122.1 bt122.2.1 bt122.2.2.1 bt122.2.2.2.1 bt122.2.2.2.2).bind fun t129 => (if t129 = true then (some true) else (none))))
noncomputable def laws_FnExactReplyText.f (k : Nat) (a0_0 : Int) (a0_1 : Int) (a0_2 : Int) (a0_3 : Int) (l0_4 : List (S62)) : Option (Bool) := (laws_szReply.f k a0_0 a0_1 a0_2 a0_3 l0_4 1048576).bind fun t102 => (if t102 < 0 then (some true) else ((laws_toReply.f k a0_0 a0_1 a0_2 a0_3 l0_4).bind fun bt103 => ((spec_ReplyText.f k bt103.1 bt103.2.1 bt103.2.2.1 bt103.2.2.2.1 bt103.2.2.2.2).bind fun bt110 => ((laws_toReply.f k a0_0 a0_1 a0_2 a0_3 l0_4).bind fun bt112 => ((impl_ReplyText.f k bt112.1 bt112.2.1 bt112.2.2.1 bt112.2.2.2.1 bt112.2.2.2.2).bind fun bt120 => (if bt120.1.toList = bt110.1.toList then (laws_FnExactReplyText.j0 k (bt120.2 != bt110.2) a0_0 a0_1 a0_2 a0_3 l0_4 bt112.1 bt112.2.1 bt112.2.2.1 bt112.2.2.2.1 bt112.2.2.2.2) else (laws_FnExactReplyText.j0 k true a0_0 a0_1 a0_2 a0_3 l0_4 bt112.1 bt112.2.1 bt112.2.2.1 bt112.2.2.2.1 bt112.2.2.2.2)))))))
theorem laws_FnExactReplyText.mono_l : ∀ k, (∀ y0 y1 y2 y3 y4 y5 y6 y7 y8 y9 y10, LeO (laws_FnExactReplyText.j0 k y0 y1 y2 y3 y4 y5 y6 y7 y8 y9 y10) (laws_FnExactReplyText.j0 (k + 1) y0 y1 y2 y3 y4 y5 y6 y7 y8 y9 y10))
  | 0 => fun _ _ _ _ _ _ _ _ _ _ _ r h => by simp [laws_FnExactReplyText.j0] at h
  | k + 1 => by
    have ih0 := laws_FnExactReplyText.mono_l k
    · intro y0 y1 y2 y3 y4 y5 y6 y7 y8 y9 y10
      unfold laws_FnExactReplyText.j0
      repeat' first
      | (with_reducible exact ih0 _ _ _ _ _ _ _ _ _ _ _)
      | (with_reducible exact impl_ReplyText.mono _ _ _ _ _ _)
      | (with_reducible exact laws_eqReply.mono _ _ _ _ _ _ _ _ _ _ _)
      | (with_reducible exact laws_szReply.mono _ _ _ _ _ _ _)
      | (with_reducible exact laws_toReply.mono _ _ _ _ _ _)
      | (with_reducible exact spec_ReplyText.mono _ _ _ _ _ _)
      | (with_reducible exact LeO.refl _)
      | (with_reducible exact LeO.none _)
      | (with_reducible refine LeO.ite ?_ ?_)
      | (with_reducible refine LeO.bind ?_ (fun _ => ?_))
      | exact ih0 _ _ _ _ _ _ _ _ _ _ _
      | exact impl_ReplyText.mono _ _ _ _ _ _
      | exact laws_eqReply.mono _ _ _ _ _ _ _ _ _ _ _
      | exact laws_szReply.mono _ _ _ _ _ _ _
      | exact laws_toReply.mono _ _ _ _ _ _
      | exact spec_ReplyText.mono _ _ _ _ _ _
      | exact LeO.none _
      | refine LeO.ite ?_ ?_
      | refine LeO.bind ?_ (fun _ => ?_)
theorem laws_FnExactReplyText.mono : ∀ a0 a1 a2 a3 a4 k, LeO (laws_FnExactReplyText.f k a0 a1 a2 a3 a4) (laws_FnExactReplyText.f (k + 1) a0 a1 a2 a3 a4) := by
  intro a0 a1 a2 a3 a4 k
  have ih0 := laws_FnExactReplyText.mono_l k
  unfold laws_FnExactReplyText.f
  repeat' first
      | (with_reducible exact ih0 _ _ _ _ _ _ _ _ _ _ _)
      | (with_reducible exact impl_ReplyText.mono _ _ _ _ _ _)
      | (with_reducible exact laws_eqReply.mono _ _ _ _ _ _ _ _ _ _ _)
      | (with_reducible exact laws_szReply.mono _ _ _ _ _ _ _)
      | (with_reducible exact laws_toReply.mono _ _ _ _ _ _)
      | (with_reducible exact spec_ReplyText.mono _ _ _ _ _ _)
      | (with_reducible exact LeO.refl _)
      | (with_reducible exact LeO.none _)
      | (with_reducible refine LeO.ite ?_ ?_)
      | (with_reducible refine LeO.bind ?_ (fun _ => ?_))
      | exact ih0 _ _ _ _ _ _ _ _ _ _ _
      | exact impl_ReplyText.mono _ _ _ _ _ _
      | exact laws_eqReply.mono _ _ _ _ _ _ _ _ _ _ _
      | exact laws_szReply.mono _ _ _ _ _ _ _
      | exact laws_toReply.mono _ _ _ _ _ _
      | exact spec_ReplyText.mono _ _ _ _ _ _
      | exact LeO.none _
      | refine LeO.ite ?_ ?_
      | refine LeO.bind ?_ (fun _ => ?_)
set_option maxHeartbeats 8000000 in
set_option maxRecDepth 100000 in
theorem laws_FnExactReplyText.calls (k : Nat) (a0_0 : Int) (a0_1 : Int) (a0_2 : Int) (a0_3 : Int) (A0_4 : Option Addr) (c0_4 : Nat) (l0_4 : List (S62)) (r : Bool) (w : World) (hr0_4 : Kd.C k62 w A0_4 l0_4.length l0_4) (hc0_4 : l0_4.length ≤ c0_4) (h : laws_FnExactReplyText.f k a0_0 a0_1 a0_2 a0_3 l0_4 = some r) :
    Calls Try.prog 4 #[.agg #[.int .i64 a0_0, .int .i64 a0_1, .int .i64 a0_2, .int .i64 a0_3, .slice A0_4 l0_4.length c0_4]] w fun e w' => e = .returned (.bool r) ∧ Below w.heap.size w w' := by
  have hu35 := Try.underlying35
  have hu39 := Try.underlying39
  have HR0_4 := Aside0.mk hr0_4
  have HC0_4 := Aside0.mk hc0_4
  clear hr0_4 hc0_4
  have HB := Aside0.mk (Below.refl w.heap.size w)
  have H : ((laws_szReply.f k a0_0 a0_1 a0_2 a0_3 l0_4 1048576).bind fun t102 => (if t102 < 0 then (some true) else ((laws_toReply.f k a0_0 a0_1 a0_2 a0_3 l0_4).bind fun bt103 => ((spec_ReplyText.f k bt103.1 bt103.2.1 bt103.2.2.1 bt103.2.2.2.1 bt103.2.2.2.2).bind fun bt110 => ((laws_toReply.f k a0_0 a0_1 a0_2 a0_3 l0_4).bind fun bt112 => ((impl_ReplyText.f k bt112.1 bt112.2.1 bt112.2.2.1 bt112.2.2.2.1 bt112.2.2.2.2).bind fun bt120 => (if bt120.1.toList = bt110.1.toList then (laws_FnExactReplyText.j0 k (bt120.2 != bt110.2) a0_0 a0_1 a0_2 a0_3 l0_4 bt112.1 bt112.2.1 bt112.2.2.1 bt112.2.2.2.1 bt112.2.2.2.2) else (laws_FnExactReplyText.j0 k true a0_0 a0_1 a0_2 a0_3 l0_4 bt112.1 bt112.2.1 bt112.2.2.1 bt112.2.2.2.1 bt112.2.2.2.2)))))))) = some r := h
  clear h
  replace H := Option.bind_eq_some_iff.mp H
  obtain ⟨t102, A20, H⟩ := H
  replace H : (if t102 < 0 then (some true) else ((laws_toReply.f k a0_0 a0_1 a0_2 a0_3 l0_4).bind fun bt103 => ((spec_ReplyText.f k bt103.1 bt103.2.1 bt103.2.2.1 bt103.2.2.2.1 bt103.2.2.2.2).bind fun bt110 => ((laws_toReply.f k a0_0 a0_1 a0_2 a0_3 l0_4).bind fun bt112 => ((impl_ReplyText.f k bt112.1 bt112.2.1 bt112.2.2.1 bt112.2.2.2.1 bt112.2.2.2.2).bind fun bt120 => (if bt120.1.toList = bt110.1.toList then (laws_FnExactReplyText.j0 k (bt120.2 != bt110.2) a0_0 a0_1 a0_2 a0_3 l0_4 bt112.1 bt112.2.1 bt112.2.2.1 bt112.2.2.2.1 bt112.2.2.2.2) else (laws_FnExactReplyText.j0 k true a0_0 a0_1 a0_2 a0_3 l0_4 bt112.1 bt112.2.1 bt112.2.2.1 bt112.2.2.2.1 bt112.2.2.2.2))))))) = some r := H
  have A2 := Aside0.mk A20
  clear A20
  by_cases c3 : t102 < 0
  · rw [if_pos c3] at H
    have c3b0 : decide (t102 < 0) = true := decide_eq_true c3
    clear c3
    obtain rfl := Option.some.inj H
    go_enter Try.func4, Try.ntmps4
    go_wp2_with (first | ((with_reducible refine gate_dst (N := 1) rfl ?_); refine box_event ?hg (N := 1) ?hd (cs := #[.int .i64 a0_0, .int .i64 a0_1, .int .i64 a0_2, .int .i64 a0_3, .slice A0_4 l0_4.length c0_4]) (t := 35) ?hr ?_; (case hd => rfl); (case hg => rfl); (case hr => first | (go_simp; done) | (go_simp; rfl)); intro gb101 hg w4 hbox hb; have n0_ := Aside0.mk (below_step (by repeat (first | (with_reducible first | exact HB.out | apply below_alloc | apply pw_below_drewN | apply below_drew1) | exact HB.out)) hb); have n1_ := Aside0.mk (hbox); have n2_ := Aside0.mk ((by rw [hg]; exact (below_size (by repeat (first | (with_reducible first | exact HB.out | apply below_alloc | apply pw_below_drewN | apply below_drew1) | exact HB.out))) : w.heap.size ≤ gb101)); have n3_ := Aside0.mk ((by rw [hg]; exact (below_size (by repeat (first | (with_reducible first | exact HB.out | apply below_alloc | apply pw_below_drewN | apply below_drew1) | exact HB.out))) : w.heap.size ≤ gb101)); clear HB; have HB := n0_; have BK101 := n1_; have GW101 := n2_; have GE101 := n3_; clear n0_ n1_ n2_ n3_; clear hb hbox hg; have hcz5_0 : w4.cell? ⟨gb101, 0, none⟩ = some (.int .i64 a0_0) := (blk_cell BK101.out 0).trans rfl; have hcz5_1 : w4.cell? ⟨gb101, 1, none⟩ = some (.int .i64 a0_1) := (blk_cell BK101.out 1).trans rfl; have hcz5_2 : w4.cell? ⟨gb101, 2, none⟩ = some (.int .i64 a0_2) := (blk_cell BK101.out 2).trans rfl; have hcz5_3 : w4.cell? ⟨gb101, 3, none⟩ = some (.int .i64 a0_3) := (blk_cell BK101.out 3).trans rfl; have hcz5_4 : w4.cell? ⟨gb101, 4, none⟩ = some (.slice A0_4 l0_4.length c0_4) := (blk_cell BK101.out 4).trans rfl; have hfz5_0 := blk_frozen BK101.out 0; have hfz5_1 := blk_frozen BK101.out 1; have hfz5_2 := blk_frozen BK101.out 2; have hfz5_3 := blk_frozen BK101.out 3; have hfz5_4 := blk_frozen BK101.out 4) | ((with_reducible refine gate_callee (f := 10) rfl ?_); refine goesL_ (some 11) rfl rfl Try.func10 (by kernel_rfl) rfl #[.agg #[.int .i64 a0_0, .int .i64 a0_1, .int .i64 a0_2, .int .i64 a0_3, .slice A0_4 l0_4.length c0_4], .int .i64 1048576] rfl (by (try simp only [List.map_toArray, List.map_cons, List.map_nil]); first | done | rfl | (simp only [List.length_drop, List.length_take]; rfl)) ?_; (with_reducible refine (laws_szReply.calls k a0_0 a0_1 a0_2 a0_3 _ _ l0_4 1048576 t102 _ ?side1 ?side2 A2.out).mono ?_); (case side1 => repeat (first | exact (Kd.C_below HR0_4.out HB.out) | (with_reducible refine Kd.C_alloc ?_ _) | (with_reducible refine Kd.C_drewN ?_ _) | (with_reducible refine Kd.C_drew ?_))); (case side2 => exact HC0_4.out); rintro e w6 ⟨rfl, hb⟩; refine ⟨_, rfl, ?_⟩; have n0_ := Aside0.mk (blk_below (g := gb101) (o := .cells #[.int .i64 a0_0, .int .i64 a0_1, .int .i64 a0_2, .int .i64 a0_3, .slice A0_4 l0_4.length c0_4] 35 (0, 0)) (by (with_reducible repeat (first | refine blk_drewN ?_ _ | refine blk_drew ?_ | refine blk_alloc ?_ _)); exact BK101.out) hb); have n1_ := Aside0.mk (below_step (by repeat (first | (with_reducible first | exact HB.out | apply below_alloc | apply pw_below_drewN | apply below_drew1 | refine below_set ?_ GE101.out) | exact HB.out)) hb); clear BK101; clear HB; have BK101 := n0_; have HB := n1_; clear n0_ n1_; (try clear hb); (try clear hb2); (try clear hk); (try clear hi)))
    go_ret
    exact ⟨by first | rfl | (simp [errW_none, errW_some] <;> rfl) | (simp [*, errW_none, errW_some] <;> rfl), by repeat (first | (with_reducible first | exact HB.out | apply below_alloc | apply pw_below_drewN | apply below_drew1 | refine below_set ?_ GE101.out) | exact HB.out)⟩
  · rw [if_neg c3] at H
    have c3b0 : decide (t102 < 0) = false := decide_eq_false c3
    clear c3
    replace H := Option.bind_eq_some_iff.mp H
    obtain ⟨⟨t103, t104, t105, t106, t107⟩, A70, H⟩ := H
    replace H : ((spec_ReplyText.f k t103 t104 t105 t106 t107).bind fun bt110 => ((laws_toReply.f k a0_0 a0_1 a0_2 a0_3 l0_4).bind fun bt112 => ((impl_ReplyText.f k bt112.1 bt112.2.1 bt112.2.2.1 bt112.2.2.2.1 bt112.2.2.2.2).bind fun bt120 => (if bt120.1.toList = bt110.1.toList then (laws_FnExactReplyText.j0 k (bt120.2 != bt110.2) a0_0 a0_1 a0_2 a0_3 l0_4 bt112.1 bt112.2.1 bt112.2.2.1 bt112.2.2.2.1 bt112.2.2.2.2) else (laws_FnExactReplyText.j0 k true a0_0 a0_1 a0_2 a0_3 l0_4 bt112.1 bt112.2.1 bt112.2.2.1 bt112.2.2.2.1 bt112.2.2.2.2))))) = some r := H
    have A7 := Aside0.mk A70
    clear A70
    replace H := Option.bind_eq_some_iff.mp H
    obtain ⟨⟨t110, t111⟩, A80, H⟩ := H
    replace H : ((laws_toReply.f k a0_0 a0_1 a0_2 a0_3 l0_4).bind fun bt112 => ((impl_ReplyText.f k bt112.1 bt112.2.1 bt112.2.2.1 bt112.2.2.2.1 bt112.2.2.2.2).bind fun bt120 => (if bt120.1.toList = t110.toList then (laws_FnExactReplyText.j0 k (bt120.2 != t111) a0_0 a0_1 a0_2 a0_3 l0_4 bt112.1 bt112.2.1 bt112.2.2.1 bt112.2.2.2.1 bt112.2.2.2.2) else (laws_FnExactReplyText.j0 k true a0_0 a0_1 a0_2 a0_3 l0_4 bt112.1 bt112.2.1 bt112.2.2.1 bt112.2.2.2.1 bt112.2.2.2.2)))) = some r := H
    have A8 := Aside0.mk A80
    clear A80
    replace H := Option.bind_eq_some_iff.mp H
    obtain ⟨⟨t112, t113, t114, t115, t116⟩, A90, H⟩ := H
    replace H : ((impl_ReplyText.f k t112 t113 t114 t115 t116).bind fun bt120 => (if bt120.1.toList = t110.toList then (laws_FnExactReplyText.j0 k (bt120.2 != t111) a0_0 a0_1 a0_2 a0_3 l0_4 t112 t113 t114 t115 t116) else (laws_FnExactReplyText.j0 k true a0_0 a0_1 a0_2 a0_3 l0_4 t112 t113 t114 t115 t116))) = some r := H
    have A9 := Aside0.mk A90
    clear A90
    replace H := Option.bind_eq_some_iff.mp H
    obtain ⟨⟨t120, t121⟩, A100, H⟩ := H
    replace H : (if t120.toList = t110.toList then (laws_FnExactReplyText.j0 k (t121 != t111) a0_0 a0_1 a0_2 a0_3 l0_4 t112 t113 t114 t115 t116) else (laws_FnExactReplyText.j0 k true a0_0 a0_1 a0_2 a0_3 l0_4 t112 t113 t114 t115 t116)) = some r := H
    have A10 := Aside0.mk A100
    clear A100
    have HC11 := Aside0.mk H
    clear H
    go_enter Try.func4, Try.ntmps4
    go_upto_region 8 with (first | ((with_reducible refine gate_dst (N := 1) rfl ?_); refine box_event ?hg (N := 1) ?hd (cs := #[.int .i64 a0_0, .int .i64 a0_1, .int .i64 a0_2, .int .i64 a0_3, .slice A0_4 l0_4.length c0_4]) (t := 35) ?hr ?_; (case hd => rfl); (case hg => rfl); (case hr => first | (go_simp; done) | (go_simp; rfl)); intro gb101 hg w12 hbox hb; have n0_ := Aside0.mk (below_step (by repeat (first | (with_reducible first | exact HB.out | apply below_alloc | apply pw_below_drewN | apply below_drew1) | exact HB.out)) hb); have n1_ := Aside0.mk (hbox); have n2_ := Aside0.mk ((by rw [hg]; exact (below_size (by repeat (first | (with_reducible first | exact HB.out | apply below_alloc | apply pw_below_drewN | apply below_drew1) | exact HB.out))) : w.heap.size ≤ gb101)); have n3_ := Aside0.mk ((by rw [hg]; exact (below_size (by repeat (first | (with_reducible first | exact HB.out | apply below_alloc | apply pw_below_drewN | apply below_drew1) | exact HB.out))) : w.heap.size ≤ gb101)); clear HB; have HB := n0_; have BK101 := n1_; have GW101 := n2_; have GE101 := n3_; clear n0_ n1_ n2_ n3_; clear hb hbox hg; have hcz13_0 : w12.cell? ⟨gb101, 0, none⟩ = some (.int .i64 a0_0) := (blk_cell BK101.out 0).trans rfl; have hcz13_1 : w12.cell? ⟨gb101, 1, none⟩ = some (.int .i64 a0_1) := (blk_cell BK101.out 1).trans rfl; have hcz13_2 : w12.cell? ⟨gb101, 2, none⟩ = some (.int .i64 a0_2) := (blk_cell BK101.out 2).trans rfl; have hcz13_3 : w12.cell? ⟨gb101, 3, none⟩ = some (.int .i64 a0_3) := (blk_cell BK101.out 3).trans rfl; have hcz13_4 : w12.cell? ⟨gb101, 4, none⟩ = some (.slice A0_4 l0_4.length c0_4) := (blk_cell BK101.out 4).trans rfl; have hfz13_0 := blk_frozen BK101.out 0; have hfz13_1 := blk_frozen BK101.out 1; have hfz13_2 := blk_frozen BK101.out 2; have hfz13_3 := blk_frozen BK101.out 3; have hfz13_4 := blk_frozen BK101.out 4) | ((with_reducible refine gate_callee (f := 10) rfl ?_); refine goesL_ (some 11) rfl rfl Try.func10 (by kernel_rfl) rfl #[.agg #[.int .i64 a0_0, .int .i64 a0_1, .int .i64 a0_2, .int .i64 a0_3, .slice A0_4 l0_4.length c0_4], .int .i64 1048576] rfl (by (try simp only [List.map_toArray, List.map_cons, List.map_nil]); first | done | rfl | (simp only [List.length_drop, List.length_take]; rfl)) ?_; (with_reducible refine (laws_szReply.calls k a0_0 a0_1 a0_2 a0_3 _ _ l0_4 1048576 t102 _ ?side1 ?side2 A2.out).mono ?_); (case side1 => repeat (first | exact (Kd.C_below HR0_4.out HB.out) | (with_reducible refine Kd.C_alloc ?_ _) | (with_reducible refine Kd.C_drewN ?_ _) | (with_reducible refine Kd.C_drew ?_))); (case side2 => exact HC0_4.out); rintro e w14 ⟨rfl, hb⟩; refine ⟨_, rfl, ?_⟩; have n0_ := Aside0.mk (blk_below (g := gb101) (o := .cells #[.int .i64 a0_0, .int .i64 a0_1, .int .i64 a0_2, .int .i64 a0_3, .slice A0_4 l0_4.length c0_4] 35 (0, 0)) (by (with_reducible repeat (first | refine blk_drewN ?_ _ | refine blk_drew ?_ | refine blk_alloc ?_ _)); exact BK101.out) hb); have n1_ := Aside0.mk (below_step (by repeat (first | (with_reducible first | exact HB.out | apply below_alloc | apply pw_below_drewN | apply below_drew1 | refine below_set ?_ GE101.out) | exact HB.out)) hb); clear BK101; clear HB; have BK101 := n0_; have HB := n1_; clear n0_ n1_; (try clear hb); (try clear hb2); (try clear hk); (try clear hi); have hcz15_0 : w14.cell? ⟨gb101, 0, none⟩ = some (.int .i64 a0_0) := (blk_cell BK101.out 0).trans rfl; have hcz15_1 : w14.cell? ⟨gb101, 1, none⟩ = some (.int .i64 a0_1) := (blk_cell BK101.out 1).trans rfl; have hcz15_2 : w14.cell? ⟨gb101, 2, none⟩ = some (.int .i64 a0_2) := (blk_cell BK101.out 2).trans rfl; have hcz15_3 : w14.cell? ⟨gb101, 3, none⟩ = some (.int .i64 a0_3) := (blk_cell BK101.out 3).trans rfl; have hcz15_4 : w14.cell? ⟨gb101, 4, none⟩ = some (.slice A0_4 l0_4.length c0_4) := (blk_cell BK101.out 4).trans rfl; have hfz15_0 := blk_frozen BK101.out 0; have hfz15_1 := blk_frozen BK101.out 1; have hfz15_2 := blk_frozen BK101.out 2; have hfz15_3 := blk_frozen BK101.out 3; have hfz15_4 := blk_frozen BK101.out 4) | ((with_reducible refine gate_callee (f := 12) rfl ?_); refine goesL_ (some 16) rfl rfl Try.func12 (by kernel_rfl) rfl #[.agg #[.int .i64 a0_0, .int .i64 a0_1, .int .i64 a0_2, .int .i64 a0_3, .slice A0_4 l0_4.length c0_4]] rfl (by (try simp only [List.map_toArray, List.map_cons, List.map_nil]); first | done | rfl | (simp only [List.length_drop, List.length_take]; rfl)) ?_; (with_reducible refine (laws_toReply.calls k a0_0 a0_1 a0_2 a0_3 _ _ l0_4 t103 t104 t105 t106 t107 _ ?side1 ?side2 A7.out).mono ?_); (case side1 => repeat (first | exact (Kd.C_below HR0_4.out HB.out) | (with_reducible refine Kd.C_alloc ?_ _) | (with_reducible refine Kd.C_drewN ?_ _) | (with_reducible refine Kd.C_drew ?_))); (case side2 => exact HC0_4.out); rintro e w16 ⟨v108, rfl, ho0, hb⟩; refine ⟨_, rfl, ?_⟩; have n0_ := Aside0.mk (Kd.S_lower ho0 (below_size (by repeat (first | (with_reducible first | exact HB.out | apply below_alloc | apply pw_below_drewN | apply below_drew1 | refine below_set ?_ GE101.out) | exact HB.out)))); have n1_ := Aside0.mk (blk_below (g := gb101) (o := .cells #[.int .i64 a0_0, .int .i64 a0_1, .int .i64 a0_2, .int .i64 a0_3, .slice A0_4 l0_4.length c0_4] 35 (0, 0)) (by (with_reducible repeat (first | refine blk_drewN ?_ _ | refine blk_drew ?_ | refine blk_alloc ?_ _)); exact BK101.out) hb); have n2_ := Aside0.mk (below_step (by repeat (first | (with_reducible first | exact HB.out | apply below_alloc | apply pw_below_drewN | apply below_drew1 | refine below_set ?_ GE101.out) | exact HB.out)) hb); clear BK101; clear HB; have HO109 := n0_; have BK101 := n1_; have HB := n2_; clear n0_ n1_ n2_; (try clear hb); (try clear hb2); (try clear hk); (try clear hi); (try clear ho0); obtain ⟨Ao17, co17, eo17⟩ := Kd.S_slice HO109.out; subst eo17) | ((with_reducible refine gate_callee (f := 11) rfl ?_); refine goesL_ (some 17) rfl rfl Try.func11 (by kernel_rfl) rfl #[.agg #[.int .i64 t103, .int .i64 t104, .int .i64 t105, .int .i64 t106, .slice Ao17 t107.length co17]] rfl (by (try simp only [List.map_toArray, List.map_cons, List.map_nil]); first | done | rfl | (simp only [List.length_drop, List.length_take]; rfl)) ?_; (with_reducible refine (spec_ReplyText.calls k t103 t104 t105 t106 _ _ t107 t110 t111 _ ?side1 ?side2 A8.out).mono ?_); (case side1 => repeat (first | exact (Kd.S_reads' HO109.out).2.2 | (with_reducible refine Kd.C_alloc ?_ _) | (with_reducible refine Kd.C_drewN ?_ _) | (with_reducible refine Kd.C_drew ?_))); (case side2 => exact (Kd.S_reads' HO109.out).2.1); rintro e w18 ⟨rfl, hb⟩; refine ⟨_, rfl, ?_⟩; have n0_ := Aside0.mk (Kd.S_below (by (with_reducible repeat (first | apply Kd.S_alloc | apply Kd.S_drewN | apply Kd.S_drew)); exact HO109.out) hb); have n1_ := Aside0.mk (blk_below (g := gb101) (o := .cells #[.int .i64 a0_0, .int .i64 a0_1, .int .i64 a0_2, .int .i64 a0_3, .slice A0_4 l0_4.length c0_4] 35 (0, 0)) (by (with_reducible repeat (first | refine blk_drewN ?_ _ | refine blk_drew ?_ | refine blk_alloc ?_ _)); exact BK101.out) hb); have n2_ := Aside0.mk (below_step (by repeat (first | (with_reducible first | exact HB.out | apply below_alloc | apply pw_below_drewN | apply below_drew1 | refine below_set ?_ GE101.out) | exact HB.out)) hb); clear HO109; clear BK101; clear HB; have HO109 := n0_; have BK101 := n1_; have HB := n2_; clear n0_ n1_ n2_; (try clear hb); (try clear hb2); (try clear hk); (try clear hi); have hcz19_0 : w18.cell? ⟨gb101, 0, none⟩ = some (.int .i64 a0_0) := (blk_cell BK101.out 0).trans rfl; have hcz19_1 : w18.cell? ⟨gb101, 1, none⟩ = some (.int .i64 a0_1) := (blk_cell BK101.out 1).trans rfl; have hcz19_2 : w18.cell? ⟨gb101, 2, none⟩ = some (.int .i64 a0_2) := (blk_cell BK101.out 2).trans rfl; have hcz19_3 : w18.cell? ⟨gb101, 3, none⟩ = some (.int .i64 a0_3) := (blk_cell BK101.out 3).trans rfl; have hcz19_4 : w18.cell? ⟨gb101, 4, none⟩ = some (.slice A0_4 l0_4.length c0_4) := (blk_cell BK101.out 4).trans rfl; have hfz19_0 := blk_frozen BK101.out 0; have hfz19_1 := blk_frozen BK101.out 1; have hfz19_2 := blk_frozen BK101.out 2; have hfz19_3 := blk_frozen BK101.out 3; have hfz19_4 := blk_frozen BK101.out 4) | ((with_reducible refine gate_callee (f := 12) rfl ?_); refine goesL_ (some 21) rfl rfl Try.func12 (by kernel_rfl) rfl #[.agg #[.int .i64 a0_0, .int .i64 a0_1, .int .i64 a0_2, .int .i64 a0_3, .slice A0_4 l0_4.length c0_4]] rfl (by (try simp only [List.map_toArray, List.map_cons, List.map_nil]); first | done | rfl | (simp only [List.length_drop, List.length_take]; rfl)) ?_; (with_reducible refine (laws_toReply.calls k a0_0 a0_1 a0_2 a0_3 _ _ l0_4 t112 t113 t114 t115 t116 _ ?side1 ?side2 A9.out).mono ?_); (case side1 => repeat (first | exact (Kd.C_below HR0_4.out HB.out) | (with_reducible refine Kd.C_alloc ?_ _) | (with_reducible refine Kd.C_drewN ?_ _) | (with_reducible refine Kd.C_drew ?_))); (case side2 => exact HC0_4.out); rintro e w20 ⟨v117, rfl, ho0, hb⟩; refine ⟨_, rfl, ?_⟩; have n0_ := Aside0.mk (Kd.S_elder' (by (with_reducible repeat (first | apply Kd.S_alloc | apply Kd.S_drewN | apply Kd.S_drew)); exact HO109.out) (Kd.S_base ho0) hb); have n1_ := Aside0.mk (Kd.S_lower (Kd.S_new' ho0 (Kd.S_lt (by (with_reducible repeat (first | apply Kd.S_alloc | apply Kd.S_drewN | apply Kd.S_drew)); exact HO109.out))) (below_size (by repeat (first | (with_reducible first | exact HB.out | apply below_alloc | apply pw_below_drewN | apply below_drew1 | refine below_set ?_ GE101.out) | exact HB.out)))); have n2_ := Aside0.mk (blk_below (g := gb101) (o := .cells #[.int .i64 a0_0, .int .i64 a0_1, .int .i64 a0_2, .int .i64 a0_3, .slice A0_4 l0_4.length c0_4] 35 (0, 0)) (by (with_reducible repeat (first | refine blk_drewN ?_ _ | refine blk_drew ?_ | refine blk_alloc ?_ _)); exact BK101.out) hb); have n3_ := Aside0.mk (below_step (by repeat (first | (with_reducible first | exact HB.out | apply below_alloc | apply pw_below_drewN | apply below_drew1 | refine below_set ?_ GE101.out) | exact HB.out)) hb); clear HO109; clear BK101; clear HB; have HO109 := n0_; have HO118 := n1_; have BK101 := n2_; have HB := n3_; clear n0_ n1_ n2_ n3_; (try clear hb); (try clear hb2); (try clear hk); (try clear hi); (try clear ho0)) | ((with_reducible refine gate_dst (N := 6) rfl ?_); refine box_event ?hg (N := 6) ?hd (cs := #[.int .i64 0, .int .i64 0, .int .i64 0, .int .i64 0, .slice none 0 0]) (t := 39) ?hr ?_; (case hd => rfl); (case hg => rfl); (case hr => first | (go_simp; done) | (go_simp; rfl)); intro gb119 hg w21 hbox hb; have n0_ := Aside0.mk (Kd.S_below (by (with_reducible repeat (first | apply Kd.S_alloc | apply Kd.S_drewN | apply Kd.S_drew)); exact HO109.out) hb); have n1_ := Aside0.mk (Kd.S_below (by (with_reducible repeat (first | apply Kd.S_alloc | apply Kd.S_drewN | apply Kd.S_drew)); exact HO118.out) hb); have n2_ := Aside0.mk (blk_below (g := gb101) (o := .cells #[.int .i64 a0_0, .int .i64 a0_1, .int .i64 a0_2, .int .i64 a0_3, .slice A0_4 l0_4.length c0_4] 35 (0, 0)) (by (with_reducible repeat (first | refine blk_drewN ?_ _ | refine blk_drew ?_ | refine blk_alloc ?_ _)); exact BK101.out) hb); have n3_ := Aside0.mk (below_step (by repeat (first | (with_reducible first | exact HB.out | apply below_alloc | apply pw_below_drewN | apply below_drew1 | refine below_set ?_ GE101.out) | exact HB.out)) hb); have n4_ := Aside0.mk (hbox); have n5_ := Aside0.mk ((by rw [hg]; exact (below_size (by repeat (first | (with_reducible first | exact HB.out | apply below_alloc | apply pw_below_drewN | apply below_drew1 | refine below_set ?_ GE101.out) | exact HB.out))) : w.heap.size ≤ gb119)); have n6_ := Aside0.mk ((by rw [hg]; exact (below_size (by repeat (first | (with_reducible first | exact HB.out | apply below_alloc | apply pw_below_drewN | apply below_drew1 | refine below_set ?_ GE101.out) | exact HB.out))) : w.heap.size ≤ gb119)); have n7_ := Aside0.mk ((by rw [hg]; exact Nat.ne_of_lt (blk_lt (g := gb101) (o := .cells #[.int .i64 a0_0, .int .i64 a0_1, .int .i64 a0_2, .int .i64 a0_3, .slice A0_4 l0_4.length c0_4] 35 (0, 0)) (by (with_reducible repeat (first | refine blk_drewN ?_ _ | refine blk_drew ?_ | refine blk_alloc ?_ _)); exact BK101.out)) : gb101 ≠ gb119)); have n8_ := Aside0.mk ((by rw [hg]; exact Nat.ne_of_gt (blk_lt (g := gb101) (o := .cells #[.int .i64 a0_0, .int .i64 a0_1, .int .i64 a0_2, .int .i64 a0_3, .slice A0_4 l0_4.length c0_4] 35 (0, 0)) (by (with_reducible repeat (first | refine blk_drewN ?_ _ | refine blk_drew ?_ | refine blk_alloc ?_ _)); exact BK101.out)) : gb119 ≠ gb101)); clear HO109; clear HO118; clear BK101; clear HB; have HO109 := n0_; have HO118 := n1_; have BK101 := n2_; have HB := n3_; have BK119 := n4_; have GW119 := n5_; have GE119 := n6_; have NB101_119 := n7_; have NB119_101 := n8_; clear n0_ n1_ n2_ n3_ n4_ n5_ n6_ n7_ n8_; clear hb hbox hg; have hnb22 := NB119_101.out; have hnc22 := NB101_119.out; have hcz23_0 : w21.cell? ⟨gb119, 0, none⟩ = some (.int .i64 0) := (blk_cell BK119.out 0).trans rfl; have hcz23_1 : w21.cell? ⟨gb119, 1, none⟩ = some (.int .i64 0) := (blk_cell BK119.out 1).trans rfl; have hcz23_2 : w21.cell? ⟨gb119, 2, none⟩ = some (.int .i64 0) := (blk_cell BK119.out 2).trans rfl; have hcz23_3 : w21.cell? ⟨gb119, 3, none⟩ = some (.int .i64 0) := (blk_cell BK119.out 3).trans rfl; have hcz23_4 : w21.cell? ⟨gb119, 4, none⟩ = some (.slice none 0 0) := (blk_cell BK119.out 4).trans rfl; have hfz23_0 := blk_frozen BK119.out 0; have hfz23_1 := blk_frozen BK119.out 1; have hfz23_2 := blk_frozen BK119.out 2; have hfz23_3 := blk_frozen BK119.out 3; have hfz23_4 := blk_frozen BK119.out 4; obtain ⟨Ao24, co24, eo24⟩ := Kd.S_slice HO118.out; subst eo24) | ((with_reducible refine gate_callee (f := 13) rfl ?_); refine goesL_ (some 24) rfl rfl Try.func13 (by kernel_rfl) rfl #[.agg #[.int .i64 t112, .int .i64 t113, .int .i64 t114, .int .i64 t115, .slice Ao24 t116.length co24]] rfl (by (try simp only [List.map_toArray, List.map_cons, List.map_nil]); first | done | rfl | (simp only [List.length_drop, List.length_take]; rfl)) ?_; (with_reducible refine (impl_ReplyText.calls k t112 t113 t114 t115 _ _ t116 t120 t121 _ ?side1 ?side2 A10.out).mono ?_); (case side1 => refine (Kd.S_reads' (e := 67) (base := w.heap.size) (ok := fun k_ => (True ∧ some k_ ≠ (.slice Ao17 t107.length co17 : Value).ownBlock)) (n := t116.length) (c := co24) ?_).2.2; exact (by (with_reducible repeat (first | apply Kd.S_alloc | apply Kd.S_drewN | apply Kd.S_drew)); exact (Kd.S_mono (Kd.S_far (p := ⟨gb119, 4, none⟩) (Kd.S_far (p := ⟨gb119, 3, none⟩) (Kd.S_far (p := ⟨gb119, 2, none⟩) (Kd.S_far (p := ⟨gb119, 1, none⟩) (Kd.S_far (p := ⟨gb119, 0, none⟩) (Kd.S_types HO118.out BK119.out (by decide)) (fun _ hk => hk.2) (.int .i64 t112)) (fun _ hk => hk.2) (.int .i64 t113)) (fun _ hk => hk.2) (.int .i64 t114)) (fun _ hk => hk.2) (.int .i64 t115)) (fun _ hk => hk.2) (.slice Ao24 t116.length co24)) (fun _ h_ => h_.1)))); (case side2 => exact (Kd.S_reads' HO118.out).2.1); rintro e w25 ⟨rfl, hb⟩; refine ⟨_, rfl, ?_⟩; have n0_ := Aside0.mk (Kd.S_below (by (with_reducible repeat (first | apply Kd.S_alloc | apply Kd.S_drewN | apply Kd.S_drew)); exact (Kd.S_mono (Kd.S_far (p := ⟨gb119, 4, none⟩) (Kd.S_far (p := ⟨gb119, 3, none⟩) (Kd.S_far (p := ⟨gb119, 2, none⟩) (Kd.S_far (p := ⟨gb119, 1, none⟩) (Kd.S_far (p := ⟨gb119, 0, none⟩) (Kd.S_types HO109.out BK119.out (by decide)) (fun _ hk => hk.2) (.int .i64 t112)) (fun _ hk => hk.2) (.int .i64 t113)) (fun _ hk => hk.2) (.int .i64 t114)) (fun _ hk => hk.2) (.int .i64 t115)) (fun _ hk => hk.2) (.slice Ao24 t116.length co24)) (fun _ h_ => h_.1))) hb); have n1_ := Aside0.mk (Kd.S_below (by (with_reducible repeat (first | apply Kd.S_alloc | apply Kd.S_drewN | apply Kd.S_drew)); exact (Kd.S_mono (Kd.S_far (p := ⟨gb119, 4, none⟩) (Kd.S_far (p := ⟨gb119, 3, none⟩) (Kd.S_far (p := ⟨gb119, 2, none⟩) (Kd.S_far (p := ⟨gb119, 1, none⟩) (Kd.S_far (p := ⟨gb119, 0, none⟩) (Kd.S_types HO118.out BK119.out (by decide)) (fun _ hk => hk.2) (.int .i64 t112)) (fun _ hk => hk.2) (.int .i64 t113)) (fun _ hk => hk.2) (.int .i64 t114)) (fun _ hk => hk.2) (.int .i64 t115)) (fun _ hk => hk.2) (.slice Ao24 t116.length co24)) (fun _ h_ => h_.1))) hb); have n2_ := Aside0.mk (blk_below (g := gb101) (o := .cells #[.int .i64 a0_0, .int .i64 a0_1, .int .i64 a0_2, .int .i64 a0_3, .slice A0_4 l0_4.length c0_4] 35 (0, 0)) (by (with_reducible repeat (first | refine blk_drewN ?_ _ | refine blk_drew ?_ | refine blk_alloc ?_ _)); refine blk_far ?_ NB101_119.out _; (with_reducible repeat (first | refine blk_drewN ?_ _ | refine blk_drew ?_ | refine blk_alloc ?_ _)); refine blk_far ?_ NB101_119.out _; (with_reducible repeat (first | refine blk_drewN ?_ _ | refine blk_drew ?_ | refine blk_alloc ?_ _)); refine blk_far ?_ NB101_119.out _; (with_reducible repeat (first | refine blk_drewN ?_ _ | refine blk_drew ?_ | refine blk_alloc ?_ _)); refine blk_far ?_ NB101_119.out _; (with_reducible repeat (first | refine blk_drewN ?_ _ | refine blk_drew ?_ | refine blk_alloc ?_ _)); refine blk_far ?_ NB101_119.out _; (with_reducible repeat (first | refine blk_drewN ?_ _ | refine blk_drew ?_ | refine blk_alloc ?_ _)); exact BK101.out) hb); have n3_ := Aside0.mk (blk_below (g := gb119) (o := .cells #[.int .i64 t112, .int .i64 t113, .int .i64 t114, .int .i64 t115, .slice Ao24 t116.length co24] 39 (0, 0)) (by (with_reducible repeat (first | refine blk_drewN ?_ _ | refine blk_drew ?_ | refine blk_alloc ?_ _)); refine blk_put (cs := #[.int .i64 t112, .int .i64 t113, .int .i64 t114, .int .i64 t115, .slice none 0 0]) ?_ 4 _ rfl; (with_reducible repeat (first | refine blk_drewN ?_ _ | refine blk_drew ?_ | refine blk_alloc ?_ _)); refine blk_put (cs := #[.int .i64 t112, .int .i64 t113, .int .i64 t114, .int .i64 0, .slice none 0 0]) ?_ 3 _ rfl; (with_reducible repeat (first | refine blk_drewN ?_ _ | refine blk_drew ?_ | refine blk_alloc ?_ _)); refine blk_put (cs := #[.int .i64 t112, .int .i64 t113, .int .i64 0, .int .i64 0, .slice none 0 0]) ?_ 2 _ rfl; (with_reducible repeat (first | refine blk_drewN ?_ _ | refine blk_drew ?_ | refine blk_alloc ?_ _)); refine blk_put (cs := #[.int .i64 t112, .int .i64 0, .int .i64 0, .int .i64 0, .slice none 0 0]) ?_ 1 _ rfl; (with_reducible repeat (first | refine blk_drewN ?_ _ | refine blk_drew ?_ | refine blk_alloc ?_ _)); refine blk_put (cs := #[.int .i64 0, .int .i64 0, .int .i64 0, .int .i64 0, .slice none 0 0]) ?_ 0 _ rfl; (with_reducible repeat (first | refine blk_drewN ?_ _ | refine blk_drew ?_ | refine blk_alloc ?_ _)); exact BK119.out) hb); have n4_ := Aside0.mk (below_step (by repeat (first | (with_reducible first | exact HB.out | apply below_alloc | apply pw_below_drewN | apply below_drew1 | refine below_set ?_ GE101.out | refine below_set ?_ GE119.out) | exact HB.out)) hb); clear HO109; clear HO118; clear BK101; clear BK119; clear HB; have HO109 := n0_; have HO118 := n1_; have BK101 := n2_; have BK119 := n3_; have HB := n4_; clear n0_ n1_ n2_ n3_ n4_; (try clear hb); (try clear hb2); (try clear hk); (try clear hi)))
    (try simp only [Act.put, List.setIfInBounds_toArray, List.set_cons_zero, List.set_cons_succ])
    go_cut [34] (fun v34 wc => ∃ (kq : Nat) (x34_10 : Bool), v34 = .bool x34_10 ∧ Aside0 (laws_FnExactReplyText.j0 kq x34_10 a0_0 a0_1 a0_2 a0_3 l0_4 t112 t113 t114 t115 t116 = some r) ∧ Aside0 (kq ≤ k) ∧ Aside0 (Kd.S k67 67 wc w.heap.size (fun _ => True) (.slice Ao24 t116.length co24) t116) ∧ Aside0 (wc.heap[gb101]? = some (.cells #[.int .i64 a0_0, .int .i64 a0_1, .int .i64 a0_2, .int .i64 a0_3, (.slice A0_4 l0_4.length c0_4)] 35 (0, 0))) ∧ Aside0 (wc.heap[gb119]? = some (.cells #[.int .i64 t112, .int .i64 t113, .int .i64 t114, .int .i64 t115, (.slice Ao24 t116.length co24)] 39 (0, 0))) ∧ Aside0 (Below w.heap.size w wc))
    case first =>
      have H := HC11.out
      clear HC11
      by_cases c26 : t120.toList = t110.toList
      · rw [if_pos c26] at H
        have c26b0 : (t120.toList == t110.toList) = true := beq_iff_eq.mpr c26
        have c26b1 : (t120.toList != t110.toList) = false := bne_eq_false_iff_eq.mpr c26
        clear c26
        (first | rw [c26b0] | (simp only [i64_w, i32_w]; rw [c26b0]) | skip)
        have H' := Aside0.mk H
        clear H
        go_wp2
        go_meet
        case rel => exact ⟨_, ((t121 != t111)), (by first | rfl | (simp; done) | (simp [*]; done)), H', ⟨by first | omega | exact Nat.le_refl _⟩, ⟨by (with_reducible repeat (first | apply Kd.S_alloc | apply Kd.S_drewN | apply Kd.S_drew)); exact Kd.S_mono HO118.out (fun _ hk => trivial)⟩, ⟨by (with_reducible repeat (first | refine blk_drewN ?_ _ | refine blk_drew ?_ | refine blk_alloc ?_ _)); exact BK101.out⟩, ⟨by (with_reducible repeat (first | refine blk_drewN ?_ _ | refine blk_drew ?_ | refine blk_alloc ?_ _)); exact BK119.out⟩, ⟨by repeat (first | (with_reducible first | exact HB.out | apply below_alloc | apply pw_below_drewN | apply below_drew1 | refine below_set ?_ GE101.out | refine below_set ?_ GE119.out) | exact HB.out)⟩⟩
      · rw [if_neg c26] at H
        have c26b0 : (t120.toList == t110.toList) = false := beq_eq_false_iff_ne.mpr c26
        have c26b1 : (t120.toList != t110.toList) = true := bne_iff_ne.mpr c26
        (first | rw [c26b0] | (simp only [i64_w, i32_w]; rw [c26b0]) | skip)
        have H' := Aside0.mk H
        clear H
        go_wp2
        go_meet
        case rel => exact ⟨_, (true), (by first | rfl | (simp; done) | (simp [*]; done)), H', ⟨by first | omega | exact Nat.le_refl _⟩, ⟨by (with_reducible repeat (first | apply Kd.S_alloc | apply Kd.S_drewN | apply Kd.S_drew)); exact Kd.S_mono HO118.out (fun _ hk => trivial)⟩, ⟨by (with_reducible repeat (first | refine blk_drewN ?_ _ | refine blk_drew ?_ | refine blk_alloc ?_ _)); exact BK101.out⟩, ⟨by (with_reducible repeat (first | refine blk_drewN ?_ _ | refine blk_drew ?_ | refine blk_alloc ?_ _)); exact BK119.out⟩, ⟨by repeat (first | (with_reducible first | exact HB.out | apply below_alloc | apply pw_below_drewN | apply below_drew1 | refine below_set ?_ GE101.out | refine below_set ?_ GE119.out) | exact HB.out)⟩⟩
    case rest =>
      clear HC11
      try clear c1
      try clear c2
      try clear p2
      try clear c3
      try clear c3b0
      try clear c4
      try clear c10
      try clear c11
      try clear c12
      try clear c13
      try clear c22
      try clear c26
      try clear c26b0
      try clear c26b1
      try clear hcz13_0
      try clear hcz13_1
      try clear hcz13_2
      try clear hcz13_3
      try clear hcz13_4
      try clear hcz15_0
      try clear hcz15_1
      try clear hcz15_2
      try clear hcz15_3
      try clear hcz15_4
      try clear hcz19_0
      try clear hcz19_1
      try clear hcz19_2
      try clear hcz19_3
      try clear hcz19_4
      try clear hcz23_0
      try clear hcz23_1
      try clear hcz23_2
      try clear hcz23_3
      try clear hcz23_4
      try clear hcz5_0
      try clear hcz5_1
      try clear hcz5_2
      try clear hcz5_3
      try clear hcz5_4
      try clear hfz13_0
      try clear hfz13_1
      try clear hfz13_2
      try clear hfz13_3
      try clear hfz13_4
      try clear hfz15_0
      try clear hfz15_1
      try clear hfz15_2
      try clear hfz15_3
      try clear hfz15_4
      try clear hfz19_0
      try clear hfz19_1
      try clear hfz19_2
      try clear hfz19_3
      try clear hfz19_4
      try clear hfz23_0
      try clear hfz23_1
      try clear hfz23_2
      try clear hfz23_3
      try clear hfz23_4
      try clear hfz5_0
      try clear hfz5_1
      try clear hfz5_2
      try clear hfz5_3
      try clear hfz5_4
      obtain ⟨kq, x34_10, rfl, HA, HJ10, HO_120004, BK101, BK119, HB⟩ := hcut
      cases kq with
      | zero => exact absurd HA.out (by simp [laws_FnExactReplyText.j0])
      | succ kj10 =>
        have H := HA.out
        clear HA
        simp only [laws_FnExactReplyText.j0] at H
        by_cases c27 : x34_10 = true
        · subst c27
          have H1 : (none) = some r := by rw [if_pos rfl] at H; exact H
          clear H
          have H := H1
          clear H1
          exact absurd H (by simp)
        · replace c27 := Bool.eq_false_iff.mpr c27
          subst c27
          have H1 : ((laws_toReply.f kj10 a0_0 a0_1 a0_2 a0_3 l0_4).bind fun bt122 => ((laws_eqReply.f kj10 t112 t113 t114 t115 t116 bt122.1 bt122.2.1 bt122.2.2.1 bt122.2.2.2.1 bt122.2.2.2.2).bind fun t129 => (if t129 = true then (some true) else (none)))) = some r := by rw [if_neg (show ¬ (false = true) by decide)] at H; exact H
          clear H
          have H := H1
          clear H1
          replace H := Option.bind_eq_some_iff.mp H
          obtain ⟨⟨t122, t123, t124, t125, t126⟩, A280, H⟩ := H
          replace H : ((laws_eqReply.f kj10 t112 t113 t114 t115 t116 t122 t123 t124 t125 t126).bind fun t129 => (if t129 = true then (some true) else (none))) = some r := H
          have A28 := Aside0.mk A280
          clear A280
          replace H := Option.bind_eq_some_iff.mp H
          obtain ⟨t129, A290, H⟩ := H
          replace H : (if t129 = true then (some true) else (none)) = some r := H
          have A29 := Aside0.mk A290
          clear A290
          by_cases c30 : t129 = true
          · subst c30
            have H1 : (some true) = some r := by rw [if_pos rfl] at H; exact H
            clear H
            have H := H1
            clear H1
            obtain rfl := Option.some.inj H
            try go_wp2
            have n0_ := Aside0.mk (Kd.S_drew HO_120004.out)
            have n1_ := Aside0.mk (blk_drew BK101.out)
            have n2_ := Aside0.mk (blk_drew BK119.out)
            have n3_ := Aside0.mk (below_drew1 HB.out)
            clear HO_120004
            clear BK101
            clear BK119
            clear HB
            have HO_120004 := n0_
            have BK101 := n1_
            have BK119 := n2_
            have HB := n3_
            clear n0_ n1_ n2_ n3_
            refine start_ (n := 5) (S := fun w' => w'.cell? ⟨gb119, 0, none⟩ = some (.int .i64 t112) ∧ w'.cell? ⟨gb119, 1, none⟩ = some (.int .i64 t113) ∧ w'.cell? ⟨gb119, 2, none⟩ = some (.int .i64 t114) ∧ w'.cell? ⟨gb119, 3, none⟩ = some (.int .i64 t115) ∧ w'.cell? ⟨gb119, 4, none⟩ = some (.slice Ao24 t116.length co24) ∧ w'.cell? ⟨gb101, 0, none⟩ = some (.int .i64 a0_0) ∧ w'.cell? ⟨gb101, 1, none⟩ = some (.int .i64 a0_1) ∧ w'.cell? ⟨gb101, 2, none⟩ = some (.int .i64 a0_2) ∧ w'.cell? ⟨gb101, 3, none⟩ = some (.int .i64 a0_3) ∧ w'.cell? ⟨gb101, 4, none⟩ = some (.slice A0_4 l0_4.length c0_4)) (ds := []) #[false, false, false, false, false] (by kernel_rfl) rfl rfl ⟨(blk_cell BK119.out 0).trans rfl, (blk_cell BK119.out 1).trans rfl, (blk_cell BK119.out 2).trans rfl, (blk_cell BK119.out 3).trans rfl, (blk_cell BK119.out 4).trans rfl, (blk_cell BK101.out 0).trans rfl, (blk_cell BK101.out 1).trans rfl, (blk_cell BK101.out 2).trans rfl, (blk_cell BK101.out 3).trans rfl, (blk_cell BK101.out 4).trans rfl⟩ (fun hHeld => ?_)
            generalize wc.drew = w31 at HO_120004 BK101 BK119 HB hHeld ⊢
            refine take_ (i := 0) (N := some 35) (v := ?_) (a' := ?_) #[true, false, false, false, false] rfl rfl (by kernel_rfl) (fun _ _ _ h => h) (Or.inl ⟨by rfl, ?_⟩) hHeld ?_ ?_
            rotate_left
            · rintro w' ⟨s0, s1, s2, s3, s4, s5, s6, s7, s8, s9⟩
              go_simp
              with_reducible rfl
            rotate_left
            · simp only [Act.put, List.setIfInBounds_toArray, List.set_cons_zero, List.set_cons_succ, i64_w, i32_w]
              rfl
            refine take_ (i := 1) (N := some 36) (v := ?_) (a' := ?_) #[true, true, false, false, false] rfl rfl (by kernel_rfl) (fun _ _ _ h => h) (Or.inl ⟨by rfl, ?_⟩) hHeld ?_ ?_
            rotate_left
            · rintro w' ⟨s0, s1, s2, s3, s4, s5, s6, s7, s8, s9⟩
              go_simp
              with_reducible rfl
            rotate_left
            · simp only [Act.put, List.setIfInBounds_toArray, List.set_cons_zero, List.set_cons_succ, i64_w, i32_w]
              rfl
            refine one_ (i := 2) (N := some 37) #[true, true, true, false, false] rfl rfl (by kernel_rfl) (by decide) (fun K hK => ?_)
            refine goes_ Try.func12 (by kernel_rfl) rfl #[.agg #[.int .i64 a0_0, .int .i64 a0_1, .int .i64 a0_2, .int .i64 a0_3, .slice A0_4 l0_4.length c0_4]] (by rfl) rfl rfl (by (try simp only [List.map_toArray, List.map_cons, List.map_nil]); first | done | rfl | (simp only [List.length_drop, List.length_take]; rfl)) ?_
            with_reducible refine (laws_toReply.calls kj10 a0_0 a0_1 a0_2 a0_3 _ _ l0_4 t122 t123 t124 t125 t126 _ ?side1 ?side2 A28.out).mono ?_
            (case side1 => repeat (first | exact (Kd.C_below HR0_4.out HB.out) | (with_reducible refine Kd.C_alloc ?_ _) | (with_reducible refine Kd.C_drewN ?_ _) | (with_reducible refine Kd.C_drew ?_)))
            (case side2 => exact HC0_4.out)
            rintro e w32 ⟨v127, rfl, ho0, hb⟩
            refine ⟨_, rfl, ?_⟩
            have n0_ := Aside0.mk (Kd.S_elder' (by (with_reducible repeat (first | apply Kd.S_alloc | apply Kd.S_drewN | apply Kd.S_drew)); exact HO_120004.out) (Kd.S_base ho0) hb)
            have n1_ := Aside0.mk (Kd.S_lower (Kd.S_new' ho0 (Kd.S_lt (by (with_reducible repeat (first | apply Kd.S_alloc | apply Kd.S_drewN | apply Kd.S_drew)); exact HO_120004.out))) (below_size (by repeat (first | (with_reducible first | exact HB.out | apply below_alloc | apply pw_below_drewN | apply below_drew1 | refine below_set ?_ GE101.out | refine below_set ?_ GE119.out) | exact HB.out))))
            have n2_ := Aside0.mk (blk_below (g := gb101) (o := .cells #[.int .i64 a0_0, .int .i64 a0_1, .int .i64 a0_2, .int .i64 a0_3, .slice A0_4 l0_4.length c0_4] 35 (0, 0)) (by (with_reducible repeat (first | refine blk_drewN ?_ _ | refine blk_drew ?_ | refine blk_alloc ?_ _)); exact BK101.out) hb)
            have n3_ := Aside0.mk (blk_below (g := gb119) (o := .cells #[.int .i64 t112, .int .i64 t113, .int .i64 t114, .int .i64 t115, .slice Ao24 t116.length co24] 39 (0, 0)) (by (with_reducible repeat (first | refine blk_drewN ?_ _ | refine blk_drew ?_ | refine blk_alloc ?_ _)); exact BK119.out) hb)
            have n4_ := Aside0.mk (below_step (by repeat (first | (with_reducible first | exact HB.out | apply below_alloc | apply pw_below_drewN | apply below_drew1 | refine below_set ?_ GE101.out | refine below_set ?_ GE119.out) | exact HB.out)) hb)
            clear HO_120004
            clear BK101
            clear BK119
            clear HB
            have HO_120004 := n0_
            have HO128 := n1_
            have BK101 := n2_
            have BK119 := n3_
            have HB := n4_
            clear n0_ n1_ n2_ n3_ n4_
            (try clear hb)
            (try clear hb2)
            (try clear hk)
            (try clear hi)
            (try clear ho0)
            obtain ⟨Ao33, co33, eo33⟩ := Kd.S_slice HO128.out
            (first | subst eo33 | (injection eo33 with f1_ f2_ f3_; have f4_ := f1_.symm; have f5_ := f3_.symm; clear f1_ f2_ f3_; subst f4_; subst f5_))
            refine hK.out _ _ ⟨(blk_cell BK119.out 0).trans rfl, (blk_cell BK119.out 1).trans rfl, (blk_cell BK119.out 2).trans rfl, (blk_cell BK119.out 3).trans rfl, (blk_cell BK119.out 4).trans rfl, (blk_cell BK101.out 0).trans rfl, (blk_cell BK101.out 1).trans rfl, (blk_cell BK101.out 2).trans rfl, (blk_cell BK101.out 3).trans rfl, (blk_cell BK101.out 4).trans rfl⟩ (fun hHeld => ?_)
            clear hK K
            refine norm_ (a' := ?_) ?_ ?_
            rotate_left
            · show Act.put _ (some 37) _ = _
              simp only [Act.put, List.setIfInBounds_toArray, List.set_cons_zero, List.set_cons_succ, i64_w, i32_w]
              rfl
            refine one_ (i := 3) (N := some 38) #[true, true, true, true, false] rfl rfl (by kernel_rfl) (by decide) (fun K hK => ?_)
            refine goes_ Try.func14 (by kernel_rfl) rfl #[.agg #[.int .i64 t112, .int .i64 t113, .int .i64 t114, .int .i64 t115, .slice Ao24 t116.length co24], .agg #[.int .i64 t122, .int .i64 t123, .int .i64 t124, .int .i64 t125, .slice Ao33 t126.length co33]] (by rfl) rfl rfl (by (try simp only [List.map_toArray, List.map_cons, List.map_nil]); first | done | rfl | (simp only [List.length_drop, List.length_take]; rfl)) ?_
            with_reducible refine (laws_eqReply.calls kj10 t112 t113 t114 t115 _ _ t116 t122 t123 t124 t125 _ _ t126 true _ ?side1 ?side2 ?side3 ?side4 A29.out).mono ?_
            (case side1 => repeat (first | exact (Kd.S_reads' HO_120004.out).2.2 | (with_reducible refine Kd.C_alloc ?_ _) | (with_reducible refine Kd.C_drewN ?_ _) | (with_reducible refine Kd.C_drew ?_)))
            (case side2 => exact (Kd.S_reads' HO_120004.out).2.1)
            (case side3 => repeat (first | exact (Kd.S_reads' HO128.out).2.2 | (with_reducible refine Kd.C_alloc ?_ _) | (with_reducible refine Kd.C_drewN ?_ _) | (with_reducible refine Kd.C_drew ?_)))
            (case side4 => exact (Kd.S_reads' HO128.out).2.1)
            rintro e w34 ⟨rfl, hb⟩
            refine ⟨_, rfl, ?_⟩
            have n0_ := Aside0.mk (Kd.S_below (by (with_reducible repeat (first | apply Kd.S_alloc | apply Kd.S_drewN | apply Kd.S_drew)); exact HO_120004.out) hb)
            have n1_ := Aside0.mk (Kd.S_below (by (with_reducible repeat (first | apply Kd.S_alloc | apply Kd.S_drewN | apply Kd.S_drew)); exact HO128.out) hb)
            have n2_ := Aside0.mk (blk_below (g := gb101) (o := .cells #[.int .i64 a0_0, .int .i64 a0_1, .int .i64 a0_2, .int .i64 a0_3, .slice A0_4 l0_4.length c0_4] 35 (0, 0)) (by (with_reducible repeat (first | refine blk_drewN ?_ _ | refine blk_drew ?_ | refine blk_alloc ?_ _)); exact BK101.out) hb)
            have n3_ := Aside0.mk (blk_below (g := gb119) (o := .cells #[.int .i64 t112, .int .i64 t113, .int .i64 t114, .int .i64 t115, .slice Ao24 t116.length co24] 39 (0, 0)) (by (with_reducible repeat (first | refine blk_drewN ?_ _ | refine blk_drew ?_ | refine blk_alloc ?_ _)); exact BK119.out) hb)
            have n4_ := Aside0.mk (below_step (by repeat (first | (with_reducible first | exact HB.out | apply below_alloc | apply pw_below_drewN | apply below_drew1 | refine below_set ?_ GE101.out | refine below_set ?_ GE119.out) | exact HB.out)) hb)
            clear HO_120004
            clear HO128
            clear BK101
            clear BK119
            clear HB
            have HO_120004 := n0_
            have HO128 := n1_
            have BK101 := n2_
            have BK119 := n3_
            have HB := n4_
            clear n0_ n1_ n2_ n3_ n4_
            (try clear hb)
            (try clear hb2)
            (try clear hk)
            (try clear hi)
            refine hK.out _ _ ⟨(blk_cell BK119.out 0).trans rfl, (blk_cell BK119.out 1).trans rfl, (blk_cell BK119.out 2).trans rfl, (blk_cell BK119.out 3).trans rfl, (blk_cell BK119.out 4).trans rfl, (blk_cell BK101.out 0).trans rfl, (blk_cell BK101.out 1).trans rfl, (blk_cell BK101.out 2).trans rfl, (blk_cell BK101.out 3).trans rfl, (blk_cell BK101.out 4).trans rfl⟩ (fun hHeld => ?_)
            clear hK K
            refine norm_ (a' := ?_) ?_ ?_
            rotate_left
            · show Act.put _ (some 38) _ = _
              simp only [Act.put, List.setIfInBounds_toArray, List.set_cons_zero, List.set_cons_succ, i64_w, i32_w]
              rfl
            refine pure_ (i := 4) (N := some 39) (v := ?_) (a' := ?_) #[true, true, true, true, true] rfl rfl (by kernel_rfl) (fun _ _ _ h => h) (Or.inl ⟨by rfl, ?_⟩) ?_ ?_
            rotate_left
            · intro w'
              go_simp
              with_reducible rfl
            rotate_left
            · simp only [Act.put, List.setIfInBounds_toArray, List.set_cons_zero, List.set_cons_succ, i64_w, i32_w]
              rfl
            refine done_ (by kernel_rfl) ?_
            try go_wp2
            go_ret
            exact ⟨by first | rfl | (simp [errW_none, errW_some] <;> rfl) | (simp [*, errW_none, errW_some] <;> rfl), by repeat (first | (with_reducible first | exact HB.out | apply below_alloc | apply pw_below_drewN | apply below_drew1 | refine below_set ?_ GE101.out | refine below_set ?_ GE119.out) | exact HB.out)⟩
          · replace c30 := Bool.eq_false_iff.mpr c30
            subst c30
            have H1 : (none) = some r := by rw [if_neg (show ¬ (false = true) by decide)] at H; exact H
            clear H
            have H := H1
            clear H1
            exact absurd H (by simp)
end Go.Proofs.Ythoeiiecmmagnaa.Q
namespace Go.Proofs.Ythoeiiecmmagnaa.Q
open Go.RowKit Go.Proofs.YthoeiiecmmagnaaW.PrintWords Go.Proofs.YthoeiiecmmagnaaW.PrintLast Go.Proofs.Ythoeiiecmmagnaa.H
set_option linter.unusedVariables false
set_option linter.unusedSimpArgs false
namespace RowFnExactReplyText
def wf_i64 (x : Int) : Prop := (Lit.int .i64 x).wf = true
theorem opn3 : Opn 3 (Kd.int .i64) wf_i64 := opn_int Try.underlying3
def wf_str (x : ByteArray) : Prop := x.size ≤ maxLen
theorem opn9 : Opn 9 Kd.string wf_str := opn_str Try.underlying9
def wf_sl3_i64 (x : List Int) : Prop := (x.length ≤ maxLen ∧ ∀ y_ ∈ x, wf_i64 y_)
theorem opn60 : Opn 60 (Kd.slice 3 (Kd.int .i64)) wf_sl3_i64 := opn_slice Try.underlying60 (by kernel_rfl) opn3
def wf_st_62 (x : S62) : Prop := (Lit.int .i64 x.f0).wf = true ∧ (Lit.int .i64 x.f1).wf = true ∧ (Lit.int .i64 x.f2).wf = true ∧ x.f3.size ≤ maxLen ∧ (x.f4.length ≤ maxLen ∧ ∀ y_ ∈ x.f4, wf_i64 y_)
theorem opn62 : Opn 62 k62 wf_st_62 := by
  intro H enc W fuel cs x h
  obtain ⟨xs, n, _, _, hl, hx, hf⟩ := DataW.trod_struct Try.underlying62 h
  rw [show Try.prog.cellsOf 62 = 5 from by kernel_rfl] at hl
  have hx2 : xs.length = 5 := hx
  have g0 : DataW.trod enc Try.prog W 0 (fun _ => true) true n 3 ((cs.drop 0).take (Try.prog.cellsOf 3)) = some (xs[0]'(by rw [hx2]; decide)) := (hf 0 _ rfl).trans (List.getElem?_eq_getElem (by rw [hx2]; decide))
  obtain ⟨y0, k0, w0⟩ := opn3 enc W n _ _ g0
  rw [show Try.prog.cellsOf 3 = 1 from by kernel_rfl] at k0
  have g1 : DataW.trod enc Try.prog W 0 (fun _ => true) true n 3 ((cs.drop 1).take (Try.prog.cellsOf 3)) = some (xs[1]'(by rw [hx2]; decide)) := (hf 1 _ rfl).trans (List.getElem?_eq_getElem (by rw [hx2]; decide))
  obtain ⟨y1, k1, w1⟩ := opn3 enc W n _ _ g1
  rw [show Try.prog.cellsOf 3 = 1 from by kernel_rfl] at k1
  have g2 : DataW.trod enc Try.prog W 0 (fun _ => true) true n 3 ((cs.drop 2).take (Try.prog.cellsOf 3)) = some (xs[2]'(by rw [hx2]; decide)) := (hf 2 _ rfl).trans (List.getElem?_eq_getElem (by rw [hx2]; decide))
  obtain ⟨y2, k2, w2⟩ := opn3 enc W n _ _ g2
  rw [show Try.prog.cellsOf 3 = 1 from by kernel_rfl] at k2
  have g3 : DataW.trod enc Try.prog W 0 (fun _ => true) true n 9 ((cs.drop 3).take (Try.prog.cellsOf 9)) = some (xs[3]'(by rw [hx2]; decide)) := (hf 3 _ rfl).trans (List.getElem?_eq_getElem (by rw [hx2]; decide))
  obtain ⟨y3, k3, w3⟩ := opn9 enc W n _ _ g3
  rw [show Try.prog.cellsOf 9 = 1 from by kernel_rfl] at k3
  have g4 : DataW.trod enc Try.prog W 0 (fun _ => true) true n 60 ((cs.drop 4).take (Try.prog.cellsOf 60)) = some (xs[4]'(by rw [hx2]; decide)) := (hf 4 _ rfl).trans (List.getElem?_eq_getElem (by rw [hx2]; decide))
  obtain ⟨y4, k4, w4⟩ := opn60 enc W n _ _ g4
  rw [show Try.prog.cellsOf 60 = 1 from by kernel_rfl] at k4
  rw [List.take_of_length_le (by rw [List.length_drop, hl]; decide)] at k4
  exact ⟨⟨y0, y1, y2, y3, y4⟩, ⟨_, _, (List.drop_zero (l := cs)).symm.trans <| cut_ cs 0 1, k0, ⟨_, _, cut_ cs 1 1, k1, ⟨_, _, cut_ cs 2 1, k2, ⟨_, _, cut_ cs 3 1, k3, k4⟩⟩⟩⟩, ⟨w0, w1, w2, w3, w4⟩⟩
def wf_sl62_st_62 (x : List (S62)) : Prop := (x.length ≤ maxLen ∧ ∀ y_ ∈ x, wf_st_62 y_)
theorem opn22 : Opn 22 (Kd.slice 62 k62) wf_sl62_st_62 := opn_slice Try.underlying22 (by kernel_rfl) opn62
theorem opt24 {H : Type} (enc : TypeId × Value → H) (W : World) (fuel : Nat) (cs : List Value) (x : DataW H × List MemPlace) (h : DataW.trod enc Try.prog W 0 (fun _ => true) true fuel 24 cs = some x) :
    ∃ (a0 : Int) (a1 : Int) (A2 : Option Addr) (c2 : Nat) (l2 : List (S62)), cs = [.int .i64 a0, .int .i64 a1, .slice A2 l2.length c2] ∧ wf_i64 a0 ∧ wf_i64 a1 ∧ l2.length ≤ c2 ∧ Kd.C k62 W A2 l2.length l2 ∧ wf_sl62_st_62 l2 := by
  obtain ⟨xs, n, _, _, hl, hx, hf⟩ := DataW.trod_struct Try.underlying24 h
  rw [show Try.prog.cellsOf 24 = 3 from by kernel_rfl] at hl
  have hx2 : xs.length = 3 := hx
  obtain ⟨q0, t0, rfl, b0⟩ := cons_of hl
  obtain ⟨q1, t1, rfl, b1⟩ := cons_of b0
  obtain ⟨q2, t2, rfl, b2⟩ := cons_of b1
  obtain rfl := List.eq_nil_of_length_eq_zero b2
  have g0 : DataW.trod enc Try.prog W 0 (fun _ => true) true n 3 (([q0, q1, q2].drop 0).take (Try.prog.cellsOf 3)) = some (xs[0]'(by rw [hx2]; decide)) := (hf 0 _ rfl).trans (List.getElem?_eq_getElem (by rw [hx2]; decide))
  rw [show Try.prog.cellsOf 3 = 1 from by kernel_rfl] at g0
  simp only [List.drop_zero, List.drop_succ_cons, List.take_succ_cons, List.take_zero] at g0
  obtain ⟨a0, e0, w0⟩ := opn3 enc W n _ _ g0
  cases e0
  have g1 : DataW.trod enc Try.prog W 0 (fun _ => true) true n 3 (([.int .i64 a0, q1, q2].drop 1).take (Try.prog.cellsOf 3)) = some (xs[1]'(by rw [hx2]; decide)) := (hf 1 _ rfl).trans (List.getElem?_eq_getElem (by rw [hx2]; decide))
  rw [show Try.prog.cellsOf 3 = 1 from by kernel_rfl] at g1
  simp only [List.drop_zero, List.drop_succ_cons, List.take_succ_cons, List.take_zero] at g1
  obtain ⟨a1, e1, w1⟩ := opn3 enc W n _ _ g1
  cases e1
  have g2 : DataW.trod enc Try.prog W 0 (fun _ => true) true n 22 (([.int .i64 a0, .int .i64 a1, q2].drop 2).take (Try.prog.cellsOf 22)) = some (xs[2]'(by rw [hx2]; decide)) := (hf 2 _ rfl).trans (List.getElem?_eq_getElem (by rw [hx2]; decide))
  rw [show Try.prog.cellsOf 22 = 1 from by kernel_rfl] at g2
  simp only [List.drop_zero, List.drop_succ_cons, List.take_succ_cons, List.take_zero] at g2
  obtain ⟨l2, ⟨A2, c2, e2, h2, C2⟩, w2⟩ := opn22 enc W n _ _ g2
  cases e2
  exact ⟨a0, a1, A2, c2, l2, rfl, w0, w1, h2, C2, w2⟩
theorem opt35 {H : Type} (enc : TypeId × Value → H) (W : World) (fuel : Nat) (cs : List Value) (x : DataW H × List MemPlace) (h : DataW.trod enc Try.prog W 0 (fun _ => true) true fuel 35 cs = some x) :
    ∃ (a0 : Int) (a1 : Int) (a2 : Int) (a3 : Int) (A4 : Option Addr) (c4 : Nat) (l4 : List (S62)), cs = [.int .i64 a0, .int .i64 a1, .int .i64 a2, .int .i64 a3, .slice A4 l4.length c4] ∧ wf_i64 a0 ∧ wf_i64 a1 ∧ wf_i64 a2 ∧ wf_i64 a3 ∧ l4.length ≤ c4 ∧ Kd.C k62 W A4 l4.length l4 ∧ wf_sl62_st_62 l4 := by
  obtain ⟨xs, n, _, _, hl, hx, hf⟩ := DataW.trod_struct Try.underlying35 h
  rw [show Try.prog.cellsOf 35 = 5 from by kernel_rfl] at hl
  have hx2 : xs.length = 3 := hx
  obtain ⟨q0, t0, rfl, b0⟩ := cons_of hl
  obtain ⟨q1, t1, rfl, b1⟩ := cons_of b0
  obtain ⟨q2, t2, rfl, b2⟩ := cons_of b1
  obtain ⟨q3, t3, rfl, b3⟩ := cons_of b2
  obtain ⟨q4, t4, rfl, b4⟩ := cons_of b3
  obtain rfl := List.eq_nil_of_length_eq_zero b4
  have g0 : DataW.trod enc Try.prog W 0 (fun _ => true) true n 3 (([q0, q1, q2, q3, q4].drop 0).take (Try.prog.cellsOf 3)) = some (xs[0]'(by rw [hx2]; decide)) := (hf 0 _ rfl).trans (List.getElem?_eq_getElem (by rw [hx2]; decide))
  rw [show Try.prog.cellsOf 3 = 1 from by kernel_rfl] at g0
  simp only [List.drop_zero, List.drop_succ_cons, List.take_succ_cons, List.take_zero] at g0
  obtain ⟨a0, e0, w0⟩ := opn3 enc W n _ _ g0
  cases e0
  have g1 : DataW.trod enc Try.prog W 0 (fun _ => true) true n 3 (([.int .i64 a0, q1, q2, q3, q4].drop 1).take (Try.prog.cellsOf 3)) = some (xs[1]'(by rw [hx2]; decide)) := (hf 1 _ rfl).trans (List.getElem?_eq_getElem (by rw [hx2]; decide))
  rw [show Try.prog.cellsOf 3 = 1 from by kernel_rfl] at g1
  simp only [List.drop_zero, List.drop_succ_cons, List.take_succ_cons, List.take_zero] at g1
  obtain ⟨a1, e1, w1⟩ := opn3 enc W n _ _ g1
  cases e1
  have g2 : DataW.trod enc Try.prog W 0 (fun _ => true) true n 24 (([.int .i64 a0, .int .i64 a1, q2, q3, q4].drop 2).take (Try.prog.cellsOf 24)) = some (xs[2]'(by rw [hx2]; decide)) := (hf 2 _ rfl).trans (List.getElem?_eq_getElem (by rw [hx2]; decide))
  rw [show Try.prog.cellsOf 24 = 3 from by kernel_rfl] at g2
  simp only [List.drop_zero, List.drop_succ_cons, List.take_succ_cons, List.take_zero] at g2
  obtain ⟨a2, a3, A4, c4, l4, e2, w2, w3, h4, C4, w4⟩ := opt24 enc W n _ _ g2
  cases e2
  exact ⟨a0, a1, a2, a3, A4, c4, l4, rfl, w0, w1, w2, w3, h4, C4, w4⟩
end RowFnExactReplyText
open RowFnExactReplyText in
def laws_FnExactReplyText.Pure : Prop := ∀ (a0_0 : Int) (a0_1 : Int) (a0_2 : Int) (a0_3 : Int) (l0_4 : List (S62)), wf_i64 a0_0 → wf_i64 a0_1 → wf_i64 a0_2 → wf_i64 a0_3 → wf_sl62_st_62 l0_4 → ∃ k, laws_FnExactReplyText.f k a0_0 a0_1 a0_2 a0_3 l0_4 = some true
end Go.Proofs.Ythoeiiecmmagnaa.Q
set_option linter.unusedVariables false
set_option linter.unusedSimpArgs false
namespace Go.Proofs.Ythoeiiecmmagnaa.H
open Go.RowKit Go.Proofs.YthoeiiecmmagnaaW.PrintWords Go.Proofs.YthoeiiecmmagnaaW.PrintLast Go.Proofs.YthoeiiecmmagnaaW.PrintMore Go.Proofs.Ythoeiiecmmagnaa.Q
theorem rdI {xs : List Int} {i : Nat} (h : i < xs.length) : rd xs (i : Int) = xs[i] := by unfold rd; rw [Int.toNat_natCast, List.getD_eq_getElem?_getD, List.getElem?_eq_getElem h]; rfl
theorem in_f (a b c : Int) : spec_l01In.f a b c = some (decide (b ≤ a ∧ a ≤ c)) := by
  unfold spec_l01In.f
  by_cases h : a ≥ b
  · rw [if_pos h]; congr 1; simp; omega
  · rw [if_neg h]; congr 1; simp; omega
theorem l02Has_loop (l : List Int) (a : Int) (hl : l.length ≤ 4096) (d : Nat) : ∀ (i k : Nat), i + d = l.length → spec_l02Has.l0 (k + d + 1) l a i = some (decide (a ∈ l.drop i)) := by
  induction d with
  | zero => intro i k hi; rw [spec_l02Has.l0, if_neg (by omega), List.drop_of_length_le (by omega)]; simp
  | succ d ih =>
    intro i k hi
    rw [spec_l02Has.l0, if_pos (by omega), if_pos (by omega), rdI (by omega), w64_nat (by omega), List.drop_eq_getElem_cons (by omega)]
    by_cases e : l[i] = a
    · rw [if_pos e]; simp [e]
    · rw [if_neg e, show k + (d + 1) = k + d + 1 by omega, ih (i + 1) k (by omega)]
      have : ¬ a = l[i] := fun h => e h.symm
      exact congrArg some (decide_eq_decide.2 ⟨fun h => List.mem_cons_of_mem _ h, fun h => (List.mem_cons.1 h).resolve_left this⟩)
theorem l02Has_eq {l : List Int} {a : Int} (hl : l.length ≤ 4096) : Ev (fun k => spec_l02Has.f k l a) (decide (a ∈ l)) :=
  Ev.val (l.length + 1) fun k => by
    have := l02Has_loop l a hl l.length 0 k (by omega)
    rw [List.drop_zero] at this
    exact this
def atP (ns : List Nd) (id : Int) : Int := match ns.findIdx? (fun x => x.f0 == id) with | some i => (i : Int) | none => -1
theorem l02At_loop (root next : Int) (ns : List Nd) (id : Int) (hl : ns.length ≤ 4096) (d : Nat) : ∀ (i k : Nat), i + d = ns.length → spec_l02At.l0 (k + d + 1) id i root next ns = some (match (ns.drop i).findIdx? (fun x => x.f0 == id) with | some j => ((i + j : Nat) : Int) | none => -1) := by
  induction d with
  | zero => intro i k hi; rw [spec_l02At.l0, if_neg (by omega), List.drop_of_length_le (by omega)]; rfl
  | succ d ih =>
    intro i k hi
    have hr := rdN_get (ns := ns) (t := i) (by omega)
    rw [spec_l02At.l0, if_pos (by omega), if_pos (by omega), show rd_T67 ns (i : Int) = ns[i] from hr, w64_nat (by omega), List.drop_eq_getElem_cons (by omega), List.findIdx?_cons]
    by_cases e : ns[i].f0 = id
    · rw [if_pos e]; simp [e]
    · rw [if_neg e, show k + (d + 1) = k + d + 1 by omega, ih (i + 1) k (by omega), if_neg (by simpa using e)]
      cases (ns.drop (i + 1)).findIdx? (fun x => x.f0 == id) with
      | none => rfl
      | some j =>
        show some (((i + 1 + j : Nat) : Int)) = some (((i + (j + 1) : Nat)) : Int)
        rw [show i + 1 + j = i + (j + 1) by omega]
theorem l02At_eq {root next : Int} {ns : List Nd} {id : Int} (hl : ns.length ≤ 4096) : Ev (fun k => spec_l02At.f k root next ns id) (atP ns id) :=
  Ev.val (ns.length + 1) fun k => by
    have := l02At_loop root next ns id hl ns.length 0 k (by omega)
    rw [List.drop_zero] at this
    refine this.trans ?_
    unfold atP
    cases ns.findIdx? (fun x => x.f0 == id) with
    | none => rfl
    | some j => simp
theorem atP_has {ns : List Nd} {id : Int} (h : hasP ns id = true) : ∃ t : Nat, t < ns.length ∧ atP ns id = t ∧ (rdN ns (t : Int)).f0 = id := by
  unfold atP
  cases e : ns.findIdx? (fun x => x.f0 == id) with
  | none =>
    rw [List.findIdx?_eq_none_iff] at e
    obtain ⟨x, hx, hp⟩ := List.any_eq_true.1 h
    exact absurd hp (by rw [e x hx]; decide)
  | some t =>
    obtain ⟨h1, h2, _⟩ := List.findIdx?_eq_some_iff_getElem.1 e
    exact ⟨t, h1, rfl, by rw [rdN_get h1]; simpa using h2⟩
theorem atP_no {ns : List Nd} {id : Int} (h : hasP ns id = false) : atP ns id = -1 := by
  unfold atP
  have : ns.findIdx? (fun x => x.f0 == id) = none := by
    rw [List.findIdx?_eq_none_iff]
    intro x hx
    exact by simpa using List.any_eq_false.1 h x hx
  rw [this]
theorem atP_iff {ns : List Nd} {id : Int} : 0 ≤ atP ns id ↔ hasP ns id = true := by
  cases h : hasP ns id with
  | true => obtain ⟨t, _, e, _⟩ := atP_has h; rw [e]; simp
  | false => rw [atP_no h]; simp
instance (next : Int) (x : Nd) : Decidable (NodeOK next x) := by unfold NodeOK; infer_instance
theorem l02Node_eq {next : Int} {x : Nd} (hn : 2 ≤ next ∧ next ≤ 999999) : spec_l02Node.f x.f0 x.f1 x.f2 x.f3 x.f4 next = some (decide (NodeOK next x)) := by
  have hw : wrap64 (next - 1) = next - 1 := by unfold wrap64; omega
  unfold spec_l02Node.f spec_l02Kind.f
  simp only [in_f, hw, Option.bind_some, decide_eq_true_eq]
  by_cases h1 : 1 ≤ x.f0 ∧ x.f0 ≤ next - 1
  · rw [if_pos h1]
    by_cases h2 : 1 ≤ x.f1 ∧ x.f1 ≤ 8
    · rw [if_pos h2]
      by_cases h3 : 0 ≤ x.f2 ∧ x.f2 ≤ 99
      · rw [if_pos h3]
        by_cases h4 : (x.f3.size : Int) ≤ 20
        · rw [if_pos h4]
          congr 1
          exact decide_eq_decide.2 ⟨fun h5 => ⟨h1, h2, h3, by omega, by omega⟩, fun h => by have := h.2.2.2.2; omega⟩
        · rw [if_neg h4]; congr 1; exact (decide_eq_false (fun h => h4 (by have := h.2.2.2.1; omega))).symm
      · rw [if_neg h3]; congr 1; exact (decide_eq_false (fun h => h3 h.2.2.1)).symm
    · rw [if_neg h2]; congr 1; exact (decide_eq_false (fun h => h2 h.2.1)).symm
  · rw [if_neg h1]; congr 1; exact (decide_eq_false (fun h => h1 h.1)).symm
def NODES (root next : Int) (ns : List Nd) : Prop := (∀ t : Nat, t < ns.length → StepOK next ns t) ∧ SetOK root ns (kidsAll ns) ∧ (kidsAll ns).length + 1 = ns.length ∧ hasP ns root = true
theorem Bk.no {b : Bool} {P : Prop} (h : Bk b P) (hn : ¬ P) : b = false := by cases b with | false => rfl | true => exact absurd (h.1 rfl) hn
theorem Bk.yes {b : Bool} {P : Prop} (h : Bk b P) (hn : P) : b = true := h.2 hn
theorem l02Nodes_loop {root next : Int} {ns : List Nd} (hn : 2 ≤ next ∧ next ≤ 999999) (hl : 1 ≤ ns.length ∧ ns.length ≤ 40) (b : Bool) (hb : Bk b (NODES root next ns)) (d : Nat) :
    ∀ i : Nat, i + d = ns.length → (∀ t : Nat, t < i → StepOK next ns t) → SetOK root ns (kidsTo ns i) → Ev (fun k => spec_l02Nodes.l0 k (kidsTo ns i) i root next ns) b := by
  induction d with
  | zero =>
    intro i hi hs hk
    obtain rfl : i = ns.length := by omega
    rw [kidsTo_all] at hk ⊢
    have hw : wrap64 ((ns.length : Int) - 1) = (ns.length : Int) - 1 := by unfold wrap64; omega
    by_cases e : (kidsAll ns).length + 1 = ns.length
    · refine Ev.step (f := fun k => (spec_l02At.f k root next ns root).bind fun t => some (decide (t ≥ 0))) (fun k => ?_) ((l02At_eq (by omega)).bind (Ev.const ?_))
      · rw [spec_l02Nodes.l0, if_neg (by omega), hw, if_pos (by omega)]
      · congr 1
        cases h : hasP ns root with
        | true => rw [hb.yes ⟨hs, hk, e, h⟩]; exact decide_eq_true (atP_iff.2 h)
        | false => rw [hb.no (fun hh => by have := hh.2.2.2; rw [h] at this; exact absurd this (by decide)), atP_no h]; rfl
    · refine Ev.val 1 fun k => ?_
      rw [spec_l02Nodes.l0, if_neg (by omega), hw, if_neg (by omega), hb.no (fun hh => e hh.2.2.1)]
  | succ d ih =>
    intro i hi hs hk
    have hr : rd_T67 ns (i : Int) = ns[i]'(by omega) := rdN_get (by omega)
    have key : StepOK next ns i → Ev (fun k => spec_l02Nodes.l1 k (kidsTo ns i) i 0 root next ns ns[i].f0 ns[i].f1 ns[i].f2 ns[i].f3 ns[i].f4) b := by
      intro hst
      have hs2 : ∀ t : Nat, t < i + 1 → StepOK next ns t := fun t ht => by
        by_cases q : t < i
        · exact hs t q
        · obtain rfl : t = i := by omega
          exact hst
      have h4 : (rdN ns (i : Int)).f4 = ns[i].f4 := by rw [rdN_get (by omega)]
      have h12 : ns[i].f4.length ≤ 12 := by rw [← h4]; exact hst.1.2.2.2.2
      have inner : ∀ (e j : Nat), j + e = ns[i].f4.length → SetOK root ns (kidsTo ns i ++ ns[i].f4.take j) → Ev (fun k => spec_l02Nodes.l1 k (kidsTo ns i ++ ns[i].f4.take j) i j root next ns ns[i].f0 ns[i].f1 ns[i].f2 ns[i].f3 ns[i].f4) b := by
        intro e
        induction e with
        | zero =>
          intro j hj hk2
          have ej : j = ns[i].f4.length := by omega
          rw [ej, List.take_length] at hk2 ⊢
          have e1 : kidsTo ns i ++ ns[i].f4 = kidsTo ns (i + 1) := by rw [kidsTo_step (by omega), h4]
          rw [e1] at hk2 ⊢
          refine Ev.step (f := fun k => spec_l02Nodes.l0 k (kidsTo ns (i + 1)) ((i + 1 : Nat) : Int) root next ns) (fun k => ?_) (ih (i + 1) (by omega) hs2 hk2)
          rw [spec_l02Nodes.l1, if_neg (by omega), w64_nat (by omega)]
        | succ e ihe =>
          intro j hj hk2
          have hjl : j < ns[i].f4.length := by omega
          obtain ⟨rest, hsp⟩ := kids_split (ns := ns) (j := i) (i := j) (by omega) (by rw [h4]; exact hjl)
          simp only [h4] at hsp
          have htk : ns[i].f4.take (j + 1) = ns[i].f4.take j ++ [ns[i].f4[j]] := by rw [List.take_add_one, List.getElem?_eq_getElem hjl]; rfl
          have hll : (kidsTo ns i ++ ns[i].f4.take j).length ≤ 4096 := by
            have h1 : (kidsTo ns i).length ≤ i * 12 := by
              have : ∀ q, q ≤ i → (kidsTo ns q).length ≤ q * 12 := by
                intro q
                induction q with
                | zero => intro _; simp [kidsTo]
                | succ q ihq =>
                  intro hq
                  have a1 := ihq (by omega)
                  have a2 := (hs q (by omega)).1.2.2.2.2
                  rw [kidsTo_step (by omega), List.length_append, Nat.succ_mul]; omega
              exact this i (Nat.le_refl _)
            rw [List.length_append, List.length_take]; omega
          have hbad : ∀ (P : Prop), (SetOK root ns (kidsAll ns) → P) → ¬ P → b = false := fun P h1 h2 => hb.no (fun hh => h2 (h1 hh.2.1))
          by_cases e1 : ns[i].f4[j] = root
          · have hf := hbad _ (fun h => (set_bad (hsp ▸ h)).2.1) (fun h => h e1)
            refine Ev.val 1 fun k => ?_
            rw [spec_l02Nodes.l1, if_pos (by omega), if_pos (by omega), rdI hjl, if_pos e1, hf]
          · refine Ev.step (f := fun k => (spec_l02Has.f k (kidsTo ns i ++ ns[i].f4.take j) ns[i].f4[j]).bind fun t => if t = true then some false else (spec_l02At.f k root next ns ns[i].f4[j]).bind fun t2 => if t2 < 0 then some false else spec_l02Nodes.l1 k (kidsTo ns i ++ ns[i].f4.take (j + 1)) i ((j + 1 : Nat) : Int) root next ns ns[i].f0 ns[i].f1 ns[i].f2 ns[i].f3 ns[i].f4) (fun k => ?_) ((l02Has_eq hll).bind ?_)
            · rw [spec_l02Nodes.l1, if_pos (by omega), if_pos (by omega), rdI hjl, if_neg e1, w64_nat (by omega), if_pos (by omega), htk, List.append_assoc]
            · by_cases e2 : ns[i].f4[j] ∈ kidsTo ns i ++ ns[i].f4.take j
              · have hf := hbad _ (fun h => (set_bad (hsp ▸ h)).1) (fun h => h e2)
                simp only [decide_eq_true e2, if_true, hf]
                exact Ev.const rfl
              · simp only [decide_eq_false e2, Bool.false_eq_true, if_false]
                refine (l02At_eq (by omega)).bind ?_
                cases e3 : hasP ns ns[i].f4[j] with
                | false =>
                  have hf := hbad _ (fun h => (set_bad (hsp ▸ h)).2.2) (by rw [e3]; decide)
                  simp only [atP_no e3, hf]
                  exact Ev.const rfl
                | true =>
                  have h0 := atP_iff.2 e3
                  refine Ev.congr (fun k => if_neg (by omega)) (ihe (j + 1) (by omega) ?_)
                  rw [htk, ← List.append_assoc]
                  exact set_step hk2 e2 e1 e3
      have := inner ns[i].f4.length 0 (by omega) (by simpa using hk)
      simpa using this
    by_cases h1 : NodeOK next ns[i]
    · by_cases hi0 : i = 0
      · subst hi0
        have hst : StepOK next ns 0 := ⟨by rw [rdN_get (by omega)]; exact h1, fun y hy => by omega⟩
        refine Ev.step (f := fun k => spec_l02Nodes.j1 k (kidsTo ns 0) ((0 : Nat) : Int) false root next ns ns[0].f0 ns[0].f1 ns[0].f2 ns[0].f3 ns[0].f4) (fun k => ?_) (Ev.step (fun k => ?_) (key hst))
        · rw [spec_l02Nodes.l0, if_pos (by omega), if_pos (by omega), hr, l02Node_eq hn, decide_eq_true h1, Option.bind_some, if_pos rfl, if_neg (by simp)]
        · rw [spec_l02Nodes.j1, if_neg (by simp)]
      · obtain ⟨y, rfl⟩ : ∃ y, i = y + 1 := ⟨i - 1, by omega⟩
        have hw : wrap64 (((y + 1 : Nat) : Int) - 1) = (y : Int) := by unfold wrap64; omega
        have hr2 : rd_T67 ns (y : Int) = ns[y]'(by omega) := rdN_get (by omega)
        have hstep : ∀ c, ∀ k, decide (ns[y + 1].f0 ≤ ns[y].f0) = c → spec_l02Nodes.l0 (k + 1) (kidsTo ns (y + 1)) ((y + 1 : Nat) : Int) root next ns = spec_l02Nodes.j1 k (kidsTo ns (y + 1)) ((y + 1 : Nat) : Int) c root next ns ns[y + 1].f0 ns[y + 1].f1 ns[y + 1].f2 ns[y + 1].f3 ns[y + 1].f4 := fun c k hc => by
          rw [spec_l02Nodes.l0, if_pos (by omega), if_pos (by omega), hr, l02Node_eq hn, decide_eq_true h1, Option.bind_some, if_pos rfl, if_pos (by omega), hw, if_pos (by omega), if_pos (by omega), hr2, hc]
        by_cases e : ns[y + 1].f0 ≤ ns[y].f0
        · have hf := hb.no (fun hh => by have := (hh.1 (y + 1) (by omega)).2 y rfl; rw [rdN_get (by omega), rdN_get (by omega)] at this; omega)
          refine Ev.step (fun k => hstep true k (decide_eq_true e)) (Ev.val 1 fun k => ?_)
          rw [spec_l02Nodes.j1, if_pos rfl, hf]
        · have hst : StepOK next ns (y + 1) := ⟨by rw [rdN_get (by omega)]; exact h1, fun y' hy' => by
            obtain rfl : y' = y := by omega
            rw [rdN_get (by omega), rdN_get (by omega)]; omega⟩
          refine Ev.step (fun k => hstep false k (decide_eq_false e)) (Ev.step (fun k => ?_) (key hst))
          rw [spec_l02Nodes.j1, if_neg (by simp)]
    · have hf := hb.no (fun hh => h1 (by have := (hh.1 i (by omega)).1; rwa [rdN_get (by omega)] at this))
      by_cases hi0 : (i : Int) > 0
      · refine Ev.step (f := fun k => spec_l02Nodes.j1 k (kidsTo ns i) i true root next ns ns[i].f0 ns[i].f1 ns[i].f2 ns[i].f3 ns[i].f4) (fun k => ?_) (Ev.val 1 fun k => ?_)
        · rw [spec_l02Nodes.l0, if_pos (by omega), if_pos (by omega), hr, l02Node_eq hn, decide_eq_false h1, Option.bind_some, if_neg (by simp)]
        · rw [spec_l02Nodes.j1, if_pos rfl, hf]
      · refine Ev.step (f := fun k => spec_l02Nodes.j1 k (kidsTo ns i) i true root next ns ns[i].f0 ns[i].f1 ns[i].f2 ns[i].f3 ns[i].f4) (fun k => ?_) (Ev.val 1 fun k => ?_)
        · rw [spec_l02Nodes.l0, if_pos (by omega), if_pos (by omega), hr, l02Node_eq hn, decide_eq_false h1, Option.bind_some, if_neg (by simp)]
        · rw [spec_l02Nodes.j1, if_pos rfl, hf]
theorem l02Nodes_eq {root next : Int} {ns : List Nd} (hn : 2 ≤ next ∧ next ≤ 999999) (hl : 1 ≤ ns.length ∧ ns.length ≤ 40) (b : Bool) (hb : Bk b (NODES root next ns)) : Ev (fun k => spec_l02Nodes.f k root next ns) b := by
  have := l02Nodes_loop hn hl b hb ns.length 0 (by omega) (fun t ht => absurd ht (Nat.not_lt_zero _)) ⟨List.nodup_nil, fun k hk => absurd hk (by simp [kidsTo])⟩
  exact this
end Go.Proofs.Ythoeiiecmmagnaa.H
set_option linter.unusedVariables false
set_option linter.unusedSimpArgs false
namespace Go.Proofs.Ythoeiiecmmagnaa.H
open Go.RowKit Go.Proofs.YthoeiiecmmagnaaW.PrintWords Go.Proofs.YthoeiiecmmagnaaW.PrintLast Go.Proofs.YthoeiiecmmagnaaW.PrintMore Go.Proofs.Ythoeiiecmmagnaa.Q
def parP (ns : List Nd) (id : Int) : Int := ((ns.find? (fun x => decide (id ∈ x.f4))).map (·.f0)).getD 0
theorem l02Parent_loop (root next : Int) (ns : List Nd) (id : Int) (hl : ns.length ≤ 4096) (h4 : ∀ x ∈ ns, x.f4.length ≤ 4096) (d : Nat) : ∀ i : Nat, i + d = ns.length → Ev (fun k => spec_l02Parent.l0 k id i root next ns) (((ns.drop i).find? (fun x => decide (id ∈ x.f4))).map (·.f0) |>.getD 0) := by
  induction d with
  | zero =>
    intro i hi
    refine Ev.val 1 fun k => ?_
    rw [spec_l02Parent.l0, if_neg (by omega), List.drop_of_length_le (by omega)]; rfl
  | succ d ih =>
    intro i hi
    have hr : rd_T67 ns (i : Int) = ns[i]'(by omega) := rdN_get (by omega)
    refine Ev.step (f := fun k => (spec_l02Has.f k ns[i].f4 id).bind fun t => if t = true then some ns[i].f0 else spec_l02Parent.l0 k id ((i + 1 : Nat) : Int) root next ns) (fun k => ?_) ((l02Has_eq (h4 _ (List.getElem_mem _))).bind ?_)
    · rw [spec_l02Parent.l0, if_pos (by omega), if_pos (by omega), hr, w64_nat (by omega)]
    · rw [List.drop_eq_getElem_cons (by omega), List.find?_cons]
      by_cases e : id ∈ ns[i].f4
      · simp only [decide_eq_true e, if_true]; exact Ev.const rfl
      · simp only [decide_eq_false e, Bool.false_eq_true, if_false]; exact ih (i + 1) (by omega)
theorem l02Parent_eq {root next : Int} {ns : List Nd} {id : Int} (hl : ns.length ≤ 4096) (h4 : ∀ x ∈ ns, x.f4.length ≤ 4096) : Ev (fun k => spec_l02Parent.f k root next ns id) (parP ns id) := by
  have := l02Parent_loop root next ns id hl h4 ns.length 0 (by omega)
  rw [List.drop_zero] at this
  exact this
def rch (ns : List Nd) (root : Int) : Nat → Int → Bool
  | 0, x => x == root
  | f + 1, x => x == root || (decide (x > 0) && rch ns root f (parP ns x))
theorem l02Reach_l1 {root next : Int} {ns : List Nd} (hl : ns.length ≤ 4000) (h4 : ∀ x ∈ ns, x.f4.length ≤ 4096) (i : Nat) (hi : i < ns.length) (rest : Bool) (hr : Ev (fun k => spec_l02Reach.l0 k ((i + 1 : Nat) : Int) root next ns) rest) (f : Nat) :
    ∀ (x : Int) (s : Nat), f + s = ns.length + 1 → Ev (fun k => spec_l02Reach.l1 k i x s root next ns) (rch ns root f x && rest) := by
  induction f with
  | zero =>
    intro x s hs
    by_cases e : x = root
    · refine Ev.step (f := fun k => spec_l02Reach.l0 k ((i + 1 : Nat) : Int) root next ns) (fun k => ?_) (by simpa [rch, e] using hr)
      rw [spec_l02Reach.l1, if_pos e, w64_nat (by omega)]
    · refine Ev.val 1 fun k => ?_
      rw [spec_l02Reach.l1, if_neg e]
      have : rch ns root 0 x = false := by simp [rch, e]
      rw [this]
      by_cases g : x > 0
      · rw [if_pos g, if_neg (by omega)]; rfl
      · rw [if_neg g]; rfl
  | succ f ih =>
    intro x s hs
    by_cases e : x = root
    · refine Ev.step (f := fun k => spec_l02Reach.l0 k ((i + 1 : Nat) : Int) root next ns) (fun k => ?_) (by simpa [rch, e] using hr)
      rw [spec_l02Reach.l1, if_pos e, w64_nat (by omega)]
    · by_cases g : x > 0
      · refine Ev.step (f := fun k => (spec_l02Parent.f k root next ns x).bind fun t => spec_l02Reach.l1 k i t ((s + 1 : Nat) : Int) root next ns) (fun k => ?_) ((l02Parent_eq (by omega) h4).bind ?_)
        · rw [spec_l02Reach.l1, if_neg e, if_pos g, if_pos (by omega), w64_nat (by omega)]
        · have h1 : rch ns root (f + 1) x = rch ns root f (parP ns x) := by simp [rch, e, g]
          rw [h1]
          exact ih (parP ns x) (s + 1) (by omega)
      · refine Ev.val 1 fun k => ?_
        have h1 : rch ns root (f + 1) x = false := by simp [rch, e, g]
        rw [spec_l02Reach.l1, if_neg e, if_neg g, h1]; rfl
theorem l02Reach_eq {root next : Int} {ns : List Nd} (hl : ns.length ≤ 4000) (h4 : ∀ x ∈ ns, x.f4.length ≤ 4096) : Ev (fun k => spec_l02Reach.f k root next ns) (ns.all (fun x => rch ns root (ns.length + 1) x.f0)) := by
  have key : ∀ (d i : Nat), i + d = ns.length → Ev (fun k => spec_l02Reach.l0 k i root next ns) ((ns.drop i).all (fun x => rch ns root (ns.length + 1) x.f0)) := by
    intro d
    induction d with
    | zero =>
      intro i hi
      refine Ev.val 1 fun k => ?_
      rw [spec_l02Reach.l0, if_neg (by omega), List.drop_of_length_le (by omega)]; rfl
    | succ d ih =>
      intro i hi
      have hr : rd_T67 ns (i : Int) = ns[i]'(by omega) := rdN_get (by omega)
      refine Ev.step (f := fun k => spec_l02Reach.l1 k i ns[i].f0 0 root next ns) (fun k => ?_) ?_
      · rw [spec_l02Reach.l0, if_pos (by omega), if_pos (by omega), hr]
      · rw [List.drop_eq_getElem_cons (by omega), List.all_cons]
        exact l02Reach_l1 hl h4 i (by omega) _ (ih (i + 1) (by omega)) (ns.length + 1) ns[i].f0 0 (by omega)
  have := key ns.length 0 (by omega)
  rw [List.drop_zero] at this
  exact this
theorem l02Deep_eq {root next : Int} {ns : List Nd} (hG : Good ns) (hK : KidsIn ns) (m : Nat) : ∀ id : Int, m ≤ 6 → hasP ns id = true → Ev (fun k => spec_l02Deep.f k root next ns id m) (depP ns (m + 1) id) := by
  induction m with
  | zero =>
    intro id hm hh
    refine Ev.val 1 fun k => ?_
    have h0 : ∀ l : List Int, l.foldl (fun d k => mx d (depP ns 0 k)) 0 = 0 := by
      intro l
      induction l with
      | nil => rfl
      | cons a l ih => rw [List.foldl_cons]; exact ih
    rw [spec_l02Deep.f, if_pos (show ((0 : Nat) : Int) = 0 from rfl)]
    show _ = some ((kidsOf ns id).foldl (fun d k => mx d (depP ns 0 k)) 0 + 1)
    rw [h0]; rfl
  | succ m ih =>
    intro id hm hh
    obtain ⟨t, ht, hat, hid⟩ := atP_has hh
    have hks := kidsOf_at hG.2 ht hid
    have hki := hK t ht
    rw [rdN_get ht] at hks hki
    have hr : rd_T67 ns (t : Int) = ns[t] := rdN_get ht
    have loop : ∀ (d i : Nat), i + d = ns[t].f4.length → Ev (fun k => spec_l02Deep.l0 k ((m + 1 : Nat) : Int) ((ns[t].f4.take i).foldl (fun d k => mx d (depP ns (m + 1) k)) 0) ns[t].f4 i root next ns) (ns[t].f4.foldl (fun d k => mx d (depP ns (m + 1) k)) 0 + 1) := by
      intro d
      induction d with
      | zero =>
        intro i hi
        refine Ev.val 1 fun k => ?_
        have hrg := depP_range ns (m + 2) id
        have e1 : depP ns (m + 2) id = ns[t].f4.foldl (fun d k => mx d (depP ns (m + 1) k)) 0 + 1 := by
          show (kidsOf ns id).foldl _ 0 + 1 = _
          rw [hks]
        rw [e1] at hrg
        rw [spec_l02Deep.l0, if_neg (by omega), List.take_of_length_le (by omega)]
        generalize ns[t].f4.foldl (fun d k => mx d (depP ns (m + 1) k)) 0 = z at hrg ⊢
        rw [wid (by omega) (by omega)]
      | succ d ihd =>
        intro i hi
        have hil : i < ns[t].f4.length := by omega
        have h12 := hki.1
        refine Ev.step (f := fun k => (spec_l02Deep.f k root next ns ns[t].f4[i] (m : Int)).bind fun x => spec_l02Deep.l0 k ((m + 1 : Nat) : Int) (mx ((ns[t].f4.take i).foldl (fun d k => mx d (depP ns (m + 1) k)) 0) x) ns[t].f4 ((i + 1 : Nat) : Int) root next ns) (fun k => ?_) ((ih ns[t].f4[i] (by omega) (hki.2 _ (List.getElem_mem hil)).1).bind ?_)
        · rw [spec_l02Deep.l0, if_pos (by omega), if_pos (by omega), rdI hil, w64_nat (by omega), show wrap64 (((m + 1 : Nat) : Int) - 1) = (m : Int) from by unfold wrap64; omega]
        · rw [← take_foldl ns (m + 1) ns[t].f4 i hil 0]
          exact ihd (i + 1) (by omega)
    have h0 := loop ns[t].f4.length 0 (by omega)
    refine Ev.step (f := fun k => (spec_l02At.f k root next ns id).bind fun x => if 0 ≤ x then (if x < (ns.length : Int) then spec_l02Deep.l0 k ((m + 1 : Nat) : Int) 0 ((rd_T67 ns x).f4) 0 root next ns else none) else none) (fun k => ?_) ((l02At_eq hG.1).bind ?_)
    · rw [spec_l02Deep.f, if_neg (by omega)]
    · rw [hat]
      refine Ev.congr (fun k => (if_pos (by omega)).trans ((if_pos (by omega)).trans (by rw [hr]))) ?_
      show Ev _ ((kidsOf ns id).foldl (fun d k => mx d (depP ns (m + 1) k)) 0 + 1)
      rw [hks]
      exact h0
end Go.Proofs.Ythoeiiecmmagnaa.H
set_option linter.unusedVariables false
set_option linter.unusedSimpArgs false
namespace Go.Proofs.Ythoeiiecmmagnaa.H
open Go.RowKit Go.Proofs.YthoeiiecmmagnaaW.PrintWords Go.Proofs.YthoeiiecmmagnaaW.PrintLast Go.Proofs.YthoeiiecmmagnaaW.PrintMore Go.Proofs.Ythoeiiecmmagnaa.Q
theorem len_le : ∀ {l1 l2 : List Int}, l1.Nodup → (∀ x ∈ l1, x ∈ l2) → l1.length ≤ l2.length
  | [], _, _, _ => Nat.zero_le _
  | a :: l1, l2, hn, hs => by
    have ha : a ∈ l2 := hs a (by simp)
    rw [List.nodup_cons] at hn
    have h1 := len_le (l1 := l1) (l2 := l2.erase a) hn.2 (fun x hx => (List.mem_erase_of_ne (fun (e : x = a) => hn.1 (by rw [← e]; exact hx))).2 (hs x (by simp [hx])))
    rw [List.length_erase_of_mem ha] at h1
    have : 0 < l2.length := List.length_pos_of_mem ha
    rw [List.length_cons]; omega
theorem sub_eq {l1 l2 : List Int} (hn : l1.Nodup) (hs : ∀ x ∈ l1, x ∈ l2) (hl : l2.length ≤ l1.length) : ∀ x ∈ l2, x ∈ l1 := by
  intro a ha
  by_cases h : a ∈ l1
  · exact h
  · have h1 := len_le (l1 := l1) (l2 := l2.erase a) hn (fun x hx => (List.mem_erase_of_ne (fun (e : x = a) => h (by rw [← e]; exact hx))).2 (hs x hx))
    rw [List.length_erase_of_mem ha] at h1
    have : 0 < l2.length := List.length_pos_of_mem ha
    omega
theorem nodup_flat {f : Int → List Int} : ∀ {L : List Int}, L.Nodup → (∀ k ∈ L, (f k).Nodup) → (∀ a ∈ L, ∀ b ∈ L, a ≠ b → ∀ x ∈ f a, x ∉ f b) → (L.flatMap f).Nodup
  | [], _, _, _ => List.nodup_nil
  | a :: L, hn, h1, h2 => by
    rw [List.nodup_cons] at hn
    rw [List.flatMap_cons, List.nodup_append]
    refine ⟨h1 a (by simp), nodup_flat hn.2 (fun k hk => h1 k (by simp [hk])) (fun x hx y hy => h2 x (by simp [hx]) y (by simp [hy])), fun x hx y hy e => ?_⟩
    subst e
    obtain ⟨k, hk, hx2⟩ := List.mem_flatMap.1 hy
    exact h2 a (by simp) k (by simp [hk]) (fun e => hn.1 (e ▸ hk)) x hx hx2
def upP (ns : List Nd) : Nat → Int → Int
  | 0, x => x
  | s + 1, x => upP ns s (parP ns x)
theorem up_add (ns : List Nd) : ∀ (a b : Nat) (x : Int), upP ns (a + b) x = upP ns b (upP ns a x)
  | 0, b, x => by rw [Nat.zero_add]; rfl
  | a + 1, b, x => by rw [Nat.succ_add]; exact up_add ns a b (parP ns x)
theorem up_succ (ns : List Nd) (s : Nat) (x : Int) : upP ns (s + 1) x = parP ns (upP ns s x) := by rw [up_add]; rfl
structure Tree (root : Int) (ns : List Nd) : Prop where
  good : Good ns
  set : SetOK root ns (kidsAll ns)
  kin : KidsIn ns
  top : hasP ns root = true
variable {root : Int} {ns : List Nd}
theorem has_pos (hT : Tree root ns) {x : Int} (h : hasP ns x = true) : 1 ≤ x := by
  obtain ⟨t, ht, rfl⟩ := hasP_at h
  exact (hT.good.2.2 t ht).1
theorem mem_all {t : Nat} (ht : t < ns.length) {k : Int} (hk : k ∈ ns[t].f4) : k ∈ kidsAll ns := List.mem_flatMap.2 ⟨_, List.getElem_mem ht, hk⟩
theorem one_parent (hT : Tree root ns) {a b : Nat} (ha : a < ns.length) (hb : b < ns.length) {k : Int} (h1 : k ∈ ns[a].f4) (h2 : k ∈ ns[b].f4) : a = b := by
  have key : ∀ {a b : Nat} (ha : a < ns.length) (hb : b < ns.length), k ∈ ns[a].f4 → k ∈ ns[b].f4 → ¬ a < b := by
    intro a b ha hb h1 h2 hab
    have e1 : kidsAll ns = kidsTo ns (a + 1) ++ (ns.drop (a + 1)).flatMap (·.f4) := by
      unfold kidsTo kidsAll
      rw [← List.flatMap_append, List.take_append_drop]
    have hn := hT.set.1
    rw [e1] at hn
    refine (List.nodup_append.1 hn).2.2 k ?_ k ?_ rfl
    · rw [kidsTo_step ha, rdN_get ha]; exact List.mem_append_right _ h1
    · refine List.mem_flatMap.2 ⟨ns[b], ?_, h2⟩
      rw [List.mem_drop_iff_getElem]
      exact ⟨b - (a + 1), by omega, by congr 1; omega⟩
  have := key ha hb h1 h2
  have := key hb ha h2 h1
  omega
theorem par_of_mem (hT : Tree root ns) {t : Nat} (ht : t < ns.length) {k : Int} (hk : k ∈ ns[t].f4) : parP ns k = ns[t].f0 := by
  unfold parP
  cases e : ns.find? (fun x => decide (k ∈ x.f4)) with
  | none =>
    have := List.find?_eq_none.1 e ns[t] (List.getElem_mem ht)
    exact absurd hk (by simpa using this)
  | some y =>
    have hy := List.find?_some e
    obtain ⟨b, hb, rfl⟩ := List.getElem_of_mem (List.mem_of_find?_eq_some e)
    obtain rfl := one_parent hT ht hb hk (by simpa using hy)
    rfl
theorem par_none {x : Int} (h : ∀ (t : Nat) (ht : t < ns.length), x ∉ ns[t].f4) : parP ns x = 0 := by
  unfold parP
  rw [List.find?_eq_none.2 (fun y hy => by
    obtain ⟨b, hb, rfl⟩ := List.getElem_of_mem hy
    simpa using h b hb)]
  rfl
theorem par_root (hT : Tree root ns) : parP ns root = 0 := par_none (fun t ht h => (hT.set.2 root (mem_all ht h)).1 rfl)
theorem par_zero (hT : Tree root ns) : parP ns 0 = 0 := par_none (fun t ht h => by have := has_pos hT (hT.set.2 0 (mem_all ht h)).2; omega)
theorem par_kid (hT : Tree root ns) {z id : Int} (h : parP ns z = id) (h1 : 1 ≤ id) : z ∈ kidsOf ns id ∧ hasP ns id = true := by
  unfold parP at h
  cases e : ns.find? (fun x => decide (z ∈ x.f4)) with
  | none => rw [e] at h; simp at h; omega
  | some y =>
    rw [e] at h
    have hy := List.find?_some e
    obtain ⟨b, hb, rfl⟩ := List.getElem_of_mem (List.mem_of_find?_eq_some e)
    have h2 : ns[b].f0 = id := by simpa using h
    have h3 := kidsOf_at hT.good.2 hb (id := id) (by rw [rdN_get hb]; exact h2)
    rw [rdN_get hb] at h3
    exact ⟨by rw [h3]; simpa using hy, hasP_true hb (by rw [rdN_get hb]; exact h2)⟩
theorem kid_par (hT : Tree root ns) {k id : Int} (hh : hasP ns id = true) (hk : k ∈ kidsOf ns id) : parP ns k = id ∧ hasP ns k = true := by
  obtain ⟨t, ht, he⟩ := hasP_at hh
  have h3 := kidsOf_at hT.good.2 ht he
  rw [h3] at hk
  refine ⟨?_, ((hT.kin t ht).2 k hk).1⟩
  rw [rdN_get ht] at hk he
  exact (par_of_mem hT ht hk).trans he
theorem kids_nodup (hT : Tree root ns) {id : Int} (hh : hasP ns id = true) : (kidsOf ns id).Nodup := by
  obtain ⟨t, ht, he⟩ := hasP_at hh
  rw [kidsOf_at hT.good.2 ht he]
  have e1 : kidsAll ns = kidsTo ns (t + 1) ++ (ns.drop (t + 1)).flatMap (·.f4) := by
    unfold kidsTo kidsAll
    rw [← List.flatMap_append, List.take_append_drop]
  have hn := hT.set.1
  rw [e1, kidsTo_step ht] at hn
  exact (List.nodup_append.1 (List.nodup_append.1 hn).1).2.1
theorem up_zero (hT : Tree root ns) : ∀ s, upP ns s 0 = 0
  | 0 => rfl
  | s + 1 => by show upP ns s (parP ns 0) = 0; rw [par_zero hT]; exact up_zero hT s
theorem no_cycle (hT : Tree root ns) {id : Int} (h : ∃ t, upP ns t id = root) (d : Nat) : upP ns (d + 1) id ≠ id := by
  intro e
  obtain ⟨t, ht⟩ := h
  have h1 : upP ns (t + (d + 1)) id = 0 := by
    rw [up_add, ht]
    show upP ns d (parP ns root) = 0
    rw [par_root hT]; exact up_zero hT d
  rw [Nat.add_comm, up_add, e, ht] at h1
  have := has_pos hT hT.top
  omega
theorem ord_up (hT : Tree root ns) : ∀ (m : Nat) (id x : Int), hasP ns id = true → x ∈ ordP ns m id → ∃ s, s < (ordP ns m id).length ∧ upP ns s x = id ∧ hasP ns x = true
  | 0, id, x, _, h => by simp [ordP] at h
  | m + 1, id, x, hh, h => by
    rw [ordP, List.mem_cons] at h
    rcases h with rfl | h
    · exact ⟨0, by rw [ordP]; simp, rfl, hh⟩
    · obtain ⟨k, hk, hx⟩ := List.mem_flatMap.1 h
      obtain ⟨h1, h2⟩ := kid_par hT hh hk
      obtain ⟨s, hs, hu, hp⟩ := ord_up hT m k x h2 hx
      refine ⟨s + 1, ?_, by rw [up_succ, hu, h1], hp⟩
      rw [ordP, List.length_cons]
      have : (ordP ns m k).length ≤ ((kidsOf ns id).flatMap (ordP ns m)).length := by
        obtain ⟨a, b, hab⟩ := List.append_of_mem hk
        rw [hab, List.flatMap_append, List.flatMap_cons]
        simp only [List.length_append]; omega
      omega
theorem ord_nodup (hT : Tree root ns) : ∀ (m : Nat) (id : Int), hasP ns id = true → (∃ t, upP ns t id = root) → (ordP ns m id).Nodup
  | 0, _, _, _ => List.nodup_nil
  | m + 1, id, hh, hr => by
    have hkr : ∀ k ∈ kidsOf ns id, ∃ t, upP ns t k = root := fun k hk => by
      obtain ⟨t, ht⟩ := hr
      exact ⟨t + 1, by show upP ns t (parP ns k) = root; rw [(kid_par hT hh hk).1]; exact ht⟩
    rw [ordP, List.nodup_cons]
    refine ⟨fun h => ?_, nodup_flat (kids_nodup hT hh) (fun k hk => ord_nodup hT m k (kid_par hT hh hk).2 (hkr k hk)) (fun a ha b hb hab x hxa hxb => ?_)⟩
    · obtain ⟨k, hk, hx⟩ := List.mem_flatMap.1 h
      obtain ⟨s, _, hu, _⟩ := ord_up hT m k id (kid_par hT hh hk).2 hx
      exact no_cycle hT hr s (by rw [up_succ, hu, (kid_par hT hh hk).1])
    · obtain ⟨s1, _, hu1, _⟩ := ord_up hT m a x (kid_par hT hh ha).2 hxa
      obtain ⟨s2, _, hu2, _⟩ := ord_up hT m b x (kid_par hT hh hb).2 hxb
      have key : ∀ {a b : Int} {s1 s2 : Nat}, a ∈ kidsOf ns id → b ∈ kidsOf ns id → a ≠ b → upP ns s1 x = a → upP ns s2 x = b → ¬ s1 ≤ s2 := by
        intro a b s1 s2 ha hb hab hu1 hu2 hle
        obtain ⟨d, rfl⟩ : ∃ d, s2 = s1 + d := ⟨s2 - s1, by omega⟩
        rw [up_add, hu1] at hu2
        cases d with
        | zero => exact hab hu2
        | succ d =>
          have h1 : upP ns d id = b := by rw [← (kid_par hT hh ha).1]; exact hu2
          exact no_cycle hT hr d (by rw [up_succ, h1, (kid_par hT hh hb).1])
      have := key ha hb hab hu1 hu2
      have := key hb ha (fun e => hab e.symm) hu2 hu1
      omega
theorem up_ord (hT : Tree root ns) : ∀ (s m : Nat) (id x : Int), Fits ns m id → hasP ns id = true → upP ns s x = id → x ∈ ordP ns m id
  | s, 0, id, x, hf, _, _ => hf.elim
  | 0, m + 1, id, x, _, _, h => by rw [ordP]; rw [show x = id from h]; simp
  | s + 1, m + 1, id, x, hf, hh, h => by
    rw [up_succ] at h
    obtain ⟨hz, _⟩ := par_kid hT h (has_pos hT hh)
    rw [ordP, List.mem_cons]
    exact .inr (List.mem_flatMap.2 ⟨_, hz, up_ord hT s m _ x (hf _ hz) (kid_par hT hh hz).2 rfl⟩)
theorem rch_up : ∀ (f : Nat) (x : Int), rch ns root f x = true → ∃ s, s ≤ f ∧ upP ns s x = root
  | 0, x, h => ⟨0, Nat.le_refl _, by simpa [rch, upP] using h⟩
  | f + 1, x, h => by
    by_cases e : x = root
    · exact ⟨0, Nat.zero_le _, e⟩
    · have h2 : rch ns root f (parP ns x) = true := by
        simp [rch, e] at h
        exact h.2
      obtain ⟨s, hs, hu⟩ := rch_up f (parP ns x) h2
      exact ⟨s + 1, by omega, hu⟩
theorem par_nonneg (hT : Tree root ns) (x : Int) : 0 ≤ parP ns x := by
  unfold parP
  cases e : ns.find? (fun y => decide (x ∈ y.f4)) with
  | none => simp
  | some y =>
    obtain ⟨b, hb, rfl⟩ := List.getElem_of_mem (List.mem_of_find?_eq_some e)
    have := (hT.good.2.2 b hb).1
    rw [rdN_get hb] at this
    simp; omega
theorem up_rch (hT : Tree root ns) : ∀ (f : Nat) (x : Int) (s : Nat), 1 ≤ x → s ≤ f → upP ns s x = root → rch ns root f x = true
  | 0, x, s, _, hs, hu => by
    obtain rfl : s = 0 := by omega
    simp [rch, show x = root from hu]
  | f + 1, x, s, hx, hs, hu => by
    by_cases e : x = root
    · simp [rch, e]
    · cases s with
      | zero => exact absurd hu e
      | succ s =>
        have hu2 : upP ns s (parP ns x) = root := hu
        have hp : 1 ≤ parP ns x := by
          have := par_nonneg hT x
          by_cases h0 : parP ns x = 0
          · rw [h0, up_zero hT] at hu2
            have := has_pos hT hT.top
            omega
          · omega
        simp [rch, e, show x > 0 by omega, up_rch hT f (parP ns x) s hp (by omega) hu2]
theorem ids_nodup (hs : Sorted ns) : (ns.map (·.f0)).Nodup := by
  rw [List.nodup_iff_pairwise_ne] 
  rw [List.pairwise_iff_getElem]
  intro i j hi hj hij
  simp at hi hj
  have := hs.1 i j hij hj
  rw [rdN_get hi, rdN_get hj] at this
  simp
  omega
theorem reach_iff (hT : Tree root ns) (hf : Fits ns 6 root) : (ns.all (fun x => rch ns root (ns.length + 1) x.f0) = true) ↔ (ordP ns 6 root).length = ns.length := by
  have hnd := ord_nodup hT 6 root hT.top ⟨0, rfl⟩
  have hsub : ∀ x ∈ ordP ns 6 root, x ∈ ns.map (·.f0) := fun x hx => by
    obtain ⟨_, _, _, hp⟩ := ord_up hT 6 root x hT.top hx
    obtain ⟨t, ht, rfl⟩ := hasP_at hp
    rw [rdN_get ht]
    exact List.mem_map.2 ⟨_, List.getElem_mem ht, rfl⟩
  have hle := len_le hnd hsub
  rw [List.length_map] at hle
  constructor
  · intro h
    have h2 : (ns.map (·.f0)).length ≤ (ordP ns 6 root).length := len_le (ids_nodup hT.good.2) (fun x hx => by
      obtain ⟨n, hn, rfl⟩ := List.mem_map.1 hx
      obtain ⟨s, _, hu⟩ := rch_up _ _ (List.all_eq_true.1 h n hn)
      exact up_ord hT s 6 root _ hf hT.top hu)
    rw [List.length_map] at h2
    omega
  · intro h
    refine List.all_eq_true.2 fun n hn => ?_
    have hin := sub_eq hnd hsub (by rw [List.length_map]; omega) n.f0 (List.mem_map.2 ⟨n, hn, rfl⟩)
    obtain ⟨s, hs, hu, hp⟩ := ord_up hT 6 root n.f0 hT.top hin
    exact up_rch hT _ _ s (has_pos hT hp) (by omega) hu
theorem l02OK_eq {next : Int} (h64 : All64 root ns) : Ev (fun k => spec_l02OK.f k root next ns) (docB root next ns) := by
  have hno : ¬ DOK root next ns → docB root next ns = false := fun h => by
    cases e : docB root next ns with
    | false => rfl
    | true => exact absurd (docB_iff.1 e) h
  unfold spec_l02OK.f
  simp only [in_f, Option.bind_some, decide_eq_true_eq]
  by_cases h1 : 1 ≤ (ns.length : Int) ∧ (ns.length : Int) ≤ 40
  · simp only [if_pos h1]
    by_cases h2 : 2 ≤ next ∧ next ≤ 999999
    · simp only [if_pos h2]
      have hl : 1 ≤ ns.length ∧ ns.length ≤ 40 := by omega
      by_cases hN : NODES root next ns
      · refine (l02Nodes_eq h2 hl true ⟨fun _ => hN, fun _ => rfl⟩).bind ?_
        simp only [if_true]
        obtain ⟨n1, n2, n3, n4⟩ := hN
        have hG := good_of h2.2 hl.2 n1
        have hK : KidsIn ns := fun t ht => ⟨(n1 t ht).1.2.2.2.2, fun k hk => ⟨(n2.2 k (List.mem_flatMap.2 ⟨_, List.getElem_mem ht, by rw [← rdN_get ht]; exact hk⟩)).2, h64.2 t ht k hk⟩⟩
        have hT : Tree root ns := ⟨hG, n2, hK, n4⟩
        have h4 : ∀ x ∈ ns, x.f4.length ≤ 4096 := fun x hx => by
          obtain ⟨t, ht, rfl⟩ := List.getElem_of_mem hx
          have := (hK t ht).1
          rw [rdN_get ht] at this
          omega
        refine (l02Reach_eq (by omega) h4).bind ?_
        have hdp : Ev (fun k => (spec_l02Deep.f k root next ns root 6).bind fun t => some (decide (t ≤ 6))) (decide (depP ns 7 root ≤ 6)) := (l02Deep_eq hG hK 6 root (by omega) n4).bind (Ev.const rfl)
        by_cases hd : depP ns 7 root ≤ 6
        · have hri := reach_iff hT (depP_fits 6 root hd)
          cases hr : ns.all (fun x => rch ns root (ns.length + 1) x.f0) with
          | true =>
            simp only [if_true]
            have : docB root next ns = true := docB_iff.2 ⟨hl, h2, n1, n2, ⟨n4, n3, hd⟩, hri.1 hr⟩
            rw [this]
            rw [decide_eq_true hd] at hdp
            exact hdp
          | false =>
            simp only [Bool.false_eq_true, if_false]
            rw [hno (fun h => by have := hri.2 h.2.2.2.2.2; rw [hr] at this; cases this)]
            exact Ev.const rfl
        · rw [hno (fun h => hd h.2.2.2.2.1.2.2)]
          rw [decide_eq_false hd] at hdp
          cases ns.all (fun x => rch ns root (ns.length + 1) x.f0) with
          | true => simp only [if_true]; exact hdp
          | false => simp only [Bool.false_eq_true, if_false]; exact Ev.const rfl
      · refine (l02Nodes_eq h2 hl false ⟨(fun h => by cases h), fun h => absurd h hN⟩).bind ?_
        rw [hno (fun h => hN ⟨h.2.2.1, h.2.2.2.1, h.2.2.2.2.1.2.1, h.2.2.2.2.1.1⟩)]
        exact Ev.const rfl
    · simp only [if_neg h2]
      rw [hno (fun h => h2 h.2.1)]
      exact Ev.const rfl
  · simp only [if_neg h1]
    rw [hno (fun h => h1 (by have := h.1; omega))]
    exact Ev.const rfl
end Go.Proofs.Ythoeiiecmmagnaa.H
set_option linter.unusedVariables false
set_option linter.unusedSimpArgs false
namespace Go.Proofs.Ythoeiiecmmagnaa.H
open Go.RowKit Go.Proofs.YthoeiiecmmagnaaW.PrintWords Go.Proofs.YthoeiiecmmagnaaW.PrintLast Go.Proofs.Ythoeiiecmmagnaa.Q
theorem rd_get {xs : List Int} {i : Nat} (h : i < xs.length) : rd xs (i : Int) = xs[i] := by unfold rd; rw [Int.toNat_natCast, List.getD_eq_getElem?_getD, List.getElem?_eq_getElem h]; rfl
theorem numsL_step (xs : List Int) (i : Nat) (h : i < xs.length) : numsL (xs.drop i) = putL (rd xs i) ++ numsL (xs.drop (i + 1)) := by
  rw [List.drop_eq_getElem_cons h, rd_get h]; rfl
theorem strOfNums_app (a b : List Int) : strOfNums (a ++ b) = strOfNums a ++ strOfNums b := by
  apply ByteArray.ext
  apply Array.ext'
  rw [ByteArray.data_append, Array.toList_append]
  simp [strOfNums]
theorem l10Numbers_loop (xs : List Int) (hx : ∀ x ∈ xs, 0 ≤ x ∧ x < 2097152) (hl : xs.length ≤ 1048576) (d : Nat) : ∀ (i : Nat) (x : ByteArray), i + d = xs.length → x.size ≤ 3 * i + 1048576 → Ev (fun k => spec_l10Numbers.l0 k xs x i) (x ++ strOfNums (numsL (xs.drop i))) := by
  induction d with
  | zero =>
    intro i x hi hs
    refine Ev.val 1 fun k => ?_
    rw [spec_l10Numbers.l0, if_neg (by omega), List.drop_of_length_le (by omega)]
    congr 1
    apply ByteArray.ext
    apply Array.ext'
    rw [ByteArray.data_append, Array.toList_append]
    simp [numsL, strOfNums]
  | succ d ih =>
    intro i x hi hs
    have hm := hx _ (List.getElem_mem (show i < xs.length by omega))
    rw [← rd_get] at hm
    have hp := putL_len (rd xs i)
    have hz : (putS (rd xs i)).size = (putL (rd xs i)).length := putS_size _
    refine Ev.step (f := fun k => (spec_l01Put.f k (rd xs i)).bind fun t => if x.size + t.size ≤ 9223372036854775807 then spec_l10Numbers.l0 k xs (x ++ t) ((i + 1 : Nat) : Int) else none) (fun k => ?_) ?_
    · rw [spec_l10Numbers.l0, if_pos (by omega), if_pos (by omega), nat_wrap (m := xs.length) (by omega) hl]
    · refine (l01Put_eq hm.1 hm.2).bind ?_
      have h := ih (i + 1) (x ++ putS (rd xs i)) (by omega) (by rw [ByteArray.size_append]; omega)
      rw [numsL_step xs i (by omega), strOfNums_app, ← ByteArray.append_assoc]
      refine Ev.congr (fun k => if_pos (by omega)) h
theorem l10Numbers_eq {xs : List Int} (hx : ∀ x ∈ xs, 0 ≤ x ∧ x < 2097152) (hl : xs.length ≤ 1048576) : Ev (fun k => spec_l10Numbers.f k xs) (strOfNums (numsL xs)) := by
  have h := l10Numbers_loop xs hx hl xs.length 0 ⟨#[]⟩ (by omega) (by show 0 ≤ _; omega)
  rw [List.drop_zero] at h
  have e : (⟨#[]⟩ : ByteArray) ++ strOfNums (numsL xs) = strOfNums (numsL xs) := by
    apply ByteArray.ext
    apply Array.ext'
    rw [ByteArray.data_append, Array.toList_append]
    rfl
  rw [e] at h
  exact h
theorem numsS_size (xs : List Int) : (strOfNums (numsL xs)).size ≤ 3 * xs.length := by rw [strOfNums_size]; exact numsL_len xs
end Go.Proofs.Ythoeiiecmmagnaa.H
set_option linter.unusedVariables false
set_option linter.unusedSimpArgs false
namespace Go.Proofs.Ythoeiiecmmagnaa.H
open Go.RowKit Go.Proofs.YthoeiiecmmagnaaW.PrintWords Go.Proofs.YthoeiiecmmagnaaW.PrintLast Go.Proofs.YthoeiiecmmagnaaW.PrintMore Go.Proofs.Ythoeiiecmmagnaa.Q
abbrev Ln := S62
def nd (x : Ln) : Nd := ⟨x.f0, x.f1, x.f2, x.f3, x.f4⟩
theorem w64_big {i : Nat} (h : i ≤ 1048576) : wrap64 ((i : Int) + 1) = ((i + 1 : Nat) : Int) := by unfold wrap64; omega
theorem rdL_get {ls : List Ln} {t : Nat} (h : t < ls.length) : rd_T62 ls (t : Int) = ls[t] := by
  show ls.getD (t : Int).toNat _ = _
  rw [Int.toNat_natCast, List.getD_eq_getElem?_getD, List.getElem?_eq_getElem h]; rfl
theorem toIntS_eq {l : List Int} (hl : l.length ≤ 1048576) : Ev (fun k => laws_toIntS.f k l) l := by
  have key : ∀ (d i : Nat), i + d = l.length → ∀ k, laws_toIntS.l0 (k + d + 1) l (l.take i ++ List.replicate d 0) i = some l := by
    intro d
    induction d with
    | zero => intro i hi k; rw [laws_toIntS.l0, if_neg (by omega)]; simp [List.take_of_length_le (show l.length ≤ i by omega)]
    | succ d ih =>
      intro i hi k
      have hln : (l.take i ++ List.replicate (d + 1) (0 : Int)).length = l.length := by rw [List.length_append, List.length_take, List.length_replicate]; omega
      rw [laws_toIntS.l0, if_pos (by omega), if_pos (by omega), if_pos (by rw [hln]; omega), Int.toNat_natCast, rdI (by omega), w64_big (by omega), show k + (d + 1) = k + d + 1 by omega]
      have e : (l.take i ++ List.replicate (d + 1) (0 : Int)).set i l[i] = l.take (i + 1) ++ List.replicate d 0 := by
        rw [List.set_append_right _ _ (by rw [List.length_take]; omega), List.length_take, Nat.min_eq_left (by omega), Nat.sub_self, List.replicate_succ, List.set_cons_zero, List.take_add_one, List.getElem?_eq_getElem (by omega), List.append_assoc]
        rfl
      rw [e]
      exact ih (i + 1) (by omega) k
  refine Ev.val (l.length + 1) fun k => ?_
  unfold laws_toIntS.f
  rw [if_pos (by omega), if_pos (by rw [Int.toNat_natCast]; omega), Int.toNat_natCast]
  have := key l.length 0 (by omega) k
  rw [List.take_zero, List.nil_append] at this
  exact this
theorem toNode_eq {x : Ln} (h : x.f4.length ≤ 1048576) : Ev (fun k => laws_toNode.f k x.f0 x.f1 x.f2 x.f3 x.f4) (x.f0, x.f1, x.f2, x.f3, x.f4) :=
  (toIntS_eq h).bind (f := fun _ t => some (x.f0, x.f1, x.f2, x.f3, t)) (Ev.const rfl)
def LenOK (ls : List Ln) : Prop := ls.length ≤ 1048576 ∧ ∀ x ∈ ls, x.f4.length ≤ 1048576
theorem toNodeS_eq {ls : List Ln} (h : LenOK ls) : Ev (fun k => laws_toNodeS.f k ls) (ls.map nd) := by
  have key : ∀ (d i : Nat), i + d = ls.length → Ev (fun k => laws_toNodeS.l0 k ls ((ls.take i).map nd ++ List.replicate d z67) i) (ls.map nd) := by
    intro d
    induction d with
    | zero =>
      intro i hi
      refine Ev.val 1 fun k => ?_
      rw [laws_toNodeS.l0, if_neg (by omega), List.take_of_length_le (show ls.length ≤ i by omega)]; simp
    | succ d ih =>
      intro i hi
      have hln : ((ls.take i).map nd ++ List.replicate (d + 1) z67).length = ls.length := by rw [List.length_append, List.length_map, List.length_take, List.length_replicate]; omega
      have hb : ls.length ≤ 1048576 := h.1
      have hr : rd_T62 ls (i : Int) = ls[i]'(by omega) := rdL_get (by omega)
      refine Ev.step (f := fun k => (laws_toNode.f k ls[i].f0 ls[i].f1 ls[i].f2 ls[i].f3 ls[i].f4).bind fun bt => laws_toNodeS.l0 k ls (((ls.take i).map nd ++ List.replicate (d + 1) z67).set i (⟨bt.1, bt.2.1, bt.2.2.1, bt.2.2.2.1, bt.2.2.2.2⟩ : Nd)) ((i + 1 : Nat) : Int)) (fun k => ?_) ((toNode_eq (x := ls[i]'(by omega)) (h.2 _ (List.getElem_mem _))).bind ?_)
      · rw [laws_toNodeS.l0, if_pos (by omega), if_pos (by omega), hr]
        have hlt : (i : Int) < (((ls.take i).map nd ++ List.replicate (d + 1) z67).length : Int) := by rw [hln]; omega
        simp only [if_pos hlt, Int.toNat_natCast]
        rw [w64_big (by omega)]
      · have e : ((ls.take i).map nd ++ List.replicate (d + 1) z67).set i (nd ls[i]) = (ls.take (i + 1)).map nd ++ List.replicate d z67 := by
          rw [List.set_append_right _ _ (by rw [List.length_map, List.length_take]; omega), List.length_map, List.length_take, Nat.min_eq_left (by omega), Nat.sub_self, List.replicate_succ, List.set_cons_zero, List.take_add_one, List.getElem?_eq_getElem (by omega), List.map_append, List.append_assoc]
          rfl
        have := ih (i + 1) (by omega)
        rw [← e] at this
        exact this
  refine Ev.congr (fun k => ?_) (key ls.length 0 (by omega))
  unfold laws_toNodeS.f
  have hb := h.1
  rw [if_pos (by omega), if_pos (by rw [Int.toNat_natCast]; omega), Int.toNat_natCast]; simp
theorem toDoc_eq {a b : Int} {ls : List Ln} (h : LenOK ls) : Ev (fun k => laws_toDoc.f k a b ls) (a, b, ls.map nd) := (toNodeS_eq h).bind (Ev.const rfl)
theorem szNode_eq {x : Ln} {a : Int} (h0 : 0 ≤ a) (h1 : a ≤ 1048576) (w1 : x.f3.size ≤ maxLen) (w2 : x.f4.length ≤ maxLen) : ∃ v, laws_szNode.f x.f0 x.f1 x.f2 x.f3 x.f4 a = some v ∧ (v < 0 ∨ (0 ≤ v ∧ v ≤ a ∧ x.f3.size ≤ 1048576 ∧ x.f4.length ≤ 1048576)) := by
  have m1 : x.f3.size ≤ 9223372036854775807 := w1
  have m2 : x.f4.length ≤ 9223372036854775807 := w2
  clear w1 w2
  unfold laws_szNode.f laws_szIntS.f
  rw [wid (x := a - (x.f3.size : Int)) (by omega) (by omega)]
  by_cases e1 : a - (x.f3.size : Int) < 0
  · exact ⟨-1, if_pos e1, .inl (by omega)⟩
  · rw [if_neg e1, wid (by omega) (by omega)]
    by_cases e2 : a - (x.f3.size : Int) - (x.f4.length : Int) < 0
    · exact ⟨-1, by rw [if_pos e2]; rfl, .inl (by omega)⟩
    · exact ⟨_, by rw [if_neg e2, Option.bind_some, if_neg e2], .inr ⟨by omega, by omega, by omega, by omega⟩⟩
theorem szDoc_eq {a b : Int} {ls : List Ln} (hw : ls.length ≤ maxLen) (hx : ∀ x ∈ ls, x.f3.size ≤ maxLen ∧ x.f4.length ≤ maxLen) : ∃ v, Ev (fun k => laws_szDoc.f k a b ls 1048576) v ∧ (0 ≤ v → LenOK ls ∧ ∀ x ∈ ls, x.f3.size ≤ 1048576) := by
  have m1 : ls.length ≤ 9223372036854775807 := hw
  have key : ∀ (d i : Nat) (z : Int), ls.length ≤ 1048576 → i + d = ls.length → 0 ≤ z → z ≤ 1048576 → ∃ v, Ev (fun k => laws_szNodeS.l0 k ls z i) v ∧ (0 ≤ v → ∀ x ∈ ls.drop i, x.f4.length ≤ 1048576 ∧ x.f3.size ≤ 1048576) := by
    intro d
    induction d with
    | zero =>
      intro i z hl hi h0 h1
      refine ⟨z, Ev.val 1 fun k => ?_, fun _ x hx => ?_⟩
      · rw [laws_szNodeS.l0, if_neg (by omega)]
      · rw [List.drop_of_length_le (by omega)] at hx; cases hx
    | succ d ih =>
      intro i z hl hi h0 h1
      have hr : rd_T62 ls (i : Int) = ls[i]'(by omega) := rdL_get (by omega)
      obtain ⟨v, hv, hc⟩ := szNode_eq (x := ls[i]'(by omega)) h0 h1 (hx _ (List.getElem_mem _)).1 (hx _ (List.getElem_mem _)).2
      have hst : ∀ k, laws_szNodeS.l0 (k + 1) ls z i = if v < 0 then some (-1) else laws_szNodeS.l0 k ls v ((i + 1 : Nat) : Int) := fun k => by
        rw [laws_szNodeS.l0, if_pos (by omega), if_pos (by omega), hr, hv, Option.bind_some, w64_big (by omega)]
      rcases hc with hc | ⟨c1, c2, c3, c4⟩
      · exact ⟨-1, Ev.val 1 fun k => by rw [hst, if_pos hc], fun h => absurd h (by omega)⟩
      · obtain ⟨v2, h2, h3⟩ := ih (i + 1) v hl (by omega) c1 (by omega)
        refine ⟨v2, Ev.step (fun k => (hst k).trans (if_neg (by omega))) h2, fun h x hx => ?_⟩
        rw [List.drop_eq_getElem_cons (by omega), List.mem_cons] at hx
        rcases hx with rfl | hx
        · exact ⟨c4, c3⟩
        · exact h3 h x hx
  by_cases e : 1048576 - (ls.length : Int) < 0
  · refine ⟨-1, Ev.val 0 fun k => ?_, fun h => absurd h (by omega)⟩
    unfold laws_szDoc.f laws_szNodeS.f
    rw [wid (by omega) (by omega), if_pos e]; rfl
  · obtain ⟨v, h1, h2⟩ := key ls.length 0 (1048576 - (ls.length : Int)) (by omega) (by omega) (by omega) (by omega)
    have h3 : Ev (fun k => laws_szNodeS.f k ls 1048576) v := Ev.congr (fun k => by unfold laws_szNodeS.f; rw [wid (by omega) (by omega), if_neg e]; rfl) h1
    by_cases hv : v < 0
    · exact ⟨-1, h3.bind (Ev.const (if_pos hv)), fun h => absurd h (by omega)⟩
    · refine ⟨v, h3.bind (Ev.const (if_neg hv)), fun h => ?_⟩
      have h4 := h2 h
      rw [List.drop_zero] at h4
      exact ⟨⟨by omega, fun x hx => (h4 x hx).1⟩, fun x hx => (h4 x hx).2⟩
theorem eqIntS_refl {l : List Int} (hl : l.length ≤ 1048576) : Ev (fun k => laws_eqIntS.f k l l) true := by
  have key : ∀ (d i : Nat), i + d = l.length → ∀ k, laws_eqIntS.l0 (k + d + 1) l l i = some true := by
    intro d
    induction d with
    | zero => intro i hi k; rw [laws_eqIntS.l0, if_neg (by omega)]
    | succ d ih =>
      intro i hi k
      rw [laws_eqIntS.l0, if_pos (by omega), if_pos (by omega), if_pos (by omega), if_pos rfl, w64_big (by omega), show k + (d + 1) = k + d + 1 by omega]
      exact ih (i + 1) (by omega) k
  refine Ev.val (l.length + 1) fun k => ?_
  unfold laws_eqIntS.f
  rw [if_pos rfl]
  exact key l.length 0 (by omega) k
theorem eqNodeS_refl {ns : List Nd} (hl : ns.length ≤ 1048576) (h4 : ∀ x ∈ ns, x.f4.length ≤ 1048576) : Ev (fun k => laws_eqNodeS.f k ns ns) true := by
  have key : ∀ (d i : Nat), i + d = ns.length → Ev (fun k => laws_eqNodeS.l0 k ns ns i) true := by
    intro d
    induction d with
    | zero => intro i hi; exact Ev.val 1 fun k => by rw [laws_eqNodeS.l0, if_neg (by omega)]
    | succ d ih =>
      intro i hi
      have hr : rd_T67 ns (i : Int) = ns[i]'(by omega) := rdN_get (by omega)
      refine Ev.step (f := fun k => (laws_eqNode.f k ns[i].f0 ns[i].f1 ns[i].f2 ns[i].f3 ns[i].f4 ns[i].f0 ns[i].f1 ns[i].f2 ns[i].f3 ns[i].f4).bind fun t => if t = true then laws_eqNodeS.l0 k ns ns ((i + 1 : Nat) : Int) else some false) (fun k => ?_) (Ev.bind (a := true) ?_ ?_)
      · rw [laws_eqNodeS.l0, if_pos (by omega), if_pos (by omega), if_pos (by omega), hr, w64_big (by omega)]
      · refine Ev.congr (f := fun k => (laws_eqIntS.f k ns[i].f4 ns[i].f4).bind fun t => if t = true then some true else some false) (fun k => ?_) ((eqIntS_refl (h4 (ns[i]'(by omega)) (List.getElem_mem _))).bind (f := fun _ t => if t = true then some true else some false) (Ev.const rfl))
        unfold laws_eqNode.f
        rw [if_pos rfl, if_pos rfl, if_pos rfl, if_pos rfl]
      · simp only [if_true]; exact ih (i + 1) (by omega)
  refine Ev.congr (fun k => ?_) (key ns.length 0 (by omega))
  unfold laws_eqNodeS.f
  rw [if_pos rfl]; rfl
theorem eqDoc_refl {a b : Int} {ns : List Nd} (hl : ns.length ≤ 1048576) (h4 : ∀ x ∈ ns, x.f4.length ≤ 1048576) : Ev (fun k => laws_eqDoc.f k a b ns a b ns) true := by
  refine Ev.congr (fun k => ?_) ((eqNodeS_refl hl h4).bind (f := fun _ t => if t = true then some true else some false) (Ev.const rfl))
  unfold laws_eqDoc.f
  rw [if_pos rfl, if_pos rfl]
theorem lenOK_map {ls : List Ln} (h : LenOK ls) : (ls.map nd).length ≤ 1048576 ∧ ∀ x ∈ ls.map nd, x.f4.length ≤ 1048576 :=
  ⟨by rw [List.length_map]; exact h.1, fun x hx => by obtain ⟨y, hy, rfl⟩ := List.mem_map.1 hx; exact h.2 y hy⟩
theorem wf_I64 {x : Int} (h : (Lit.int .i64 x).wf = true) : I64 x := by
  have e1 : IntKind.i64.min = -9223372036854775808 := rfl
  have e2 : IntKind.i64.max = 9223372036854775807 := rfl
  simp [Lit.wf, e1, e2] at h
  exact h
theorem all64_map {root : Int} {ls : List Ln} (h0 : I64 root) (h : ∀ x ∈ ls, ∀ k ∈ x.f4, I64 k) : All64 root (ls.map nd) := by
  refine ⟨h0, fun t ht k hk => ?_⟩
  rw [rdN_get ht, List.getElem_map] at hk
  exact h _ (List.getElem_mem _) k hk
theorem docL_len {root next : Int} {ns : List Nd} (h : DocW root next ns) : (docL root next ns).length ≤ 10000 := by
  have h1 := nodes_len h.2.2 ns.length (Nat.le_refl _)
  have h2 := numsL_len [root, next, (ns.length : Int)]
  have h3 := h.2.1
  rw [List.take_length] at h1
  unfold docL
  rw [List.length_append]
  simp only [List.length_cons, List.length_nil] at h2
  omega
theorem nums_node (x : Nd) : strOfNums (numsL [x.f0, x.f1, x.f2]) ++ textS x.f3 ++ strOfNums (numsL [(x.f4.length : Int)]) ++ strOfNums (numsL x.f4) = strOfNums (nodeL x) := by
  unfold nodeL
  rw [strOfNums_app, strOfNums_app, strOfNums_bytes]
def NodeP (x : Nd) : Prop := (0 ≤ x.f0 ∧ 0 ≤ x.f1 ∧ 0 ≤ x.f2) ∧ ∀ k ∈ x.f4, 0 ≤ k
theorem l10Doc_eq {root next : Int} {ns : List Nd} (hw : DocW root next ns) (h0 : 0 ≤ root ∧ 0 ≤ next) (hp : ∀ t : Nat, t < ns.length → NodeP (rdN ns (t : Int))) : Ev (fun k => spec_l10Doc.f k root next ns) (strOfNums (docL root next ns)) := by
  have key : ∀ (d i : Nat), i + d = ns.length → Ev (fun k => spec_l10Doc.l0 k (strOfNums (numsL [root, next, (ns.length : Int)] ++ (ns.take i).flatMap nodeL)) i root next ns) (strOfNums (docL root next ns)) := by
    intro d
    induction d with
    | zero =>
      intro i hi
      refine Ev.val 1 fun k => ?_
      rw [spec_l10Doc.l0, if_neg (by omega), List.take_of_length_le (by omega)]; rfl
    | succ d ih =>
      intro i hi
      have hn : ns.length ≤ 40 := hw.2.1
      have hr : rd_T67 ns (i : Int) = ns[i]'(by omega) := rdN_get (by omega)
      have w1 := hw.2.2 i (by omega)
      have p1 := hp i (by omega)
      rw [rdN_get (by omega)] at w1 p1
      obtain ⟨⟨a1, a2, a3⟩, a4, a5, a6⟩ := w1
      obtain ⟨⟨b1, b2, b3⟩, b4⟩ := p1
      have z1 := numsS_size [ns[i].f0, ns[i].f1, ns[i].f2]
      have z2 := numsS_size [(ns[i].f4.length : Int)]
      have z3 := numsS_size ns[i].f4
      have z4 := textS_len ns[i].f3
      simp only [List.length_cons, List.length_nil] at z1 z2
      have z5 : (strOfNums (numsL [root, next, (ns.length : Int)] ++ (ns.take i).flatMap nodeL)).size ≤ 10000 := by
        rw [strOfNums_size, List.length_append]
        have := nodes_len hw.2.2 i (by omega)
        have h2 := numsL_len [root, next, (ns.length : Int)]
        simp only [List.length_cons, List.length_nil] at h2
        omega
      have s1 : (strOfNums (numsL [ns[i].f0, ns[i].f1, ns[i].f2]) ++ textS ns[i].f3).size = (strOfNums (numsL [ns[i].f0, ns[i].f1, ns[i].f2])).size + (textS ns[i].f3).size := ByteArray.size_append
      have s2 : (strOfNums (numsL [ns[i].f0, ns[i].f1, ns[i].f2]) ++ textS ns[i].f3 ++ strOfNums (numsL [(ns[i].f4.length : Int)])).size = (strOfNums (numsL [ns[i].f0, ns[i].f1, ns[i].f2]) ++ textS ns[i].f3).size + (strOfNums (numsL [(ns[i].f4.length : Int)])).size := ByteArray.size_append
      have s3 : (strOfNums (numsL [ns[i].f0, ns[i].f1, ns[i].f2]) ++ textS ns[i].f3 ++ strOfNums (numsL [(ns[i].f4.length : Int)]) ++ strOfNums (numsL ns[i].f4)).size = (strOfNums (numsL [ns[i].f0, ns[i].f1, ns[i].f2]) ++ textS ns[i].f3 ++ strOfNums (numsL [(ns[i].f4.length : Int)])).size + (strOfNums (numsL ns[i].f4)).size := ByteArray.size_append
      refine Ev.step (fun k => by rw [spec_l10Doc.l0, if_pos (by omega), if_pos (by omega), hr]) ?_
      refine (l10Numbers_eq (xs := [ns[i].f0, ns[i].f1, ns[i].f2]) (fun x hx => by simp at hx; omega) (by simp)).bind ?_
      refine (l01PutText_eq (t := ns[i].f3) (by omega)).bind ?_
      refine Ev.congr (fun k => if_pos (by omega)) ?_
      refine (l10Numbers_eq (xs := [(ns[i].f4.length : Int)]) (fun x hx => by simp at hx; omega) (by simp)).bind ?_
      refine Ev.congr (fun k => if_pos (by omega)) ?_
      refine (l10Numbers_eq (xs := ns[i].f4) (fun x hx => ⟨b4 x hx, a6 x hx⟩) (by omega)).bind ?_
      refine Ev.congr (fun k => (if_pos (by omega)).trans (if_pos (by omega))) ?_
      have e : strOfNums (numsL [root, next, (ns.length : Int)] ++ (ns.take i).flatMap nodeL) ++ (strOfNums (numsL [ns[i].f0, ns[i].f1, ns[i].f2]) ++ textS ns[i].f3 ++ strOfNums (numsL [(ns[i].f4.length : Int)]) ++ strOfNums (numsL ns[i].f4)) = strOfNums (numsL [root, next, (ns.length : Int)] ++ (ns.take (i + 1)).flatMap nodeL) := by
        rw [nums_node, ← strOfNums_app, List.take_add_one, List.getElem?_eq_getElem (by omega), List.flatMap_append, List.append_assoc]
        congr 3
        show nodeL ns[i] = [ns[i]].flatMap nodeL
        rw [List.flatMap_cons, List.flatMap_nil, List.append_nil]
      rw [e, w64_nat (by omega)]
      exact ih (i + 1) (by omega)
  refine (l10Numbers_eq (xs := [root, next, (ns.length : Int)]) (fun x hx => by have := hw.1; have := hw.2.1; simp at hx; omega) (by simp)).bind ?_
  have := key ns.length 0 (by omega)
  simpa using this
theorem dok_pos {root next : Int} {ns : List Nd} (h : DOK root next ns) : (0 ≤ root ∧ 0 ≤ next) ∧ ∀ t : Nat, t < ns.length → NodeP (rdN ns (t : Int)) := by
  have hin : ∀ k, hasP ns k = true → 0 ≤ k := fun k hk => by
    obtain ⟨t, ht, he⟩ := hasP_at hk
    have h1 := (h.2.2.1 t ht).1.1
    omega
  have hh := h.2.1
  refine ⟨⟨hin root h.2.2.2.2.1.1, by omega⟩, fun t ht => ?_⟩
  obtain ⟨⟨a1, a2⟩, ⟨b1, b2⟩, ⟨c1, c2⟩, d, e⟩ := (h.2.2.1 t ht).1
  exact ⟨⟨by omega, by omega, by omega⟩, fun k hk => hin k (h.2.2.2.1.2 k (List.mem_flatMap.2 ⟨_, List.getElem_mem ht, by rw [← rdN_get ht]; exact hk⟩)).2⟩
end Go.Proofs.Ythoeiiecmmagnaa.H
set_option linter.unusedVariables false
set_option linter.unusedSimpArgs false
namespace Go.Proofs.Ythoeiiecmmagnaa.Pure
open Go.RowKit Go.Proofs.Ythoeiiecmmagnaa.Q Go.Proofs.Ythoeiiecmmagnaa.Q.RowFnExactReplyText Go.Proofs.YthoeiiecmmagnaaW.PrintWords Go.Proofs.YthoeiiecmmagnaaW.PrintLast Go.Proofs.Ythoeiiecmmagnaa.H
def Zero (root next : Int) (ns : List Nd) : Prop := root = 0 ∧ next = 0 ∧ ns.length = 0
def Told (code n root next : Int) (ns : List Nd) : Prop := (0 ≤ code ∧ code ≤ 21) ∧ (0 ≤ n ∧ n ≤ 999999) ∧ (Zero root next ns ∨ DOK root next ns)
theorem told_docW {code n root next : Int} {ns : List Nd} (h : Told code n root next ns) : (code < 2097152 ∧ n < 2097152) ∧ ((ns.length : Int) > 0 → DocW root next ns) := by
  obtain ⟨h1, h2, h3⟩ := h
  refine ⟨by omega, fun hp => ?_⟩
  rcases h3 with h3 | h3
  · have := h3.2.2; omega
  · exact docW_of h3
theorem replyL_len {code n root next : Int} {ns : List Nd} (h : Told code n root next ns) : (strOfNums (replyL code n root next ns)).size ≤ 20000 := by
  have h2 := numsL_len [code, n]
  simp only [List.length_cons, List.length_nil] at h2
  rw [strOfNums_size]
  unfold replyL
  by_cases c : (ns.length : Int) > 0
  · have := docL_len ((told_docW h).2 c)
    rw [if_pos c, List.length_append]; omega
  · rw [if_neg c]; omega
theorem specTold_eq {code n root next : Int} {ns : List Nd} (h64 : All64 root ns) (b : Bool) (hb : b = true ↔ Told code n root next ns) : Ev (fun k => spec_l10ReplyOK.f k code n root next ns) b := by
  have no : ¬ Told code n root next ns → b = false := fun h => by cases b with | false => rfl | true => exact absurd (hb.1 rfl) h
  unfold spec_l10ReplyOK.f
  simp only [in_f, Option.bind_some, decide_eq_true_eq]
  by_cases h1 : 0 ≤ code ∧ code ≤ 21
  · by_cases h2 : 0 ≤ n ∧ n ≤ 999999
    · simp only [if_pos h1, if_pos h2]
      have doc : ¬ Zero root next ns → Ev (fun k => (spec_l02OK.f k root next ns).bind fun t => some t) b := fun hz => by
        have e : docB root next ns = b := by
          refine Bool.eq_iff_iff.2 (docB_iff.trans ⟨fun h => hb.2 ⟨h1, h2, .inr h⟩, fun h => ?_⟩)
          rcases (hb.1 h).2.2 with h3 | h3
          · exact absurd h3 hz
          · exact h3
        rw [← e]
        exact (l02OK_eq h64).bind (f := fun _ t => some t) (Ev.const rfl)
      by_cases z1 : root = 0
      · simp only [if_pos z1]
        by_cases z2 : next = 0
        · simp only [if_pos z2]
          by_cases z3 : (ns.length : Int) = 0
          · simp only [if_pos z3]
            rw [hb.2 ⟨h1, h2, .inl ⟨z1, z2, by omega⟩⟩]
            exact Ev.const rfl
          · simp only [if_neg z3]; exact doc (fun h => z3 (by have := h.2.2; omega))
        · simp only [if_neg z2]; exact doc (fun h => z2 h.2.1)
      · simp only [if_neg z1]; exact doc (fun h => z1 h.1)
    · simp only [if_pos h1, if_neg h2]
      rw [no (fun h => h2 h.2.1)]
      exact Ev.const rfl
  · simp only [if_neg h1]
    rw [no (fun h => h1 h.1)]
    exact Ev.const rfl
theorem specReply_eq {code n root next : Int} {ns : List Nd} (h : Told code n root next ns) : Ev (fun k => spec_l10Reply.f k code n root next ns) (frameS (strOfNums (replyL code n root next ns))) := by
  have hsz := replyL_len h
  have hh := h
  obtain ⟨h1, h2, h3⟩ := h
  have z1 := numsS_size [code, n]
  simp only [List.length_cons, List.length_nil] at z1
  unfold spec_l10Reply.f
  refine (l10Numbers_eq (xs := [code, n]) (fun x hx => by simp at hx; omega) (by simp)).bind ?_
  by_cases c : (ns.length : Int) > 0
  · have hd : DOK root next ns := by
      rcases h3 with h3 | h3
      · have := h3.2.2; omega
      · exact h3
    have hp := dok_pos hd
    have hl := docL_len (docW_of hd)
    have e : replyL code n root next ns = numsL [code, n] ++ docL root next ns := if_pos c
    rw [e] at hsz ⊢
    simp only [if_pos c]
    refine (l10Doc_eq (docW_of hd) hp.1 hp.2).bind ?_
    refine Ev.congr (fun k => if_pos (by rw [strOfNums_size (docL root next ns)]; omega)) ?_
    rw [strOfNums_app] at hsz ⊢
    exact (l01Frame_eq (by omega)).bind (f := fun _ t => some t) (Ev.const rfl)
  · have e : replyL code n root next ns = numsL [code, n] := if_neg c
    rw [e] at hsz ⊢
    simp only [if_neg c]
    exact (l01Frame_eq (by omega)).bind (f := fun _ t => some t) (Ev.const rfl)
theorem implTold_eq {code n root next : Int} {ns : List Nd} (h64 : All64 root ns) (b : Bool) (hb : b = true ↔ Told code n root next ns) : impl_isTold.f code n root next ns = some b := by
  have no : ¬ Told code n root next ns → b = false := fun h => by cases b with | false => rfl | true => exact absurd (hb.1 rfl) h
  have doc : (0 ≤ code ∧ code ≤ 21) → (0 ≤ n ∧ n ≤ 999999) → ¬ Zero root next ns → docB root next ns = b := fun h1 h2 hz => by
    refine Bool.eq_iff_iff.2 (docB_iff.trans ⟨fun h => hb.2 ⟨h1, h2, .inr h⟩, fun h => ?_⟩)
    rcases (hb.1 h).2.2 with h3 | h3
    · exact absurd h3 hz
    · exact h3
  unfold impl_isTold.f impl_isCode.f impl_Doc_isZero.f impl_DocOK.f
  simp only [within_f, Option.bind_some, decide_eq_true_eq, if_pos h64]
  by_cases h1 : 0 ≤ code ∧ code ≤ 21
  · by_cases h2 : 0 ≤ n ∧ n ≤ 999999
    · simp only [if_pos h1, if_pos h2]
      by_cases z1 : root = 0
      · by_cases z2 : next = 0
        · by_cases z3 : (ns.length : Int) = 0
          · have hz : Zero root next ns := ⟨z1, z2, by omega⟩
            rw [hb.2 ⟨h1, h2, .inl hz⟩]
            simp [z1, z2, z3]
          · have hz : ¬ Zero root next ns := fun h => z3 (by have := h.2.2; omega)
            rw [← doc h1 h2 hz]
            have z3' : ¬ ns = [] := fun h => z3 (by rw [h]; rfl)
            simp [z1, z2, z3, z3']
        · rw [← doc h1 h2 (fun h => z2 h.2.1)]; simp [z1, z2]
      · rw [← doc h1 h2 (fun h => z1 h.1)]; simp [z1]
    · rw [no (fun h => h2 h.2.1)]; simp [h1, h2]
  · rw [no (fun h => h1 h.1)]; simp [h1]
theorem specText_told {code n root next : Int} {ns : List Nd} (h64 : All64 root ns) (ht : Told code n root next ns) : Ev (fun k => spec_ReplyText.f k code n root next ns) (frameS (strOfNums (replyL code n root next ns)), 0) := by
  unfold spec_ReplyText.f
  refine (specTold_eq h64 true ⟨fun _ => ht, fun _ => rfl⟩).bind ?_
  simp only [if_true]
  exact (specReply_eq ht).bind (f := fun _ t => some (t, (0 : Int))) (Ev.const rfl)
theorem frame_told {code n root next : Int} {ns : List Nd} (ht : Told code n root next ns) : Ev (fun k => impl_replyText.f k code n root next ns) (frameS (strOfNums (replyL code n root next ns))) := by
  have h1 : ∀ k, impl_replyText.f k code n root next ns = impl_frame.f k (strOfNums (replyL code n root next ns)) := fun k => if_pos (told_docW ht)
  have h2 : (strOfNums (replyL code n root next ns)).size ≤ 1000000 := Nat.le_trans (replyL_len ht) (by decide)
  exact Ev.congr h1 (frame_eq h2)
theorem implText_told {code n root next : Int} {ns : List Nd} (h64 : All64 root ns) (ht : Told code n root next ns) : Ev (fun k => impl_ReplyText.f k code n root next ns) (frameS (strOfNums (replyL code n root next ns)), 0) := by
  have h1 : ∀ k, impl_ReplyText.f k code n root next ns = (impl_replyText.f k code n root next ns).bind fun t => some (t, (0 : Int)) := fun k => by
    unfold impl_ReplyText.f
    rw [implTold_eq h64 true ⟨fun _ => ht, fun _ => rfl⟩, Option.bind_some, if_pos rfl]
  exact Ev.congr h1 ((frame_told ht).bind (f := fun _ t => some (t, (0 : Int))) (Ev.const rfl))
theorem both_same {code n root next : Int} {ns : List Nd} (h64 : All64 root ns) : ∃ r : ByteArray × Int, Ev (fun k => spec_ReplyText.f k code n root next ns) r ∧ Ev (fun k => impl_ReplyText.f k code n root next ns) r := by
  by_cases ht : Told code n root next ns
  · exact ⟨_, specText_told h64 ht, implText_told h64 ht⟩
  · refine ⟨(⟨#[]⟩, 1), ?_, ?_⟩
    · unfold spec_ReplyText.f
      refine (specTold_eq h64 false ⟨(fun h => by cases h), fun h => absurd h ht⟩).bind ?_
      simp only [Bool.false_eq_true, if_false]
      exact Ev.const rfl
    · unfold impl_ReplyText.f
      simp only [implTold_eq h64 false ⟨(fun h => by cases h), fun h => absurd h ht⟩, Option.bind_some, Bool.false_eq_true, if_false]
      exact Ev.const rfl
theorem toReply_eq {a0 a1 a2 a3 : Int} {ls : List Ln} (hl : LenOK ls) : Ev (fun k => laws_toReply.f k a0 a1 a2 a3 ls) (a0, a1, a2, a3, ls.map nd) := by
  unfold laws_toReply.f
  exact (toDoc_eq (a := a2) (b := a3) hl).bind (f := fun _ bt => some (a0, a1, bt.1, bt.2.1, bt.2.2)) (Ev.const rfl)
theorem eqReply_refl {a0 a1 a2 a3 : Int} {ns : List Nd} (h1 : ns.length ≤ 1048576) (h4 : ∀ x ∈ ns, x.f4.length ≤ 1048576) : Ev (fun k => laws_eqReply.f k a0 a1 a2 a3 ns a0 a1 a2 a3 ns) true := by
  refine Ev.congr (fun k => ?_) ((eqDoc_refl (a := a2) (b := a3) h1 h4).bind (f := fun _ t => if t = true then some true else some false) (Ev.const rfl))
  unfold laws_eqReply.f
  rw [if_pos rfl, if_pos rfl]
theorem szReply_eq {a0 a1 a2 a3 v : Int} {ls : List Ln} (hv : Ev (fun k => laws_szDoc.f k a2 a3 ls 1048576) v) : Ev (fun k => laws_szReply.f k a0 a1 a2 a3 ls 1048576) (if v < 0 then -1 else v) := by
  unfold laws_szReply.f
  refine hv.bind (f := fun _ t => if t < 0 then some (-1) else some t) (Ev.const ?_)
  by_cases c : v < 0
  · rw [if_pos c, if_pos c]
  · rw [if_neg c, if_neg c]
theorem FnExactReplyText : laws_FnExactReplyText.Pure := by
  intro a0 a1 a2 a3 ls w0 w1 w2 w3 w4
  refine Ev.rounds ?_
  have hlen : ∀ x ∈ ls, x.f3.size ≤ maxLen ∧ x.f4.length ≤ maxLen := fun x hx => ⟨(w4.2 x hx).2.2.2.1, (w4.2 x hx).2.2.2.2.1⟩
  obtain ⟨v, hv, hok⟩ := szDoc_eq (a := a2) (b := a3) w4.1 hlen
  have hsz := szReply_eq (a0 := a0) (a1 := a1) hv
  unfold laws_FnExactReplyText.f
  refine hsz.bind ?_
  by_cases hneg : v < 0
  · simp only [if_pos hneg]; exact Ev.const rfl
  · simp only [if_neg hneg]
    obtain ⟨hl, _⟩ := hok (Int.not_lt.1 hneg)
    have hm := lenOK_map hl
    have h64 : All64 a2 (ls.map nd) := all64_map (wf_I64 w2) (fun x hx k hk => wf_I64 ((w4.2 x hx).2.2.2.2.2 k hk))
    have hto := toReply_eq (a0 := a0) (a1 := a1) (a2 := a2) (a3 := a3) hl
    have heq := eqReply_refl (a0 := a0) (a1 := a1) (a2 := a2) (a3 := a3) hm.1 hm.2
    obtain ⟨r, e1, e2⟩ := both_same (code := a0) (n := a1) (next := a3) h64
    refine hto.bind (e1.bind (hto.bind (e2.bind ?_)))
    simp only [if_true]
    refine Ev.step (f := fun k => (laws_toReply.f k a0 a1 a2 a3 ls).bind fun bt => (laws_eqReply.f k a0 a1 a2 a3 (ls.map nd) bt.1 bt.2.1 bt.2.2.1 bt.2.2.2.1 bt.2.2.2.2).bind fun t => if t = true then some true else none) (fun k => ?_) (hto.bind (heq.bind (Ev.const rfl)))
    rw [laws_FnExactReplyText.j0, if_neg (by simp)]
end Go.Proofs.Ythoeiiecmmagnaa.Pure
