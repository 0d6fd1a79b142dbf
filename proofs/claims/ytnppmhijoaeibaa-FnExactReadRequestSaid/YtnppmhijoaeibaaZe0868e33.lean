/- Several of our texts, one behind the other, without what this claim does not need: PRdqx1, PFnExactReadRequestx1, WireP, WireQ, WireR, ReqP, ReadP, PureFnExactReadRequest. -/
import Derived.Test.YtnppmhijoaeibaaProg
import Derived.Below
import Derived.Deep.Draws
import Derived.Deep.AppendLies
import Derived.Maps.AppendAt
import Derived.OwnWalk
import Derived.Laws.BytesArg
import Derived.Laws.MakeOwn
import Derived.Laws.OwnMore
import Derived.Deep.OwnRows
import Derived.Tactics
import Derived.Lib.ConvBytes
import Derived.Laws.Slices
import Derived.WalkKit
import Derived.KernelRfl
import Derived.RowKit3
import Derived.Deep.LoopGhost
import Derived.Deep.QuietTactic
import Derived.BigQuiet
import Derived.WideLaws
import Derived.Deep.DeepCutAuto
import Derived.Deep.CutBlock
import Derived.Deep.RegionHeld3
import Derived.Laws.Rows
import Derived.Lib.AppendStr
import Derived.ArgAppend
import Derived.Laws.IdiomCopy
import Derived.OrdersHeld
import Derived.Laws.BitsLemmas
import Derived.RowKit
import Derived.Test.YtnppmhijoaeibaaZbec7c042
import Derived.Test.YtnppmhijoaeibaaZ66b56539
import Derived.Test.YtnppmhijoaeibaaZb088bbcb
import Derived.Test.YtnppmhijoaeibaaZ15dc880a
import Derived.Test.YtnppmhijoaeibaaZ9417bc2d
import Derived.Test.YtnppmhijoaeibaaZ6079f275
import Derived.Test.YtnppmhijoaeibaaZ13011d3d
import Derived.Test.YtnppmhijoaeibaaZ4bf85a8c
import Derived.Test.YtnppmhijoaeibaaZc67ac5e2
import Derived.Test.YtnppmhijoaeibaaZ8ca04a5b
import Derived.Test.YtnppmhijoaeibaaZa77e29b8
import Derived.Test.YtnppmhijoaeibaaZa517a79a
import Derived.Test.YtnppmhijoaeibaaZ6dfa3665
import Derived.StillTailTactics
import Derived.Outline
import Derived.IntWalk
import Derived.Lib.Hide
import Derived.Shelf.Small.Strs
import Derived.Test.YtnppmhijoaeibaaZ9f904f2b
import Derived.Test.YtnppmhijoaeibaaZ119db45c
import Derived.Test.YtnppmhijoaeibaaZdc0d3fff
import Derived.Lib.Strings
namespace Go.Proofs.Ytnppmhijoaeibaa.Q
open Go.RowKit Go.Proofs.YtnppmhijoaeibaaW.PrintWords Go.Proofs.YtnppmhijoaeibaaW.PrintLast Go.Proofs.YtnppmhijoaeibaaW.PrintMore
open Go.Proofs.Ytnppmhijoaeibaa.H
attribute [local go_sem] max2_int min2_int max_two min_two max_three min_three max_four min_four
set_option linter.unusedVariables false
set_option linter.unusedSimpArgs false
def spec_ReadRequest.f (k : Nat) (a0 : ByteArray) : Option (Int × Int × Int × Int × Int × Int × Int × Int × ByteArray × Int) := if (a0.size : Int) > 65536 then (some (0, 0, 0, 0, 0, 0, 0, 0, (⟨#[]⟩ : ByteArray), 2)) else ((spec_l10ReadRequest.f k a0).bind fun bt102 => (some (bt102.1, bt102.2.1, bt102.2.2.1, bt102.2.2.2.1, bt102.2.2.2.2.1, bt102.2.2.2.2.2.1, bt102.2.2.2.2.2.2.1, bt102.2.2.2.2.2.2.2.1, bt102.2.2.2.2.2.2.2.2.1, bt102.2.2.2.2.2.2.2.2.2)))
theorem spec_ReadRequest.mono : ∀ a0 k, LeO (spec_ReadRequest.f k a0) (spec_ReadRequest.f (k + 1) a0) := by
  intro a0 k
  unfold spec_ReadRequest.f
  repeat' first
      | (with_reducible exact spec_l10ReadRequest.mono _ _)
      | (with_reducible exact LeO.refl _)
      | (with_reducible exact LeO.none _)
      | (with_reducible refine LeO.ite ?_ ?_)
      | (with_reducible refine LeO.bind ?_ (fun _ => ?_))
      | exact spec_l10ReadRequest.mono _ _
      | exact LeO.none _
      | refine LeO.ite ?_ ?_
      | refine LeO.bind ?_ (fun _ => ?_)
set_option maxHeartbeats 8000000 in
set_option maxRecDepth 100000 in
theorem spec_ReadRequest.calls (k : Nat) (a0 : ByteArray) (r1 : Int) (r2 : Int) (r3 : Int) (r4 : Int) (r5 : Int) (r6 : Int) (r7 : Int) (r8 : Int) (r9 : ByteArray) (r10 : Int) (w : World) (h : spec_ReadRequest.f k a0 = some (r1, r2, r3, r4, r5, r6, r7, r8, r9, r10)) :
    Calls Try.prog 40 #[.string a0] w fun e w' => e = .returned (.tuple #[.agg #[.int .i64 r1, .int .i64 r2, .int .i64 r3, .int .i64 r4, .int .i64 r5, .int .i64 r6, .int .i64 r7, .int .i64 r8, .string r9], .int .i64 r10]) ∧ Below w.heap.size w w' := by
  have hu44 := Try.underlying44
  have HB := Aside0.mk (Below.refl w.heap.size w)
  have H : (if (a0.size : Int) > 65536 then (some (0, 0, 0, 0, 0, 0, 0, 0, (⟨#[]⟩ : ByteArray), 2)) else ((spec_l10ReadRequest.f k a0).bind fun bt102 => (some (bt102.1, bt102.2.1, bt102.2.2.1, bt102.2.2.2.1, bt102.2.2.2.2.1, bt102.2.2.2.2.2.1, bt102.2.2.2.2.2.2.1, bt102.2.2.2.2.2.2.2.1, bt102.2.2.2.2.2.2.2.2.1, bt102.2.2.2.2.2.2.2.2.2)))) = some (r1, r2, r3, r4, r5, r6, r7, r8, r9, r10) := h
  clear h
  by_cases c2 : (a0.size : Int) > 65536
  · rw [if_pos c2] at H
    have c2b0 : decide (65536 < (a0.size : Int)) = true := decide_eq_true c2
    have c2b1 : decide (65536 < a0.size) = true := decide_eq_true (by omega)
    clear c2
    simp only [Option.some.injEq, Prod.mk.injEq] at H
    obtain ⟨rfl, rfl, rfl, rfl, rfl, rfl, rfl, rfl, rfl, rfl⟩ := H
    go_enter Try.func40, Try.ntmps40
    go_wp2_with (first | ((with_reducible refine gate_dst (N := 2) rfl ?_); refine box_event ?hg (N := 2) ?hd (cs := #[.int .i64 0, .int .i64 0, .int .i64 0, .int .i64 0, .int .i64 0, .int .i64 0, .int .i64 0, .int .i64 0, .string (⟨#[]⟩ : ByteArray)]) (t := 44) ?hr ?_; (case hd => rfl); (case hg => rfl); (case hr => first | (go_simp; done) | (go_simp; rfl)); intro gb101 hg w3 hbox hb; have n0_ := Aside0.mk (below_step (by repeat (first | (with_reducible first | exact HB.out | apply below_alloc | apply pw_below_drewN | apply below_drew1) | exact HB.out)) hb); have n1_ := Aside0.mk (hbox); have n2_ := Aside0.mk ((by rw [hg]; exact (below_size (by repeat (first | (with_reducible first | exact HB.out | apply below_alloc | apply pw_below_drewN | apply below_drew1) | exact HB.out))) : w.heap.size ≤ gb101)); have n3_ := Aside0.mk ((by rw [hg]; exact (below_size (by repeat (first | (with_reducible first | exact HB.out | apply below_alloc | apply pw_below_drewN | apply below_drew1) | exact HB.out))) : w.heap.size ≤ gb101)); clear HB; have HB := n0_; have BK101 := n1_; have GW101 := n2_; have GE101 := n3_; clear n0_ n1_ n2_ n3_; clear hb hbox hg; have hcz4_0 : w3.cell? ⟨gb101, 0, none⟩ = some (.int .i64 0) := (blk_cell BK101.out 0).trans rfl; have hcz4_1 : w3.cell? ⟨gb101, 1, none⟩ = some (.int .i64 0) := (blk_cell BK101.out 1).trans rfl; have hcz4_2 : w3.cell? ⟨gb101, 2, none⟩ = some (.int .i64 0) := (blk_cell BK101.out 2).trans rfl; have hcz4_3 : w3.cell? ⟨gb101, 3, none⟩ = some (.int .i64 0) := (blk_cell BK101.out 3).trans rfl; have hcz4_4 : w3.cell? ⟨gb101, 4, none⟩ = some (.int .i64 0) := (blk_cell BK101.out 4).trans rfl; have hcz4_5 : w3.cell? ⟨gb101, 5, none⟩ = some (.int .i64 0) := (blk_cell BK101.out 5).trans rfl; have hcz4_6 : w3.cell? ⟨gb101, 6, none⟩ = some (.int .i64 0) := (blk_cell BK101.out 6).trans rfl; have hcz4_7 : w3.cell? ⟨gb101, 7, none⟩ = some (.int .i64 0) := (blk_cell BK101.out 7).trans rfl; have hcz4_8 : w3.cell? ⟨gb101, 8, none⟩ = some (.string (⟨#[]⟩ : ByteArray)) := (blk_cell BK101.out 8).trans rfl; have hfz4_0 := blk_frozen BK101.out 0; have hfz4_1 := blk_frozen BK101.out 1; have hfz4_2 := blk_frozen BK101.out 2; have hfz4_3 := blk_frozen BK101.out 3; have hfz4_4 := blk_frozen BK101.out 4; have hfz4_5 := blk_frozen BK101.out 5; have hfz4_6 := blk_frozen BK101.out 6; have hfz4_7 := blk_frozen BK101.out 7; have hfz4_8 := blk_frozen BK101.out 8))
    refine bodyPost_ret (results_ct rfl _ _ gb101 44 #[.int .i64 0, .int .i64 0, .int .i64 0, .int .i64 0, .int .i64 0, .int .i64 0, .int .i64 0, .int .i64 0, .string (⟨#[]⟩ : ByteArray)] (0, 0) _ rfl (by (with_reducible repeat (first | refine blk_drewN ?_ _ | refine blk_drew ?_ | refine blk_alloc ?_ _)); refine blk_put (cs := #[.int .i64 0, .int .i64 0, .int .i64 0, .int .i64 0, .int .i64 0, .int .i64 0, .int .i64 0, .int .i64 0, .string (⟨#[]⟩ : ByteArray)]) ?_ 8 _ rfl; (with_reducible repeat (first | refine blk_drewN ?_ _ | refine blk_drew ?_ | refine blk_alloc ?_ _)); refine blk_put (cs := #[.int .i64 0, .int .i64 0, .int .i64 0, .int .i64 0, .int .i64 0, .int .i64 0, .int .i64 0, .int .i64 0, .string (⟨#[]⟩ : ByteArray)]) ?_ 7 _ rfl; (with_reducible repeat (first | refine blk_drewN ?_ _ | refine blk_drew ?_ | refine blk_alloc ?_ _)); refine blk_put (cs := #[.int .i64 0, .int .i64 0, .int .i64 0, .int .i64 0, .int .i64 0, .int .i64 0, .int .i64 0, .int .i64 0, .string (⟨#[]⟩ : ByteArray)]) ?_ 6 _ rfl; (with_reducible repeat (first | refine blk_drewN ?_ _ | refine blk_drew ?_ | refine blk_alloc ?_ _)); refine blk_put (cs := #[.int .i64 0, .int .i64 0, .int .i64 0, .int .i64 0, .int .i64 0, .int .i64 0, .int .i64 0, .int .i64 0, .string (⟨#[]⟩ : ByteArray)]) ?_ 5 _ rfl; (with_reducible repeat (first | refine blk_drewN ?_ _ | refine blk_drew ?_ | refine blk_alloc ?_ _)); refine blk_put (cs := #[.int .i64 0, .int .i64 0, .int .i64 0, .int .i64 0, .int .i64 0, .int .i64 0, .int .i64 0, .int .i64 0, .string (⟨#[]⟩ : ByteArray)]) ?_ 4 _ rfl; (with_reducible repeat (first | refine blk_drewN ?_ _ | refine blk_drew ?_ | refine blk_alloc ?_ _)); refine blk_put (cs := #[.int .i64 0, .int .i64 0, .int .i64 0, .int .i64 0, .int .i64 0, .int .i64 0, .int .i64 0, .int .i64 0, .string (⟨#[]⟩ : ByteArray)]) ?_ 3 _ rfl; (with_reducible repeat (first | refine blk_drewN ?_ _ | refine blk_drew ?_ | refine blk_alloc ?_ _)); refine blk_put (cs := #[.int .i64 0, .int .i64 0, .int .i64 0, .int .i64 0, .int .i64 0, .int .i64 0, .int .i64 0, .int .i64 0, .string (⟨#[]⟩ : ByteArray)]) ?_ 2 _ rfl; (with_reducible repeat (first | refine blk_drewN ?_ _ | refine blk_drew ?_ | refine blk_alloc ?_ _)); refine blk_put (cs := #[.int .i64 0, .int .i64 0, .int .i64 0, .int .i64 0, .int .i64 0, .int .i64 0, .int .i64 0, .int .i64 0, .string (⟨#[]⟩ : ByteArray)]) ?_ 1 _ rfl; (with_reducible repeat (first | refine blk_drewN ?_ _ | refine blk_drew ?_ | refine blk_alloc ?_ _)); refine blk_put (cs := #[.int .i64 0, .int .i64 0, .int .i64 0, .int .i64 0, .int .i64 0, .int .i64 0, .int .i64 0, .int .i64 0, .string (⟨#[]⟩ : ByteArray)]) ?_ 0 _ rfl; (with_reducible repeat (first | refine blk_drewN ?_ _ | refine blk_drew ?_ | refine blk_alloc ?_ _)); exact BK101.out) Try.underlying44 rfl (by kernel_rfl)) rfl ?_
    exact ⟨by first | rfl | (simp [errW_none, errW_some] <;> rfl) | (simp [*, errW_none, errW_some] <;> rfl), by repeat (first | (with_reducible first | exact HB.out | apply below_alloc | apply pw_below_drewN | apply below_drew1 | refine below_set ?_ GE101.out) | exact HB.out)⟩
  · rw [if_neg c2] at H
    have c2b0 : decide (65536 < (a0.size : Int)) = false := decide_eq_false c2
    have c2b1 : decide (65536 < a0.size) = false := decide_eq_false (by omega)
    clear c2
    replace H := Option.bind_eq_some_iff.mp H
    obtain ⟨⟨t102, t103, t104, t105, t106, t107, t108, t109, t110, t111⟩, A50, H⟩ := H
    replace H : (some (t102, t103, t104, t105, t106, t107, t108, t109, t110, t111)) = some (r1, r2, r3, r4, r5, r6, r7, r8, r9, r10) := H
    have A5 := Aside0.mk A50
    clear A50
    simp only [Option.some.injEq, Prod.mk.injEq] at H
    obtain ⟨rfl, rfl, rfl, rfl, rfl, rfl, rfl, rfl, rfl, rfl⟩ := H
    go_enter Try.func40, Try.ntmps40
    go_wp2_with (first | ((with_reducible refine gate_dst (N := 2) rfl ?_); refine box_event ?hg (N := 2) ?hd (cs := #[.int .i64 0, .int .i64 0, .int .i64 0, .int .i64 0, .int .i64 0, .int .i64 0, .int .i64 0, .int .i64 0, .string (⟨#[]⟩ : ByteArray)]) (t := 44) ?hr ?_; (case hd => rfl); (case hg => rfl); (case hr => first | (go_simp; done) | (go_simp; rfl)); intro gb101 hg w6 hbox hb; have n0_ := Aside0.mk (below_step (by repeat (first | (with_reducible first | exact HB.out | apply below_alloc | apply pw_below_drewN | apply below_drew1) | exact HB.out)) hb); have n1_ := Aside0.mk (hbox); have n2_ := Aside0.mk ((by rw [hg]; exact (below_size (by repeat (first | (with_reducible first | exact HB.out | apply below_alloc | apply pw_below_drewN | apply below_drew1) | exact HB.out))) : w.heap.size ≤ gb101)); have n3_ := Aside0.mk ((by rw [hg]; exact (below_size (by repeat (first | (with_reducible first | exact HB.out | apply below_alloc | apply pw_below_drewN | apply below_drew1) | exact HB.out))) : w.heap.size ≤ gb101)); clear HB; have HB := n0_; have BK101 := n1_; have GW101 := n2_; have GE101 := n3_; clear n0_ n1_ n2_ n3_; clear hb hbox hg) | ((with_reducible refine gate_callee (f := 79) rfl ?_); refine goesL_ (some 9) rfl rfl Try.func79 (by kernel_rfl) rfl #[.string a0] rfl (by (try simp only [List.map_toArray, List.map_cons, List.map_nil]); first | done | rfl | (simp only [List.length_drop, List.length_take]; rfl)) ?_; (with_reducible refine (spec_l10ReadRequest.calls k a0 t102 t103 t104 t105 t106 t107 t108 t109 t110 t111 _ A5.out).mono ?_); rintro e w7 ⟨rfl, hb⟩; refine ⟨_, rfl, ?_⟩; have n0_ := Aside0.mk (blk_below (g := gb101) (o := .cells #[.int .i64 0, .int .i64 0, .int .i64 0, .int .i64 0, .int .i64 0, .int .i64 0, .int .i64 0, .int .i64 0, .string (⟨#[]⟩ : ByteArray)] 44 (0, 0)) (by (with_reducible repeat (first | refine blk_drewN ?_ _ | refine blk_drew ?_ | refine blk_alloc ?_ _)); exact BK101.out) hb); have n1_ := Aside0.mk (below_step (by repeat (first | (with_reducible first | exact HB.out | apply below_alloc | apply pw_below_drewN | apply below_drew1 | refine below_set ?_ GE101.out) | exact HB.out)) hb); clear BK101; clear HB; have BK101 := n0_; have HB := n1_; clear n0_ n1_; (try clear hb); (try clear hb2); (try clear hk); (try clear hi); have hcz8_0 : w7.cell? ⟨gb101, 0, none⟩ = some (.int .i64 0) := (blk_cell BK101.out 0).trans rfl; have hcz8_1 : w7.cell? ⟨gb101, 1, none⟩ = some (.int .i64 0) := (blk_cell BK101.out 1).trans rfl; have hcz8_2 : w7.cell? ⟨gb101, 2, none⟩ = some (.int .i64 0) := (blk_cell BK101.out 2).trans rfl; have hcz8_3 : w7.cell? ⟨gb101, 3, none⟩ = some (.int .i64 0) := (blk_cell BK101.out 3).trans rfl; have hcz8_4 : w7.cell? ⟨gb101, 4, none⟩ = some (.int .i64 0) := (blk_cell BK101.out 4).trans rfl; have hcz8_5 : w7.cell? ⟨gb101, 5, none⟩ = some (.int .i64 0) := (blk_cell BK101.out 5).trans rfl; have hcz8_6 : w7.cell? ⟨gb101, 6, none⟩ = some (.int .i64 0) := (blk_cell BK101.out 6).trans rfl; have hcz8_7 : w7.cell? ⟨gb101, 7, none⟩ = some (.int .i64 0) := (blk_cell BK101.out 7).trans rfl; have hcz8_8 : w7.cell? ⟨gb101, 8, none⟩ = some (.string (⟨#[]⟩ : ByteArray)) := (blk_cell BK101.out 8).trans rfl; have hfz8_0 := blk_frozen BK101.out 0; have hfz8_1 := blk_frozen BK101.out 1; have hfz8_2 := blk_frozen BK101.out 2; have hfz8_3 := blk_frozen BK101.out 3; have hfz8_4 := blk_frozen BK101.out 4; have hfz8_5 := blk_frozen BK101.out 5; have hfz8_6 := blk_frozen BK101.out 6; have hfz8_7 := blk_frozen BK101.out 7; have hfz8_8 := blk_frozen BK101.out 8))
    refine bodyPost_ret (results_ct rfl _ _ gb101 44 #[.int .i64 t102, .int .i64 t103, .int .i64 t104, .int .i64 t105, .int .i64 t106, .int .i64 t107, .int .i64 t108, .int .i64 t109, .string t110] (0, 0) _ rfl (by (with_reducible repeat (first | refine blk_drewN ?_ _ | refine blk_drew ?_ | refine blk_alloc ?_ _)); refine blk_put (cs := #[.int .i64 t102, .int .i64 t103, .int .i64 t104, .int .i64 t105, .int .i64 t106, .int .i64 t107, .int .i64 t108, .int .i64 t109, .string (⟨#[]⟩ : ByteArray)]) ?_ 8 _ rfl; (with_reducible repeat (first | refine blk_drewN ?_ _ | refine blk_drew ?_ | refine blk_alloc ?_ _)); refine blk_put (cs := #[.int .i64 t102, .int .i64 t103, .int .i64 t104, .int .i64 t105, .int .i64 t106, .int .i64 t107, .int .i64 t108, .int .i64 0, .string (⟨#[]⟩ : ByteArray)]) ?_ 7 _ rfl; (with_reducible repeat (first | refine blk_drewN ?_ _ | refine blk_drew ?_ | refine blk_alloc ?_ _)); refine blk_put (cs := #[.int .i64 t102, .int .i64 t103, .int .i64 t104, .int .i64 t105, .int .i64 t106, .int .i64 t107, .int .i64 0, .int .i64 0, .string (⟨#[]⟩ : ByteArray)]) ?_ 6 _ rfl; (with_reducible repeat (first | refine blk_drewN ?_ _ | refine blk_drew ?_ | refine blk_alloc ?_ _)); refine blk_put (cs := #[.int .i64 t102, .int .i64 t103, .int .i64 t104, .int .i64 t105, .int .i64 t106, .int .i64 0, .int .i64 0, .int .i64 0, .string (⟨#[]⟩ : ByteArray)]) ?_ 5 _ rfl; (with_reducible repeat (first | refine blk_drewN ?_ _ | refine blk_drew ?_ | refine blk_alloc ?_ _)); refine blk_put (cs := #[.int .i64 t102, .int .i64 t103, .int .i64 t104, .int .i64 t105, .int .i64 0, .int .i64 0, .int .i64 0, .int .i64 0, .string (⟨#[]⟩ : ByteArray)]) ?_ 4 _ rfl; (with_reducible repeat (first | refine blk_drewN ?_ _ | refine blk_drew ?_ | refine blk_alloc ?_ _)); refine blk_put (cs := #[.int .i64 t102, .int .i64 t103, .int .i64 t104, .int .i64 0, .int .i64 0, .int .i64 0, .int .i64 0, .int .i64 0, .string (⟨#[]⟩ : ByteArray)]) ?_ 3 _ rfl; (with_reducible repeat (first | refine blk_drewN ?_ _ | refine blk_drew ?_ | refine blk_alloc ?_ _)); refine blk_put (cs := #[.int .i64 t102, .int .i64 t103, .int .i64 0, .int .i64 0, .int .i64 0, .int .i64 0, .int .i64 0, .int .i64 0, .string (⟨#[]⟩ : ByteArray)]) ?_ 2 _ rfl; (with_reducible repeat (first | refine blk_drewN ?_ _ | refine blk_drew ?_ | refine blk_alloc ?_ _)); refine blk_put (cs := #[.int .i64 t102, .int .i64 0, .int .i64 0, .int .i64 0, .int .i64 0, .int .i64 0, .int .i64 0, .int .i64 0, .string (⟨#[]⟩ : ByteArray)]) ?_ 1 _ rfl; (with_reducible repeat (first | refine blk_drewN ?_ _ | refine blk_drew ?_ | refine blk_alloc ?_ _)); refine blk_put (cs := #[.int .i64 0, .int .i64 0, .int .i64 0, .int .i64 0, .int .i64 0, .int .i64 0, .int .i64 0, .int .i64 0, .string (⟨#[]⟩ : ByteArray)]) ?_ 0 _ rfl; (with_reducible repeat (first | refine blk_drewN ?_ _ | refine blk_drew ?_ | refine blk_alloc ?_ _)); exact BK101.out) Try.underlying44 rfl (by kernel_rfl)) rfl ?_
    exact ⟨by first | rfl | (simp [errW_none, errW_some] <;> rfl) | (simp [*, errW_none, errW_some] <;> rfl), by repeat (first | (with_reducible first | exact HB.out | apply below_alloc | apply pw_below_drewN | apply below_drew1 | refine below_set ?_ GE101.out) | exact HB.out)⟩
def impl_ReadRequest.f (k : Nat) (a0 : ByteArray) : Option (Int × Int × Int × Int × Int × Int × Int × Int × ByteArray × Int) := (impl_isLong.f a0).bind fun t113 => (if t113 = true then (some (0, 0, 0, 0, 0, 0, 0, 0, (⟨#[]⟩ : ByteArray), 2)) else ((impl_takeRequest.f k a0).bind fun bt114 => (some (bt114.1, bt114.2.1, bt114.2.2.1, bt114.2.2.2.1, bt114.2.2.2.2.1, bt114.2.2.2.2.2.1, bt114.2.2.2.2.2.2.1, bt114.2.2.2.2.2.2.2.1, bt114.2.2.2.2.2.2.2.2.1, bt114.2.2.2.2.2.2.2.2.2))))
theorem impl_ReadRequest.mono : ∀ a0 k, LeO (impl_ReadRequest.f k a0) (impl_ReadRequest.f (k + 1) a0) := by
  intro a0 k
  unfold impl_ReadRequest.f
  repeat' first
      | (with_reducible exact impl_takeRequest.mono _ _)
      | (with_reducible exact LeO.refl _)
      | (with_reducible exact LeO.none _)
      | (with_reducible refine LeO.ite ?_ ?_)
      | (with_reducible refine LeO.bind ?_ (fun _ => ?_))
      | exact impl_takeRequest.mono _ _
      | exact LeO.none _
      | refine LeO.ite ?_ ?_
      | refine LeO.bind ?_ (fun _ => ?_)
set_option maxHeartbeats 8000000 in
set_option maxRecDepth 100000 in
theorem impl_ReadRequest.calls (k : Nat) (a0 : ByteArray) (r1 : Int) (r2 : Int) (r3 : Int) (r4 : Int) (r5 : Int) (r6 : Int) (r7 : Int) (r8 : Int) (r9 : ByteArray) (r10 : Int) (w : World) (h : impl_ReadRequest.f k a0 = some (r1, r2, r3, r4, r5, r6, r7, r8, r9, r10)) :
    Calls Try.prog 41 #[.string a0] w fun e w' => e = .returned (.tuple #[.agg #[.int .i64 r1, .int .i64 r2, .int .i64 r3, .int .i64 r4, .int .i64 r5, .int .i64 r6, .int .i64 r7, .int .i64 r8, .string r9], .int .i64 r10]) ∧ Below w.heap.size w w' := by
  have hu44 := Try.underlying44
  have HB := Aside0.mk (Below.refl w.heap.size w)
  have H : ((impl_isLong.f a0).bind fun t113 => (if t113 = true then (some (0, 0, 0, 0, 0, 0, 0, 0, (⟨#[]⟩ : ByteArray), 2)) else ((impl_takeRequest.f k a0).bind fun bt114 => (some (bt114.1, bt114.2.1, bt114.2.2.1, bt114.2.2.2.1, bt114.2.2.2.2.1, bt114.2.2.2.2.2.1, bt114.2.2.2.2.2.2.1, bt114.2.2.2.2.2.2.2.1, bt114.2.2.2.2.2.2.2.2.1, bt114.2.2.2.2.2.2.2.2.2))))) = some (r1, r2, r3, r4, r5, r6, r7, r8, r9, r10) := h
  clear h
  replace H := Option.bind_eq_some_iff.mp H
  obtain ⟨t113, A20, H⟩ := H
  replace H : (if t113 = true then (some (0, 0, 0, 0, 0, 0, 0, 0, (⟨#[]⟩ : ByteArray), 2)) else ((impl_takeRequest.f k a0).bind fun bt114 => (some (bt114.1, bt114.2.1, bt114.2.2.1, bt114.2.2.2.1, bt114.2.2.2.2.1, bt114.2.2.2.2.2.1, bt114.2.2.2.2.2.2.1, bt114.2.2.2.2.2.2.2.1, bt114.2.2.2.2.2.2.2.2.1, bt114.2.2.2.2.2.2.2.2.2)))) = some (r1, r2, r3, r4, r5, r6, r7, r8, r9, r10) := H
  have A2 := Aside0.mk A20
  clear A20
  by_cases c3 : t113 = true
  · subst c3
    have H1 : (some (0, 0, 0, 0, 0, 0, 0, 0, (⟨#[]⟩ : ByteArray), 2)) = some (r1, r2, r3, r4, r5, r6, r7, r8, r9, r10) := by rw [if_pos rfl] at H; exact H
    clear H
    have H := H1
    clear H1
    simp only [Option.some.injEq, Prod.mk.injEq] at H
    obtain ⟨rfl, rfl, rfl, rfl, rfl, rfl, rfl, rfl, rfl, rfl⟩ := H
    go_enter Try.func41, Try.ntmps41
    go_wp2_with (first | ((with_reducible refine gate_dst (N := 2) rfl ?_); refine box_event ?hg (N := 2) ?hd (cs := #[.int .i64 0, .int .i64 0, .int .i64 0, .int .i64 0, .int .i64 0, .int .i64 0, .int .i64 0, .int .i64 0, .string (⟨#[]⟩ : ByteArray)]) (t := 44) ?hr ?_; (case hd => rfl); (case hg => rfl); (case hr => first | (go_simp; done) | (go_simp; rfl)); intro gb112 hg w4 hbox hb; have n0_ := Aside0.mk (below_step (by repeat (first | (with_reducible first | exact HB.out | apply below_alloc | apply pw_below_drewN | apply below_drew1) | exact HB.out)) hb); have n1_ := Aside0.mk (hbox); have n2_ := Aside0.mk ((by rw [hg]; exact (below_size (by repeat (first | (with_reducible first | exact HB.out | apply below_alloc | apply pw_below_drewN | apply below_drew1) | exact HB.out))) : w.heap.size ≤ gb112)); have n3_ := Aside0.mk ((by rw [hg]; exact (below_size (by repeat (first | (with_reducible first | exact HB.out | apply below_alloc | apply pw_below_drewN | apply below_drew1) | exact HB.out))) : w.heap.size ≤ gb112)); clear HB; have HB := n0_; have BK112 := n1_; have GW112 := n2_; have GE112 := n3_; clear n0_ n1_ n2_ n3_; clear hb hbox hg) | ((with_reducible refine gate_callee (f := 48) rfl ?_); refine goesL_ (some 5) rfl rfl Try.func48 (by kernel_rfl) rfl #[.string a0] rfl (by (try simp only [List.map_toArray, List.map_cons, List.map_nil]); first | done | rfl | (simp only [List.length_drop, List.length_take]; rfl)) ?_; (with_reducible refine (impl_isLong.calls a0 true _ A2.out).mono ?_); rintro e w' ⟨rfl, ⟨nd, rfl⟩⟩; refine ⟨_, rfl, ?_⟩; (try (rw [drewN_self w4]; generalize hq_ : World.drewN w4 _ = w4; have n0_ : Aside0 (w4.heap[gb112]? = some (.cells #[.int .i64 0, .int .i64 0, .int .i64 0, .int .i64 0, .int .i64 0, .int .i64 0, .int .i64 0, .int .i64 0, .string (⟨#[]⟩ : ByteArray)] 44 (0, 0))) := ⟨by rw [← hq_]; exact (by (with_reducible repeat (first | refine blk_drewN ?_ _ | refine blk_drew ?_ | refine blk_alloc ?_ _)); exact BK112.out)⟩; have n1_ : Aside0 (Below w.heap.size w w4) := ⟨by rw [← hq_]; exact (by repeat (first | (with_reducible first | exact HB.out | apply below_alloc | apply pw_below_drewN | apply below_drew1 | refine below_set ?_ GE112.out) | exact HB.out))⟩; clear BK112 HB hq_; have BK112 := n0_; have HB := n1_; clear n0_ n1_)); have hcz5_0 : w4.cell? ⟨gb112, 0, none⟩ = some (.int .i64 0) := (blk_cell BK112.out 0).trans rfl; have hcz5_1 : w4.cell? ⟨gb112, 1, none⟩ = some (.int .i64 0) := (blk_cell BK112.out 1).trans rfl; have hcz5_2 : w4.cell? ⟨gb112, 2, none⟩ = some (.int .i64 0) := (blk_cell BK112.out 2).trans rfl; have hcz5_3 : w4.cell? ⟨gb112, 3, none⟩ = some (.int .i64 0) := (blk_cell BK112.out 3).trans rfl; have hcz5_4 : w4.cell? ⟨gb112, 4, none⟩ = some (.int .i64 0) := (blk_cell BK112.out 4).trans rfl; have hcz5_5 : w4.cell? ⟨gb112, 5, none⟩ = some (.int .i64 0) := (blk_cell BK112.out 5).trans rfl; have hcz5_6 : w4.cell? ⟨gb112, 6, none⟩ = some (.int .i64 0) := (blk_cell BK112.out 6).trans rfl; have hcz5_7 : w4.cell? ⟨gb112, 7, none⟩ = some (.int .i64 0) := (blk_cell BK112.out 7).trans rfl; have hcz5_8 : w4.cell? ⟨gb112, 8, none⟩ = some (.string (⟨#[]⟩ : ByteArray)) := (blk_cell BK112.out 8).trans rfl; have hfz5_0 := blk_frozen BK112.out 0; have hfz5_1 := blk_frozen BK112.out 1; have hfz5_2 := blk_frozen BK112.out 2; have hfz5_3 := blk_frozen BK112.out 3; have hfz5_4 := blk_frozen BK112.out 4; have hfz5_5 := blk_frozen BK112.out 5; have hfz5_6 := blk_frozen BK112.out 6; have hfz5_7 := blk_frozen BK112.out 7; have hfz5_8 := blk_frozen BK112.out 8))
    refine bodyPost_ret (results_ct rfl _ _ gb112 44 #[.int .i64 0, .int .i64 0, .int .i64 0, .int .i64 0, .int .i64 0, .int .i64 0, .int .i64 0, .int .i64 0, .string (⟨#[]⟩ : ByteArray)] (0, 0) _ rfl (by (with_reducible repeat (first | refine blk_drewN ?_ _ | refine blk_drew ?_ | refine blk_alloc ?_ _)); refine blk_put (cs := #[.int .i64 0, .int .i64 0, .int .i64 0, .int .i64 0, .int .i64 0, .int .i64 0, .int .i64 0, .int .i64 0, .string (⟨#[]⟩ : ByteArray)]) ?_ 8 _ rfl; (with_reducible repeat (first | refine blk_drewN ?_ _ | refine blk_drew ?_ | refine blk_alloc ?_ _)); refine blk_put (cs := #[.int .i64 0, .int .i64 0, .int .i64 0, .int .i64 0, .int .i64 0, .int .i64 0, .int .i64 0, .int .i64 0, .string (⟨#[]⟩ : ByteArray)]) ?_ 7 _ rfl; (with_reducible repeat (first | refine blk_drewN ?_ _ | refine blk_drew ?_ | refine blk_alloc ?_ _)); refine blk_put (cs := #[.int .i64 0, .int .i64 0, .int .i64 0, .int .i64 0, .int .i64 0, .int .i64 0, .int .i64 0, .int .i64 0, .string (⟨#[]⟩ : ByteArray)]) ?_ 6 _ rfl; (with_reducible repeat (first | refine blk_drewN ?_ _ | refine blk_drew ?_ | refine blk_alloc ?_ _)); refine blk_put (cs := #[.int .i64 0, .int .i64 0, .int .i64 0, .int .i64 0, .int .i64 0, .int .i64 0, .int .i64 0, .int .i64 0, .string (⟨#[]⟩ : ByteArray)]) ?_ 5 _ rfl; (with_reducible repeat (first | refine blk_drewN ?_ _ | refine blk_drew ?_ | refine blk_alloc ?_ _)); refine blk_put (cs := #[.int .i64 0, .int .i64 0, .int .i64 0, .int .i64 0, .int .i64 0, .int .i64 0, .int .i64 0, .int .i64 0, .string (⟨#[]⟩ : ByteArray)]) ?_ 4 _ rfl; (with_reducible repeat (first | refine blk_drewN ?_ _ | refine blk_drew ?_ | refine blk_alloc ?_ _)); refine blk_put (cs := #[.int .i64 0, .int .i64 0, .int .i64 0, .int .i64 0, .int .i64 0, .int .i64 0, .int .i64 0, .int .i64 0, .string (⟨#[]⟩ : ByteArray)]) ?_ 3 _ rfl; (with_reducible repeat (first | refine blk_drewN ?_ _ | refine blk_drew ?_ | refine blk_alloc ?_ _)); refine blk_put (cs := #[.int .i64 0, .int .i64 0, .int .i64 0, .int .i64 0, .int .i64 0, .int .i64 0, .int .i64 0, .int .i64 0, .string (⟨#[]⟩ : ByteArray)]) ?_ 2 _ rfl; (with_reducible repeat (first | refine blk_drewN ?_ _ | refine blk_drew ?_ | refine blk_alloc ?_ _)); refine blk_put (cs := #[.int .i64 0, .int .i64 0, .int .i64 0, .int .i64 0, .int .i64 0, .int .i64 0, .int .i64 0, .int .i64 0, .string (⟨#[]⟩ : ByteArray)]) ?_ 1 _ rfl; (with_reducible repeat (first | refine blk_drewN ?_ _ | refine blk_drew ?_ | refine blk_alloc ?_ _)); refine blk_put (cs := #[.int .i64 0, .int .i64 0, .int .i64 0, .int .i64 0, .int .i64 0, .int .i64 0, .int .i64 0, .int .i64 0, .string (⟨#[]⟩ : ByteArray)]) ?_ 0 _ rfl; (with_reducible repeat (first | refine blk_drewN ?_ _ | refine blk_drew ?_ | refine blk_alloc ?_ _)); exact BK112.out) Try.underlying44 rfl (by kernel_rfl)) rfl ?_
    exact ⟨by first | rfl | (simp [errW_none, errW_some] <;> rfl) | (simp [*, errW_none, errW_some] <;> rfl), by repeat (first | (with_reducible first | exact HB.out | apply below_alloc | apply pw_below_drewN | apply below_drew1 | refine below_set ?_ GE112.out) | exact HB.out)⟩
  · replace c3 := Bool.eq_false_iff.mpr c3
    subst c3
    have H1 : ((impl_takeRequest.f k a0).bind fun bt114 => (some (bt114.1, bt114.2.1, bt114.2.2.1, bt114.2.2.2.1, bt114.2.2.2.2.1, bt114.2.2.2.2.2.1, bt114.2.2.2.2.2.2.1, bt114.2.2.2.2.2.2.2.1, bt114.2.2.2.2.2.2.2.2.1, bt114.2.2.2.2.2.2.2.2.2))) = some (r1, r2, r3, r4, r5, r6, r7, r8, r9, r10) := by rw [if_neg (show ¬ (false = true) by decide)] at H; exact H
    clear H
    have H := H1
    clear H1
    replace H := Option.bind_eq_some_iff.mp H
    obtain ⟨⟨t114, t115, t116, t117, t118, t119, t120, t121, t122, t123⟩, A60, H⟩ := H
    replace H : (some (t114, t115, t116, t117, t118, t119, t120, t121, t122, t123)) = some (r1, r2, r3, r4, r5, r6, r7, r8, r9, r10) := H
    have A6 := Aside0.mk A60
    clear A60
    simp only [Option.some.injEq, Prod.mk.injEq] at H
    obtain ⟨rfl, rfl, rfl, rfl, rfl, rfl, rfl, rfl, rfl, rfl⟩ := H
    go_enter Try.func41, Try.ntmps41
    go_wp2_with (first | ((with_reducible refine gate_dst (N := 2) rfl ?_); refine box_event ?hg (N := 2) ?hd (cs := #[.int .i64 0, .int .i64 0, .int .i64 0, .int .i64 0, .int .i64 0, .int .i64 0, .int .i64 0, .int .i64 0, .string (⟨#[]⟩ : ByteArray)]) (t := 44) ?hr ?_; (case hd => rfl); (case hg => rfl); (case hr => first | (go_simp; done) | (go_simp; rfl)); intro gb112 hg w7 hbox hb; have n0_ := Aside0.mk (below_step (by repeat (first | (with_reducible first | exact HB.out | apply below_alloc | apply pw_below_drewN | apply below_drew1) | exact HB.out)) hb); have n1_ := Aside0.mk (hbox); have n2_ := Aside0.mk ((by rw [hg]; exact (below_size (by repeat (first | (with_reducible first | exact HB.out | apply below_alloc | apply pw_below_drewN | apply below_drew1) | exact HB.out))) : w.heap.size ≤ gb112)); have n3_ := Aside0.mk ((by rw [hg]; exact (below_size (by repeat (first | (with_reducible first | exact HB.out | apply below_alloc | apply pw_below_drewN | apply below_drew1) | exact HB.out))) : w.heap.size ≤ gb112)); clear HB; have HB := n0_; have BK112 := n1_; have GW112 := n2_; have GE112 := n3_; clear n0_ n1_ n2_ n3_; clear hb hbox hg) | ((with_reducible refine gate_callee (f := 48) rfl ?_); refine goesL_ (some 5) rfl rfl Try.func48 (by kernel_rfl) rfl #[.string a0] rfl (by (try simp only [List.map_toArray, List.map_cons, List.map_nil]); first | done | rfl | (simp only [List.length_drop, List.length_take]; rfl)) ?_; (with_reducible refine (impl_isLong.calls a0 false _ A2.out).mono ?_); rintro e w' ⟨rfl, ⟨nd, rfl⟩⟩; refine ⟨_, rfl, ?_⟩; (try (rw [drewN_self w7]; generalize hq_ : World.drewN w7 _ = w7; have n0_ : Aside0 (w7.heap[gb112]? = some (.cells #[.int .i64 0, .int .i64 0, .int .i64 0, .int .i64 0, .int .i64 0, .int .i64 0, .int .i64 0, .int .i64 0, .string (⟨#[]⟩ : ByteArray)] 44 (0, 0))) := ⟨by rw [← hq_]; exact (by (with_reducible repeat (first | refine blk_drewN ?_ _ | refine blk_drew ?_ | refine blk_alloc ?_ _)); exact BK112.out)⟩; have n1_ : Aside0 (Below w.heap.size w w7) := ⟨by rw [← hq_]; exact (by repeat (first | (with_reducible first | exact HB.out | apply below_alloc | apply pw_below_drewN | apply below_drew1 | refine below_set ?_ GE112.out) | exact HB.out))⟩; clear BK112 HB hq_; have BK112 := n0_; have HB := n1_; clear n0_ n1_))) | ((with_reducible refine gate_callee (f := 80) rfl ?_); refine goesL_ (some 8) rfl rfl Try.func80 (by kernel_rfl) rfl #[.string a0] rfl (by (try simp only [List.map_toArray, List.map_cons, List.map_nil]); first | done | rfl | (simp only [List.length_drop, List.length_take]; rfl)) ?_; (with_reducible refine (impl_takeRequest.calls k a0 t114 t115 t116 t117 t118 t119 t120 t121 t122 t123 _ A6.out).mono ?_); rintro e w8 ⟨rfl, hb⟩; refine ⟨_, rfl, ?_⟩; have n0_ := Aside0.mk (blk_below (g := gb112) (o := .cells #[.int .i64 0, .int .i64 0, .int .i64 0, .int .i64 0, .int .i64 0, .int .i64 0, .int .i64 0, .int .i64 0, .string (⟨#[]⟩ : ByteArray)] 44 (0, 0)) (by (with_reducible repeat (first | refine blk_drewN ?_ _ | refine blk_drew ?_ | refine blk_alloc ?_ _)); exact BK112.out) hb); have n1_ := Aside0.mk (below_step (by repeat (first | (with_reducible first | exact HB.out | apply below_alloc | apply pw_below_drewN | apply below_drew1 | refine below_set ?_ GE112.out) | exact HB.out)) hb); clear BK112; clear HB; have BK112 := n0_; have HB := n1_; clear n0_ n1_; (try clear hb); (try clear hb2); (try clear hk); (try clear hi); have hcz9_0 : w8.cell? ⟨gb112, 0, none⟩ = some (.int .i64 0) := (blk_cell BK112.out 0).trans rfl; have hcz9_1 : w8.cell? ⟨gb112, 1, none⟩ = some (.int .i64 0) := (blk_cell BK112.out 1).trans rfl; have hcz9_2 : w8.cell? ⟨gb112, 2, none⟩ = some (.int .i64 0) := (blk_cell BK112.out 2).trans rfl; have hcz9_3 : w8.cell? ⟨gb112, 3, none⟩ = some (.int .i64 0) := (blk_cell BK112.out 3).trans rfl; have hcz9_4 : w8.cell? ⟨gb112, 4, none⟩ = some (.int .i64 0) := (blk_cell BK112.out 4).trans rfl; have hcz9_5 : w8.cell? ⟨gb112, 5, none⟩ = some (.int .i64 0) := (blk_cell BK112.out 5).trans rfl; have hcz9_6 : w8.cell? ⟨gb112, 6, none⟩ = some (.int .i64 0) := (blk_cell BK112.out 6).trans rfl; have hcz9_7 : w8.cell? ⟨gb112, 7, none⟩ = some (.int .i64 0) := (blk_cell BK112.out 7).trans rfl; have hcz9_8 : w8.cell? ⟨gb112, 8, none⟩ = some (.string (⟨#[]⟩ : ByteArray)) := (blk_cell BK112.out 8).trans rfl; have hfz9_0 := blk_frozen BK112.out 0; have hfz9_1 := blk_frozen BK112.out 1; have hfz9_2 := blk_frozen BK112.out 2; have hfz9_3 := blk_frozen BK112.out 3; have hfz9_4 := blk_frozen BK112.out 4; have hfz9_5 := blk_frozen BK112.out 5; have hfz9_6 := blk_frozen BK112.out 6; have hfz9_7 := blk_frozen BK112.out 7; have hfz9_8 := blk_frozen BK112.out 8))
    refine bodyPost_ret (results_ct rfl _ _ gb112 44 #[.int .i64 t114, .int .i64 t115, .int .i64 t116, .int .i64 t117, .int .i64 t118, .int .i64 t119, .int .i64 t120, .int .i64 t121, .string t122] (0, 0) _ rfl (by (with_reducible repeat (first | refine blk_drewN ?_ _ | refine blk_drew ?_ | refine blk_alloc ?_ _)); refine blk_put (cs := #[.int .i64 t114, .int .i64 t115, .int .i64 t116, .int .i64 t117, .int .i64 t118, .int .i64 t119, .int .i64 t120, .int .i64 t121, .string (⟨#[]⟩ : ByteArray)]) ?_ 8 _ rfl; (with_reducible repeat (first | refine blk_drewN ?_ _ | refine blk_drew ?_ | refine blk_alloc ?_ _)); refine blk_put (cs := #[.int .i64 t114, .int .i64 t115, .int .i64 t116, .int .i64 t117, .int .i64 t118, .int .i64 t119, .int .i64 t120, .int .i64 0, .string (⟨#[]⟩ : ByteArray)]) ?_ 7 _ rfl; (with_reducible repeat (first | refine blk_drewN ?_ _ | refine blk_drew ?_ | refine blk_alloc ?_ _)); refine blk_put (cs := #[.int .i64 t114, .int .i64 t115, .int .i64 t116, .int .i64 t117, .int .i64 t118, .int .i64 t119, .int .i64 0, .int .i64 0, .string (⟨#[]⟩ : ByteArray)]) ?_ 6 _ rfl; (with_reducible repeat (first | refine blk_drewN ?_ _ | refine blk_drew ?_ | refine blk_alloc ?_ _)); refine blk_put (cs := #[.int .i64 t114, .int .i64 t115, .int .i64 t116, .int .i64 t117, .int .i64 t118, .int .i64 0, .int .i64 0, .int .i64 0, .string (⟨#[]⟩ : ByteArray)]) ?_ 5 _ rfl; (with_reducible repeat (first | refine blk_drewN ?_ _ | refine blk_drew ?_ | refine blk_alloc ?_ _)); refine blk_put (cs := #[.int .i64 t114, .int .i64 t115, .int .i64 t116, .int .i64 t117, .int .i64 0, .int .i64 0, .int .i64 0, .int .i64 0, .string (⟨#[]⟩ : ByteArray)]) ?_ 4 _ rfl; (with_reducible repeat (first | refine blk_drewN ?_ _ | refine blk_drew ?_ | refine blk_alloc ?_ _)); refine blk_put (cs := #[.int .i64 t114, .int .i64 t115, .int .i64 t116, .int .i64 0, .int .i64 0, .int .i64 0, .int .i64 0, .int .i64 0, .string (⟨#[]⟩ : ByteArray)]) ?_ 3 _ rfl; (with_reducible repeat (first | refine blk_drewN ?_ _ | refine blk_drew ?_ | refine blk_alloc ?_ _)); refine blk_put (cs := #[.int .i64 t114, .int .i64 t115, .int .i64 0, .int .i64 0, .int .i64 0, .int .i64 0, .int .i64 0, .int .i64 0, .string (⟨#[]⟩ : ByteArray)]) ?_ 2 _ rfl; (with_reducible repeat (first | refine blk_drewN ?_ _ | refine blk_drew ?_ | refine blk_alloc ?_ _)); refine blk_put (cs := #[.int .i64 t114, .int .i64 0, .int .i64 0, .int .i64 0, .int .i64 0, .int .i64 0, .int .i64 0, .int .i64 0, .string (⟨#[]⟩ : ByteArray)]) ?_ 1 _ rfl; (with_reducible repeat (first | refine blk_drewN ?_ _ | refine blk_drew ?_ | refine blk_alloc ?_ _)); refine blk_put (cs := #[.int .i64 0, .int .i64 0, .int .i64 0, .int .i64 0, .int .i64 0, .int .i64 0, .int .i64 0, .int .i64 0, .string (⟨#[]⟩ : ByteArray)]) ?_ 0 _ rfl; (with_reducible repeat (first | refine blk_drewN ?_ _ | refine blk_drew ?_ | refine blk_alloc ?_ _)); exact BK112.out) Try.underlying44 rfl (by kernel_rfl)) rfl ?_
    exact ⟨by first | rfl | (simp [errW_none, errW_some] <;> rfl) | (simp [*, errW_none, errW_some] <;> rfl), by repeat (first | (with_reducible first | exact HB.out | apply below_alloc | apply pw_below_drewN | apply below_drew1 | refine below_set ?_ GE112.out) | exact HB.out)⟩
end Go.Proofs.Ytnppmhijoaeibaa.Q
namespace Go.Proofs.Ytnppmhijoaeibaa.Q
open Go.RowKit Go.Proofs.YtnppmhijoaeibaaW.PrintWords Go.Proofs.YtnppmhijoaeibaaW.PrintLast Go.Proofs.YtnppmhijoaeibaaW.PrintMore
open Go.Proofs.Ytnppmhijoaeibaa.H
attribute [local go_sem] max2_int min2_int max_two min_two max_three min_three max_four min_four
set_option linter.unusedVariables false
set_option linter.unusedSimpArgs false
def laws_FnExactReadRequest.f (k : Nat) (a0 : ByteArray) : Option (Bool) := if (a0.size : Int) > 1048576 then (some true) else ((spec_ReadRequest.f k a0).bind fun bt101 => ((impl_ReadRequest.f k a0).bind fun bt112 => ((laws_eqRequest.f bt112.1 bt112.2.1 bt112.2.2.1 bt112.2.2.2.1 bt112.2.2.2.2.1 bt112.2.2.2.2.2.1 bt112.2.2.2.2.2.2.1 bt112.2.2.2.2.2.2.2.1 bt112.2.2.2.2.2.2.2.2.1 bt101.1 bt101.2.1 bt101.2.2.1 bt101.2.2.2.1 bt101.2.2.2.2.1 bt101.2.2.2.2.2.1 bt101.2.2.2.2.2.2.1 bt101.2.2.2.2.2.2.2.1 bt101.2.2.2.2.2.2.2.2.1).bind fun t123 => (if t123 = true then (if bt112.2.2.2.2.2.2.2.2.2 = bt101.2.2.2.2.2.2.2.2.2 then (some true) else (none)) else (none)))))
theorem laws_FnExactReadRequest.mono : ∀ a0 k, LeO (laws_FnExactReadRequest.f k a0) (laws_FnExactReadRequest.f (k + 1) a0) := by
  intro a0 k
  unfold laws_FnExactReadRequest.f
  repeat' first
      | (with_reducible exact impl_ReadRequest.mono _ _)
      | (with_reducible exact spec_ReadRequest.mono _ _)
      | (with_reducible exact LeO.refl _)
      | (with_reducible exact LeO.none _)
      | (with_reducible refine LeO.ite ?_ ?_)
      | (with_reducible refine LeO.bind ?_ (fun _ => ?_))
      | exact impl_ReadRequest.mono _ _
      | exact spec_ReadRequest.mono _ _
      | exact LeO.none _
      | refine LeO.ite ?_ ?_
      | refine LeO.bind ?_ (fun _ => ?_)
set_option maxHeartbeats 8000000 in
set_option maxRecDepth 100000 in
theorem laws_FnExactReadRequest.calls (k : Nat) (a0 : ByteArray) (r : Bool) (w : World) (h : laws_FnExactReadRequest.f k a0 = some r) :
    Calls Try.prog 12 #[.string a0] w fun e w' => e = .returned (.bool r) ∧ Below w.heap.size w w' := by
  have hu44 := Try.underlying44
  have HB := Aside0.mk (Below.refl w.heap.size w)
  have H : (if (a0.size : Int) > 1048576 then (some true) else ((spec_ReadRequest.f k a0).bind fun bt101 => ((impl_ReadRequest.f k a0).bind fun bt112 => ((laws_eqRequest.f bt112.1 bt112.2.1 bt112.2.2.1 bt112.2.2.2.1 bt112.2.2.2.2.1 bt112.2.2.2.2.2.1 bt112.2.2.2.2.2.2.1 bt112.2.2.2.2.2.2.2.1 bt112.2.2.2.2.2.2.2.2.1 bt101.1 bt101.2.1 bt101.2.2.1 bt101.2.2.2.1 bt101.2.2.2.2.1 bt101.2.2.2.2.2.1 bt101.2.2.2.2.2.2.1 bt101.2.2.2.2.2.2.2.1 bt101.2.2.2.2.2.2.2.2.1).bind fun t123 => (if t123 = true then (if bt112.2.2.2.2.2.2.2.2.2 = bt101.2.2.2.2.2.2.2.2.2 then (some true) else (none)) else (none)))))) = some r := h
  clear h
  by_cases c2 : (a0.size : Int) > 1048576
  · rw [if_pos c2] at H
    have c2b0 : decide (1048576 < (a0.size : Int)) = true := decide_eq_true c2
    have c2b1 : decide (1048576 < a0.size) = true := decide_eq_true (by omega)
    clear c2
    obtain rfl := Option.some.inj H
    go_enter Try.func12, Try.ntmps12
    go_wp2
    go_ret
    exact ⟨by first | rfl | (simp [errW_none, errW_some] <;> rfl) | (simp [*, errW_none, errW_some] <;> rfl), by repeat (first | (with_reducible first | exact HB.out | apply below_alloc | apply pw_below_drewN | apply below_drew1) | exact HB.out)⟩
  · rw [if_neg c2] at H
    have c2b0 : decide (1048576 < (a0.size : Int)) = false := decide_eq_false c2
    have c2b1 : decide (1048576 < a0.size) = false := decide_eq_false (by omega)
    clear c2
    replace H := Option.bind_eq_some_iff.mp H
    obtain ⟨⟨t101, t102, t103, t104, t105, t106, t107, t108, t109, t110⟩, A30, H⟩ := H
    replace H : ((impl_ReadRequest.f k a0).bind fun bt112 => ((laws_eqRequest.f bt112.1 bt112.2.1 bt112.2.2.1 bt112.2.2.2.1 bt112.2.2.2.2.1 bt112.2.2.2.2.2.1 bt112.2.2.2.2.2.2.1 bt112.2.2.2.2.2.2.2.1 bt112.2.2.2.2.2.2.2.2.1 t101 t102 t103 t104 t105 t106 t107 t108 t109).bind fun t123 => (if t123 = true then (if bt112.2.2.2.2.2.2.2.2.2 = t110 then (some true) else (none)) else (none)))) = some r := H
    have A3 := Aside0.mk A30
    clear A30
    replace H := Option.bind_eq_some_iff.mp H
    obtain ⟨⟨t112, t113, t114, t115, t116, t117, t118, t119, t120, t121⟩, A40, H⟩ := H
    replace H : ((laws_eqRequest.f t112 t113 t114 t115 t116 t117 t118 t119 t120 t101 t102 t103 t104 t105 t106 t107 t108 t109).bind fun t123 => (if t123 = true then (if t121 = t110 then (some true) else (none)) else (none))) = some r := H
    have A4 := Aside0.mk A40
    clear A40
    replace H := Option.bind_eq_some_iff.mp H
    obtain ⟨t123, A50, H⟩ := H
    replace H : (if t123 = true then (if t121 = t110 then (some true) else (none)) else (none)) = some r := H
    have A5 := Aside0.mk A50
    clear A50
    by_cases c6 : t123 = true
    · subst c6
      have H1 : (if t121 = t110 then (some true) else (none)) = some r := by rw [if_pos rfl] at H; exact H
      clear H
      have H := H1
      clear H1
      by_cases c7 : t121 = t110
      · rw [if_pos c7] at H
        have c7b0 : (t121 == t110) = true := beq_iff_eq.mpr c7
        have c7b1 : (t121 != t110) = false := bne_eq_false_iff_eq.mpr c7
        clear c7
        obtain rfl := Option.some.inj H
        go_enter Try.func12, Try.ntmps12
        go_wp2_with (first | ((with_reducible refine gate_callee (f := 40) rfl ?_); refine goesL_ (some 12) rfl rfl Try.func40 (by kernel_rfl) rfl #[.string a0] rfl (by (try simp only [List.map_toArray, List.map_cons, List.map_nil]); first | done | rfl | (simp only [List.length_drop, List.length_take]; rfl)) ?_; (with_reducible refine (spec_ReadRequest.calls k a0 t101 t102 t103 t104 t105 t106 t107 t108 t109 t110 _ A3.out).mono ?_); rintro e w8 ⟨rfl, hb⟩; refine ⟨_, rfl, ?_⟩; have n0_ := Aside0.mk (below_step (by repeat (first | (with_reducible first | exact HB.out | apply below_alloc | apply pw_below_drewN | apply below_drew1) | exact HB.out)) hb); clear HB; have HB := n0_; clear n0_; (try clear hb); (try clear hb2); (try clear hk); (try clear hi)) | ((with_reducible refine gate_dst (N := 3) rfl ?_); refine box_event ?hg (N := 3) ?hd (cs := #[.int .i64 0, .int .i64 0, .int .i64 0, .int .i64 0, .int .i64 0, .int .i64 0, .int .i64 0, .int .i64 0, .string (⟨#[]⟩ : ByteArray)]) (t := 44) ?hr ?_; (case hd => rfl); (case hg => rfl); (case hr => first | (go_simp; done) | (go_simp; rfl)); intro gb111 hg w9 hbox hb; have n0_ := Aside0.mk (below_step (by repeat (first | (with_reducible first | exact HB.out | apply below_alloc | apply pw_below_drewN | apply below_drew1) | exact HB.out)) hb); have n1_ := Aside0.mk (hbox); have n2_ := Aside0.mk ((by rw [hg]; exact (below_size (by repeat (first | (with_reducible first | exact HB.out | apply below_alloc | apply pw_below_drewN | apply below_drew1) | exact HB.out))) : w.heap.size ≤ gb111)); have n3_ := Aside0.mk ((by rw [hg]; exact (below_size (by repeat (first | (with_reducible first | exact HB.out | apply below_alloc | apply pw_below_drewN | apply below_drew1) | exact HB.out))) : w.heap.size ≤ gb111)); clear HB; have HB := n0_; have BK111 := n1_; have GW111 := n2_; have GE111 := n3_; clear n0_ n1_ n2_ n3_; clear hb hbox hg; have hcz10_0 : w9.cell? ⟨gb111, 0, none⟩ = some (.int .i64 0) := (blk_cell BK111.out 0).trans rfl; have hcz10_1 : w9.cell? ⟨gb111, 1, none⟩ = some (.int .i64 0) := (blk_cell BK111.out 1).trans rfl; have hcz10_2 : w9.cell? ⟨gb111, 2, none⟩ = some (.int .i64 0) := (blk_cell BK111.out 2).trans rfl; have hcz10_3 : w9.cell? ⟨gb111, 3, none⟩ = some (.int .i64 0) := (blk_cell BK111.out 3).trans rfl; have hcz10_4 : w9.cell? ⟨gb111, 4, none⟩ = some (.int .i64 0) := (blk_cell BK111.out 4).trans rfl; have hcz10_5 : w9.cell? ⟨gb111, 5, none⟩ = some (.int .i64 0) := (blk_cell BK111.out 5).trans rfl; have hcz10_6 : w9.cell? ⟨gb111, 6, none⟩ = some (.int .i64 0) := (blk_cell BK111.out 6).trans rfl; have hcz10_7 : w9.cell? ⟨gb111, 7, none⟩ = some (.int .i64 0) := (blk_cell BK111.out 7).trans rfl; have hcz10_8 : w9.cell? ⟨gb111, 8, none⟩ = some (.string (⟨#[]⟩ : ByteArray)) := (blk_cell BK111.out 8).trans rfl; have hfz10_0 := blk_frozen BK111.out 0; have hfz10_1 := blk_frozen BK111.out 1; have hfz10_2 := blk_frozen BK111.out 2; have hfz10_3 := blk_frozen BK111.out 3; have hfz10_4 := blk_frozen BK111.out 4; have hfz10_5 := blk_frozen BK111.out 5; have hfz10_6 := blk_frozen BK111.out 6; have hfz10_7 := blk_frozen BK111.out 7; have hfz10_8 := blk_frozen BK111.out 8) | ((with_reducible refine gate_callee (f := 41) rfl ?_); refine goesL_ (some 17) rfl rfl Try.func41 (by kernel_rfl) rfl #[.string a0] rfl (by (try simp only [List.map_toArray, List.map_cons, List.map_nil]); first | done | rfl | (simp only [List.length_drop, List.length_take]; rfl)) ?_; (with_reducible refine (impl_ReadRequest.calls k a0 t112 t113 t114 t115 t116 t117 t118 t119 t120 t121 _ A4.out).mono ?_); rintro e w11 ⟨rfl, hb⟩; refine ⟨_, rfl, ?_⟩; have n0_ := Aside0.mk (blk_below (g := gb111) (o := .cells #[.int .i64 t101, .int .i64 t102, .int .i64 t103, .int .i64 t104, .int .i64 t105, .int .i64 t106, .int .i64 t107, .int .i64 t108, .string t109] 44 (0, 0)) (by (with_reducible repeat (first | refine blk_drewN ?_ _ | refine blk_drew ?_ | refine blk_alloc ?_ _)); refine blk_put (cs := #[.int .i64 t101, .int .i64 t102, .int .i64 t103, .int .i64 t104, .int .i64 t105, .int .i64 t106, .int .i64 t107, .int .i64 t108, .string (⟨#[]⟩ : ByteArray)]) ?_ 8 _ rfl; (with_reducible repeat (first | refine blk_drewN ?_ _ | refine blk_drew ?_ | refine blk_alloc ?_ _)); refine blk_put (cs := #[.int .i64 t101, .int .i64 t102, .int .i64 t103, .int .i64 t104, .int .i64 t105, .int .i64 t106, .int .i64 t107, .int .i64 0, .string (⟨#[]⟩ : ByteArray)]) ?_ 7 _ rfl; (with_reducible repeat (first | refine blk_drewN ?_ _ | refine blk_drew ?_ | refine blk_alloc ?_ _)); refine blk_put (cs := #[.int .i64 t101, .int .i64 t102, .int .i64 t103, .int .i64 t104, .int .i64 t105, .int .i64 t106, .int .i64 0, .int .i64 0, .string (⟨#[]⟩ : ByteArray)]) ?_ 6 _ rfl; (with_reducible repeat (first | refine blk_drewN ?_ _ | refine blk_drew ?_ | refine blk_alloc ?_ _)); refine blk_put (cs := #[.int .i64 t101, .int .i64 t102, .int .i64 t103, .int .i64 t104, .int .i64 t105, .int .i64 0, .int .i64 0, .int .i64 0, .string (⟨#[]⟩ : ByteArray)]) ?_ 5 _ rfl; (with_reducible repeat (first | refine blk_drewN ?_ _ | refine blk_drew ?_ | refine blk_alloc ?_ _)); refine blk_put (cs := #[.int .i64 t101, .int .i64 t102, .int .i64 t103, .int .i64 t104, .int .i64 0, .int .i64 0, .int .i64 0, .int .i64 0, .string (⟨#[]⟩ : ByteArray)]) ?_ 4 _ rfl; (with_reducible repeat (first | refine blk_drewN ?_ _ | refine blk_drew ?_ | refine blk_alloc ?_ _)); refine blk_put (cs := #[.int .i64 t101, .int .i64 t102, .int .i64 t103, .int .i64 0, .int .i64 0, .int .i64 0, .int .i64 0, .int .i64 0, .string (⟨#[]⟩ : ByteArray)]) ?_ 3 _ rfl; (with_reducible repeat (first | refine blk_drewN ?_ _ | refine blk_drew ?_ | refine blk_alloc ?_ _)); refine blk_put (cs := #[.int .i64 t101, .int .i64 t102, .int .i64 0, .int .i64 0, .int .i64 0, .int .i64 0, .int .i64 0, .int .i64 0, .string (⟨#[]⟩ : ByteArray)]) ?_ 2 _ rfl; (with_reducible repeat (first | refine blk_drewN ?_ _ | refine blk_drew ?_ | refine blk_alloc ?_ _)); refine blk_put (cs := #[.int .i64 t101, .int .i64 0, .int .i64 0, .int .i64 0, .int .i64 0, .int .i64 0, .int .i64 0, .int .i64 0, .string (⟨#[]⟩ : ByteArray)]) ?_ 1 _ rfl; (with_reducible repeat (first | refine blk_drewN ?_ _ | refine blk_drew ?_ | refine blk_alloc ?_ _)); refine blk_put (cs := #[.int .i64 0, .int .i64 0, .int .i64 0, .int .i64 0, .int .i64 0, .int .i64 0, .int .i64 0, .int .i64 0, .string (⟨#[]⟩ : ByteArray)]) ?_ 0 _ rfl; (with_reducible repeat (first | refine blk_drewN ?_ _ | refine blk_drew ?_ | refine blk_alloc ?_ _)); exact BK111.out) hb); have n1_ := Aside0.mk (below_step (by repeat (first | (with_reducible first | exact HB.out | apply below_alloc | apply pw_below_drewN | apply below_drew1 | refine below_set ?_ GE111.out) | exact HB.out)) hb); clear BK111; clear HB; have BK111 := n0_; have HB := n1_; clear n0_ n1_; (try clear hb); (try clear hb2); (try clear hk); (try clear hi)) | ((with_reducible refine gate_dst (N := 5) rfl ?_); refine box_event ?hg (N := 5) ?hd (cs := #[.int .i64 0, .int .i64 0, .int .i64 0, .int .i64 0, .int .i64 0, .int .i64 0, .int .i64 0, .int .i64 0, .string (⟨#[]⟩ : ByteArray)]) (t := 44) ?hr ?_; (case hd => rfl); (case hg => rfl); (case hr => first | (go_simp; done) | (go_simp; rfl)); intro gb122 hg w12 hbox hb; have n0_ := Aside0.mk (blk_below (g := gb111) (o := .cells #[.int .i64 t101, .int .i64 t102, .int .i64 t103, .int .i64 t104, .int .i64 t105, .int .i64 t106, .int .i64 t107, .int .i64 t108, .string t109] 44 (0, 0)) (by (with_reducible repeat (first | refine blk_drewN ?_ _ | refine blk_drew ?_ | refine blk_alloc ?_ _)); exact BK111.out) hb); have n1_ := Aside0.mk (below_step (by repeat (first | (with_reducible first | exact HB.out | apply below_alloc | apply pw_below_drewN | apply below_drew1 | refine below_set ?_ GE111.out) | exact HB.out)) hb); have n2_ := Aside0.mk (hbox); have n3_ := Aside0.mk ((by rw [hg]; exact (below_size (by repeat (first | (with_reducible first | exact HB.out | apply below_alloc | apply pw_below_drewN | apply below_drew1 | refine below_set ?_ GE111.out) | exact HB.out))) : w.heap.size ≤ gb122)); have n4_ := Aside0.mk ((by rw [hg]; exact (below_size (by repeat (first | (with_reducible first | exact HB.out | apply below_alloc | apply pw_below_drewN | apply below_drew1 | refine below_set ?_ GE111.out) | exact HB.out))) : w.heap.size ≤ gb122)); have n5_ := Aside0.mk ((by rw [hg]; exact Nat.ne_of_lt (blk_lt (g := gb111) (o := .cells #[.int .i64 t101, .int .i64 t102, .int .i64 t103, .int .i64 t104, .int .i64 t105, .int .i64 t106, .int .i64 t107, .int .i64 t108, .string t109] 44 (0, 0)) (by (with_reducible repeat (first | refine blk_drewN ?_ _ | refine blk_drew ?_ | refine blk_alloc ?_ _)); exact BK111.out)) : gb111 ≠ gb122)); have n6_ := Aside0.mk ((by rw [hg]; exact Nat.ne_of_gt (blk_lt (g := gb111) (o := .cells #[.int .i64 t101, .int .i64 t102, .int .i64 t103, .int .i64 t104, .int .i64 t105, .int .i64 t106, .int .i64 t107, .int .i64 t108, .string t109] 44 (0, 0)) (by (with_reducible repeat (first | refine blk_drewN ?_ _ | refine blk_drew ?_ | refine blk_alloc ?_ _)); exact BK111.out)) : gb122 ≠ gb111)); clear BK111; clear HB; have BK111 := n0_; have HB := n1_; have BK122 := n2_; have GW122 := n3_; have GE122 := n4_; have NB111_122 := n5_; have NB122_111 := n6_; clear n0_ n1_ n2_ n3_ n4_ n5_ n6_; clear hb hbox hg; have hnb13 := NB122_111.out; have hnc13 := NB111_122.out; have hcz14_0 : w12.cell? ⟨gb122, 0, none⟩ = some (.int .i64 0) := (blk_cell BK122.out 0).trans rfl; have hcz14_1 : w12.cell? ⟨gb122, 1, none⟩ = some (.int .i64 0) := (blk_cell BK122.out 1).trans rfl; have hcz14_2 : w12.cell? ⟨gb122, 2, none⟩ = some (.int .i64 0) := (blk_cell BK122.out 2).trans rfl; have hcz14_3 : w12.cell? ⟨gb122, 3, none⟩ = some (.int .i64 0) := (blk_cell BK122.out 3).trans rfl; have hcz14_4 : w12.cell? ⟨gb122, 4, none⟩ = some (.int .i64 0) := (blk_cell BK122.out 4).trans rfl; have hcz14_5 : w12.cell? ⟨gb122, 5, none⟩ = some (.int .i64 0) := (blk_cell BK122.out 5).trans rfl; have hcz14_6 : w12.cell? ⟨gb122, 6, none⟩ = some (.int .i64 0) := (blk_cell BK122.out 6).trans rfl; have hcz14_7 : w12.cell? ⟨gb122, 7, none⟩ = some (.int .i64 0) := (blk_cell BK122.out 7).trans rfl; have hcz14_8 : w12.cell? ⟨gb122, 8, none⟩ = some (.string (⟨#[]⟩ : ByteArray)) := (blk_cell BK122.out 8).trans rfl; have hfz14_0 := blk_frozen BK122.out 0; have hfz14_1 := blk_frozen BK122.out 1; have hfz14_2 := blk_frozen BK122.out 2; have hfz14_3 := blk_frozen BK122.out 3; have hfz14_4 := blk_frozen BK122.out 4; have hfz14_5 := blk_frozen BK122.out 5; have hfz14_6 := blk_frozen BK122.out 6; have hfz14_7 := blk_frozen BK122.out 7; have hfz14_8 := blk_frozen BK122.out 8; have hcz15_0 : w12.cell? ⟨gb111, 0, none⟩ = some (.int .i64 t101) := (blk_cell BK111.out 0).trans rfl; have hcz15_1 : w12.cell? ⟨gb111, 1, none⟩ = some (.int .i64 t102) := (blk_cell BK111.out 1).trans rfl; have hcz15_2 : w12.cell? ⟨gb111, 2, none⟩ = some (.int .i64 t103) := (blk_cell BK111.out 2).trans rfl; have hcz15_3 : w12.cell? ⟨gb111, 3, none⟩ = some (.int .i64 t104) := (blk_cell BK111.out 3).trans rfl; have hcz15_4 : w12.cell? ⟨gb111, 4, none⟩ = some (.int .i64 t105) := (blk_cell BK111.out 4).trans rfl; have hcz15_5 : w12.cell? ⟨gb111, 5, none⟩ = some (.int .i64 t106) := (blk_cell BK111.out 5).trans rfl; have hcz15_6 : w12.cell? ⟨gb111, 6, none⟩ = some (.int .i64 t107) := (blk_cell BK111.out 6).trans rfl; have hcz15_7 : w12.cell? ⟨gb111, 7, none⟩ = some (.int .i64 t108) := (blk_cell BK111.out 7).trans rfl; have hcz15_8 : w12.cell? ⟨gb111, 8, none⟩ = some (.string t109) := (blk_cell BK111.out 8).trans rfl; have hfz15_0 := blk_frozen BK111.out 0; have hfz15_1 := blk_frozen BK111.out 1; have hfz15_2 := blk_frozen BK111.out 2; have hfz15_3 := blk_frozen BK111.out 3; have hfz15_4 := blk_frozen BK111.out 4; have hfz15_5 := blk_frozen BK111.out 5; have hfz15_6 := blk_frozen BK111.out 6; have hfz15_7 := blk_frozen BK111.out 7; have hfz15_8 := blk_frozen BK111.out 8) | ((with_reducible refine gate_callee (f := 42) rfl ?_); refine goesL_ (some 22) rfl rfl Try.func42 (by kernel_rfl) rfl #[.agg #[.int .i64 t112, .int .i64 t113, .int .i64 t114, .int .i64 t115, .int .i64 t116, .int .i64 t117, .int .i64 t118, .int .i64 t119, .string t120], .agg #[.int .i64 t101, .int .i64 t102, .int .i64 t103, .int .i64 t104, .int .i64 t105, .int .i64 t106, .int .i64 t107, .int .i64 t108, .string t109]] rfl (by (try simp only [List.map_toArray, List.map_cons, List.map_nil]); first | done | rfl | (simp only [List.length_drop, List.length_take]; rfl)) ?_; (with_reducible refine (laws_eqRequest.calls t112 t113 t114 t115 t116 t117 t118 t119 t120 t101 t102 t103 t104 t105 t106 t107 t108 t109 true _ A5.out).mono ?_); rintro e w16 ⟨rfl, hb⟩; refine ⟨_, rfl, ?_⟩; have n0_ := Aside0.mk (blk_below (g := gb111) (o := .cells #[.int .i64 t101, .int .i64 t102, .int .i64 t103, .int .i64 t104, .int .i64 t105, .int .i64 t106, .int .i64 t107, .int .i64 t108, .string t109] 44 (0, 0)) (by (with_reducible repeat (first | refine blk_drewN ?_ _ | refine blk_drew ?_ | refine blk_alloc ?_ _)); refine blk_far ?_ NB111_122.out _; (with_reducible repeat (first | refine blk_drewN ?_ _ | refine blk_drew ?_ | refine blk_alloc ?_ _)); refine blk_far ?_ NB111_122.out _; (with_reducible repeat (first | refine blk_drewN ?_ _ | refine blk_drew ?_ | refine blk_alloc ?_ _)); refine blk_far ?_ NB111_122.out _; (with_reducible repeat (first | refine blk_drewN ?_ _ | refine blk_drew ?_ | refine blk_alloc ?_ _)); refine blk_far ?_ NB111_122.out _; (with_reducible repeat (first | refine blk_drewN ?_ _ | refine blk_drew ?_ | refine blk_alloc ?_ _)); refine blk_far ?_ NB111_122.out _; (with_reducible repeat (first | refine blk_drewN ?_ _ | refine blk_drew ?_ | refine blk_alloc ?_ _)); refine blk_far ?_ NB111_122.out _; (with_reducible repeat (first | refine blk_drewN ?_ _ | refine blk_drew ?_ | refine blk_alloc ?_ _)); refine blk_far ?_ NB111_122.out _; (with_reducible repeat (first | refine blk_drewN ?_ _ | refine blk_drew ?_ | refine blk_alloc ?_ _)); refine blk_far ?_ NB111_122.out _; (with_reducible repeat (first | refine blk_drewN ?_ _ | refine blk_drew ?_ | refine blk_alloc ?_ _)); refine blk_far ?_ NB111_122.out _; (with_reducible repeat (first | refine blk_drewN ?_ _ | refine blk_drew ?_ | refine blk_alloc ?_ _)); exact BK111.out) hb); have n1_ := Aside0.mk (blk_below (g := gb122) (o := .cells #[.int .i64 t112, .int .i64 t113, .int .i64 t114, .int .i64 t115, .int .i64 t116, .int .i64 t117, .int .i64 t118, .int .i64 t119, .string t120] 44 (0, 0)) (by (with_reducible repeat (first | refine blk_drewN ?_ _ | refine blk_drew ?_ | refine blk_alloc ?_ _)); refine blk_put (cs := #[.int .i64 t112, .int .i64 t113, .int .i64 t114, .int .i64 t115, .int .i64 t116, .int .i64 t117, .int .i64 t118, .int .i64 t119, .string (⟨#[]⟩ : ByteArray)]) ?_ 8 _ rfl; (with_reducible repeat (first | refine blk_drewN ?_ _ | refine blk_drew ?_ | refine blk_alloc ?_ _)); refine blk_put (cs := #[.int .i64 t112, .int .i64 t113, .int .i64 t114, .int .i64 t115, .int .i64 t116, .int .i64 t117, .int .i64 t118, .int .i64 0, .string (⟨#[]⟩ : ByteArray)]) ?_ 7 _ rfl; (with_reducible repeat (first | refine blk_drewN ?_ _ | refine blk_drew ?_ | refine blk_alloc ?_ _)); refine blk_put (cs := #[.int .i64 t112, .int .i64 t113, .int .i64 t114, .int .i64 t115, .int .i64 t116, .int .i64 t117, .int .i64 0, .int .i64 0, .string (⟨#[]⟩ : ByteArray)]) ?_ 6 _ rfl; (with_reducible repeat (first | refine blk_drewN ?_ _ | refine blk_drew ?_ | refine blk_alloc ?_ _)); refine blk_put (cs := #[.int .i64 t112, .int .i64 t113, .int .i64 t114, .int .i64 t115, .int .i64 t116, .int .i64 0, .int .i64 0, .int .i64 0, .string (⟨#[]⟩ : ByteArray)]) ?_ 5 _ rfl; (with_reducible repeat (first | refine blk_drewN ?_ _ | refine blk_drew ?_ | refine blk_alloc ?_ _)); refine blk_put (cs := #[.int .i64 t112, .int .i64 t113, .int .i64 t114, .int .i64 t115, .int .i64 0, .int .i64 0, .int .i64 0, .int .i64 0, .string (⟨#[]⟩ : ByteArray)]) ?_ 4 _ rfl; (with_reducible repeat (first | refine blk_drewN ?_ _ | refine blk_drew ?_ | refine blk_alloc ?_ _)); refine blk_put (cs := #[.int .i64 t112, .int .i64 t113, .int .i64 t114, .int .i64 0, .int .i64 0, .int .i64 0, .int .i64 0, .int .i64 0, .string (⟨#[]⟩ : ByteArray)]) ?_ 3 _ rfl; (with_reducible repeat (first | refine blk_drewN ?_ _ | refine blk_drew ?_ | refine blk_alloc ?_ _)); refine blk_put (cs := #[.int .i64 t112, .int .i64 t113, .int .i64 0, .int .i64 0, .int .i64 0, .int .i64 0, .int .i64 0, .int .i64 0, .string (⟨#[]⟩ : ByteArray)]) ?_ 2 _ rfl; (with_reducible repeat (first | refine blk_drewN ?_ _ | refine blk_drew ?_ | refine blk_alloc ?_ _)); refine blk_put (cs := #[.int .i64 t112, .int .i64 0, .int .i64 0, .int .i64 0, .int .i64 0, .int .i64 0, .int .i64 0, .int .i64 0, .string (⟨#[]⟩ : ByteArray)]) ?_ 1 _ rfl; (with_reducible repeat (first | refine blk_drewN ?_ _ | refine blk_drew ?_ | refine blk_alloc ?_ _)); refine blk_put (cs := #[.int .i64 0, .int .i64 0, .int .i64 0, .int .i64 0, .int .i64 0, .int .i64 0, .int .i64 0, .int .i64 0, .string (⟨#[]⟩ : ByteArray)]) ?_ 0 _ rfl; (with_reducible repeat (first | refine blk_drewN ?_ _ | refine blk_drew ?_ | refine blk_alloc ?_ _)); exact BK122.out) hb); have n2_ := Aside0.mk (below_step (by repeat (first | (with_reducible first | exact HB.out | apply below_alloc | apply pw_below_drewN | apply below_drew1 | refine below_set ?_ GE111.out | refine below_set ?_ GE122.out) | exact HB.out)) hb); clear BK111; clear BK122; clear HB; have BK111 := n0_; have BK122 := n1_; have HB := n2_; clear n0_ n1_ n2_; (try clear hb); (try clear hb2); (try clear hk); (try clear hi)))
        go_ret
        exact ⟨by first | rfl | (simp [errW_none, errW_some] <;> rfl) | (simp [*, errW_none, errW_some] <;> rfl), by repeat (first | (with_reducible first | exact HB.out | apply below_alloc | apply pw_below_drewN | apply below_drew1 | refine below_set ?_ GE111.out | refine below_set ?_ GE122.out) | exact HB.out)⟩
      · rw [if_neg c7] at H
        exact absurd H (by simp)
    · replace c6 := Bool.eq_false_iff.mpr c6
      subst c6
      have H1 : (none) = some r := by rw [if_neg (show ¬ (false = true) by decide)] at H; exact H
      clear H
      have H := H1
      clear H1
      exact absurd H (by simp)
def laws_FnExactReadRequest.Pure : Prop := ∀ (a0 : ByteArray), a0.size ≤ 140737488351232 → ∃ k, laws_FnExactReadRequest.f k a0 = some true
theorem laws_FnExactReadRequest.walk (P : laws_FnExactReadRequest.Pure) (a0 : ByteArray) (w : World) (w0 : a0.size ≤ 140737488351232) :
    Calls Try.prog 12 #[.string a0] w fun e w' => e = .returned (.bool true) ∧ Below w.heap.size w w' := by
  obtain ⟨k, h⟩ := P a0 w0
  refine (laws_FnExactReadRequest.calls k a0 true w h).mono ?_
  rintro e w' ⟨rfl, hd⟩
  exact ⟨rfl, hd⟩
end Go.Proofs.Ytnppmhijoaeibaa.Q
set_option linter.unusedVariables false
set_option linter.unusedSimpArgs false
namespace Go.Proofs.Ytnppmhijoaeibaa.H
open Go.RowKit Go.Proofs.YtnppmhijoaeibaaW.PrintWords Go.Proofs.Ytnppmhijoaeibaa.Q
theorem tmodE {a b : Int} (h : 0 ≤ a) : Int.tmod a b = a % b := Int.tmod_eq_emod_of_nonneg h
theorem tdivE {a b : Int} (h : 0 ≤ a) : Int.tdiv a b = a / b := Int.tdiv_eq_ediv_of_nonneg h
theorem Ev.val {α : Type} {g : Nat → Option α} {r : α} (K : Nat) (h : ∀ k, g (k + K) = some r) : Ev g r := ⟨K, fun k hk => by have := h (k - K); rwa [Nat.sub_add_cancel hk] at this⟩
theorem Ev.const {α : Type} {x : Option α} {r : α} (h : x = some r) : Ev (fun _ => x) r := ⟨0, fun _ _ => h⟩
def putS (n : Int) : ByteArray := strOfNums (putL n)
theorem strOfNums_size (xs : List Int) : (strOfNums xs).size = xs.length := by simp [strOfNums, ByteArray.size]
theorem putS_size (n : Int) : (putS n).size = (putL n).length := strOfNums_size _
theorem putS_len (n : Int) : (putS n).size ≤ 3 := by rw [putS_size]; exact putL_len n
theorem number_eq {n : Int} (h : n < 2097152) : impl_number.f n = some (putS n) := by unfold impl_number.f; rw [if_pos h]; rfl
def takeP (t : ByteArray) (p : Int) : Int × Int × Int :=
  if (t.size : Int) ≤ p then (0, 0, 8) else if bt t p < 128 then (bt t p, p + 1, 0) else
  if (t.size : Int) ≤ p + 1 then (0, 0, 8) else if bt t (p + 1) < 128 then (if bt t (p + 1) = 0 then (0, 0, 3) else (bt t p - 128 + bt t (p + 1) * 128, p + 2, 0)) else
  if (t.size : Int) ≤ p + 2 then (0, 0, 8) else if 128 ≤ bt t (p + 2) then (0, 0, 4) else if bt t (p + 2) = 0 then (0, 0, 3) else
  if 999999 < bt t p - 128 + (bt t (p + 1) - 128) * 128 + bt t (p + 2) * 16384 then (0, 0, 4) else (bt t p - 128 + (bt t (p + 1) - 128) * 128 + bt t (p + 2) * 16384, p + 3, 0)
theorem ite_both {α : Type} {P : α → Prop} {c : Prop} [Decidable c] {a b : α} (h1 : c → P a) (h2 : ¬c → P b) : P (if c then a else b) := by
  split
  · exact h1 ‹_›
  · exact h2 ‹_›
def TakeOk (t : ByteArray) (p : Int) (r : Int × Int × Int) : Prop := r.2.2 = 0 → 0 ≤ r.1 ∧ r.1 ≤ 999999 ∧ r.2.1 = p + (putL r.1).length ∧ r.2.1 ≤ t.size
theorem takeP_ok {t : ByteArray} {p : Int} (h0 : 0 ≤ p) (h1 : p ≤ t.size) : TakeOk t p (takeP t p) := by
  have r0 := bt_range t p
  have r1 := bt_range t (p + 1)
  have r2 := bt_range t (p + 2)
  unfold takeP
  refine ite_both (fun _ h => by simp at h) (fun _ => ?_)
  refine ite_both (fun _ _ => ⟨by omega, by show bt t p ≤ _; omega, ?_, by show p + 1 ≤ _; omega⟩) (fun _ => ?_)
  · unfold putL; rw [if_neg (by show ¬ 16383 < bt t p; omega), if_neg (by show ¬ 127 < bt t p; omega)]; rfl
  refine ite_both (fun _ h => by simp at h) (fun _ => ?_)
  refine ite_both (fun _ => ite_both (fun _ h => by simp at h) (fun _ _ => ⟨?_, ?_, ?_, by show p + 2 ≤ _; omega⟩)) (fun _ => ?_)
  · show 0 ≤ bt t p - 128 + bt t (p + 1) * 128; omega
  · show bt t p - 128 + bt t (p + 1) * 128 ≤ _; omega
  · show p + 2 = p + ((putL (bt t p - 128 + bt t (p + 1) * 128)).length : Int)
    unfold putL; rw [if_neg (by omega), if_pos (by omega)]; rfl
  refine ite_both (fun _ h => by simp at h) (fun _ => ?_)
  refine ite_both (fun _ h => by simp at h) (fun _ => ?_)
  refine ite_both (fun _ h => by simp at h) (fun _ => ?_)
  refine ite_both (fun _ h => by simp at h) (fun _ _ => ⟨?_, ?_, ?_, by show p + 3 ≤ _; omega⟩)
  · show 0 ≤ bt t p - 128 + (bt t (p + 1) - 128) * 128 + bt t (p + 2) * 16384; omega
  · show bt t p - 128 + (bt t (p + 1) - 128) * 128 + bt t (p + 2) * 16384 ≤ _; omega
  · show p + 3 = p + ((putL (bt t p - 128 + (bt t (p + 1) - 128) * 128 + bt t (p + 2) * 16384)).length : Int)
    unfold putL; rw [if_pos (by omega)]; rfl
theorem take_round (k : Nat) (t : ByteArray) (p n s i : Int) (hp : 0 ≤ p) (hi : p ≤ i) (hi' : i < t.size) (h2 : t.size ≤ 1048576) (hn : 0 ≤ n) (hn' : n ≤ 999999) (hs : s = 1 ∨ s = 128 ∨ s = 16384) :
    spec_l01Take.l0 (k + 2) t p n s i = if bt t i < 128 then (if bt t i = 0 ∧ p < i then some (0, 0, 3) else if 999999 < n + bt t i * s then some (0, 0, 4) else some (n + bt t i * s, i + 1, 0))
      else if i = p + 2 then some (0, 0, 4) else spec_l01Take.l0 (k + 1) t p (n + (bt t i - 128) * s) (s * 128) (i + 1) := by
  have r0 := bt_range t i
  have e0 : wrap64 (bt t i) = bt t i := wid (by omega) (by omega)
  have e1 : Int.tmod (bt t i) 128 = bt t i % 128 := tmodE (by omega)
  have e2 : wrap64 (i + 1) = i + 1 := wid (by omega) (by omega)
  have e3 : wrap64 (p + 2) = p + 2 := wid (by omega) (by omega)
  have e4 : wrap64 (wrap64 (n + wrap64 (bt t i % 128 * s))) = n + bt t i % 128 * s := by
    rcases hs with rfl | rfl | rfl
    · rw [wid (x := bt t i % 128 * 1) (by omega) (by omega), wid (x := n + bt t i % 128 * 1) (by omega) (by omega), wid (by omega) (by omega)]
    · rw [wid (x := bt t i % 128 * 128) (by omega) (by omega), wid (x := n + bt t i % 128 * 128) (by omega) (by omega), wid (by omega) (by omega)]
    · rw [wid (x := bt t i % 128 * 16384) (by omega) (by omega), wid (x := n + bt t i % 128 * 16384) (by omega) (by omega), wid (by omega) (by omega)]
  have e5 : wrap64 (n + wrap64 (bt t i % 128 * s)) = n + bt t i % 128 * s := by
    rcases hs with rfl | rfl | rfl
    · rw [wid (x := bt t i % 128 * 1) (by omega) (by omega), wid (x := n + bt t i % 128 * 1) (by omega) (by omega)]
    · rw [wid (x := bt t i % 128 * 128) (by omega) (by omega), wid (x := n + bt t i % 128 * 128) (by omega) (by omega)]
    · rw [wid (x := bt t i % 128 * 16384) (by omega) (by omega), wid (x := n + bt t i % 128 * 16384) (by omega) (by omega)]
  have e6 : wrap64 (s * 128) = s * 128 := by rcases hs with rfl | rfl | rfl <;> exact wid (by omega) (by omega)
  rw [spec_l01Take.l0, if_pos hi', if_pos (by omega)]
  simp only [e0, e1, e2, e3, e5, e6]
  by_cases b : bt t i < 128
  · have e7 : bt t i % 128 = bt t i := by omega
    rw [if_pos b, if_pos b, e7]
    by_cases z : bt t i = 0
    · rw [if_pos z, spec_l01Take.j1]
      by_cases q : p < i
      · rw [if_pos (by simpa using q), if_pos ⟨z, q⟩]
      · have q2 : ¬ (bt t i = 0 ∧ p < i) := fun h => q h.2
        rw [if_neg (by simpa using q), if_neg q2, e2]
    · have q2 : ¬ (bt t i = 0 ∧ p < i) := fun h => z h.1
      rw [if_neg z, spec_l01Take.j1, if_neg (by decide), if_neg q2, e2]
  · have e7 : bt t i % 128 = bt t i - 128 := by omega
    rw [if_neg b, if_neg b, e7]
theorem take_end (k : Nat) (t : ByteArray) (p n s i : Int) (hi' : (t.size : Int) ≤ i) : spec_l01Take.l0 (k + 1) t p n s i = some (0, 0, 8) := by rw [spec_l01Take.l0, if_neg (by omega)]
theorem l01Take_eq {t : ByteArray} {p : Int} (h0 : 0 ≤ p) (h1 : p ≤ t.size) (h2 : t.size ≤ 1048576) : Ev (fun k => spec_l01Take.f k t p) (takeP t p) := by
  have r0 := bt_range t p
  have r1 := bt_range t (p + 1)
  have r2 := bt_range t (p + 2)
  refine Ev.val 5 fun k => ?_
  unfold spec_l01Take.f takeP
  by_cases a0 : (t.size : Int) ≤ p
  · rw [if_pos a0, take_end _ _ _ _ _ _ a0]
  rw [if_neg a0, take_round _ _ _ _ _ _ h0 (by omega) (by omega) h2 (by omega) (by omega) (by simp)]
  by_cases b0 : bt t p < 128
  · rw [if_pos b0, if_pos b0, if_neg (by omega), if_neg (by omega)]; congr 2; omega
  rw [if_neg b0, if_neg b0, if_neg (by omega)]
  by_cases a1 : (t.size : Int) ≤ p + 1
  · rw [if_pos a1, take_end _ _ _ _ _ _ a1]
  rw [if_neg a1, take_round _ _ _ _ _ _ h0 (by omega) (by omega) h2 (by omega) (by omega) (by simp)]
  by_cases b1 : bt t (p + 1) < 128
  · rw [if_pos b1, if_pos b1]
    by_cases z : bt t (p + 1) = 0
    · rw [if_pos z, if_pos ⟨z, by omega⟩]
    · rw [if_neg z, if_neg (fun h => z h.1), if_neg (by omega)]; congr 2
      · omega
      · congr 1; omega
  rw [if_neg b1, if_neg b1, if_neg (by omega), show p + 1 + 1 = p + 2 by omega]
  by_cases a2 : (t.size : Int) ≤ p + 2
  · rw [if_pos a2, take_end _ _ _ _ _ _ a2]
  rw [if_neg a2, take_round _ _ _ _ _ _ h0 (by omega) (by omega) h2 (by omega) (by omega) (by simp)]
  by_cases b2 : 128 ≤ bt t (p + 2)
  · rw [if_pos b2, if_neg (by omega), if_pos rfl]
  rw [if_neg b2, if_pos (by omega)]
  by_cases z : bt t (p + 2) = 0
  · rw [if_pos z, if_pos ⟨z, by omega⟩]
  rw [if_neg z, if_neg (fun h => z h.1)]
  have e : 0 + (bt t p - 128) * 1 + (bt t (p + 1) - 128) * (1 * 128) + bt t (p + 2) * (1 * 128 * 128) = bt t p - 128 + (bt t (p + 1) - 128) * 128 + bt t (p + 2) * 16384 := by omega
  rw [e]
  by_cases c : 999999 < bt t p - 128 + (bt t (p + 1) - 128) * 128 + bt t (p + 2) * 16384
  · rw [if_pos c, if_pos c]
  · rw [if_neg c, if_neg c, show p + 2 + 1 = p + 3 by omega]
theorem shl_by {x y : Int} (j : Nat) (hy : y = j) (hj : j ≤ 14) (h0 : 0 ≤ x) (h1 : x < 128) : shl .i64 x y = x * 2 ^ j := by
  subst hy
  unfold shl
  have hm : min (Int.toNat (j : Int)) IntKind.i64.bits = j := by
    have : IntKind.i64.bits = 64 := rfl
    rw [this, Int.toNat_natCast]; omega
  rw [hm, IntKind.wrap_i64]
  have : (2 : Int) ^ j ≤ 2 ^ 14 := by exact_mod_cast Nat.pow_le_pow_right (by omega) hj
  have p0 : (0 : Int) < 2 ^ j := by exact_mod_cast Nat.pow_pos (n := j) (by omega : 0 < 2)
  have b0 : 0 ≤ x * 2 ^ j := Int.mul_nonneg h0 (by omega)
  have b1 : x * 2 ^ j ≤ 127 * 2 ^ 14 := Int.mul_le_mul (by omega) this (by omega) (by omega)
  generalize x * 2 ^ j = y at *
  have h14 : (2 : Int) ^ 14 = 16384 := rfl
  rw [h14] at b1
  have := wid (x := y) (by omega) (by omega)
  unfold wrap64 at this
  exact this
theorem ntake_round (k : Nat) (t : ByteArray) (p n : Int) (i : Nat) (hp : 0 ≤ p) (hi' : p + i < t.size) (h2 : t.size ≤ 1048576) (hn : 0 ≤ n) (hn' : n ≤ 999999) (hi : i ≤ 2) :
    impl_takeNumber.l0 (k + 3) t p n i = if bt t (p + i) < 128 then (if bt t (p + i) = 0 ∧ 0 < i then some (0, 3) else if 999999 < n + bt t (p + i) * 2 ^ (7 * i) then some (0, 4) else some (n + bt t (p + i) * 2 ^ (7 * i), 0))
      else if i = 2 then some (0, 4) else impl_takeNumber.l0 (k + 1) t p (n + (bt t (p + i) - 128) * 2 ^ (7 * i)) (i + 1 : Nat) := by
  have r0 := bt_range t (p + i)
  have g0 : ¬ (p + (i : Int) ≥ t.size) := by omega
  have g1 : 0 ≤ p + (i : Int) := by omega
  have g2 : 0 ≤ 7 * (i : Int) := by omega
  have g3 : bt t (p + i) < 128 → ¬ bt t (p + i) ≥ 128 ∧ bt t (p + i) % 128 = bt t (p + i) := by omega
  have g4 : ¬ bt t (p + i) < 128 → bt t (p + i) ≥ 128 ∧ bt t (p + i) % 128 = bt t (p + i) - 128 := by omega
  have g5 : i ≠ 2 → ((i : Int) == 2) = false := by intro h; simp; omega
  have hw : (2 : Int) ^ (7 * i) = 1 ∨ (2 : Int) ^ (7 * i) = 128 ∨ (2 : Int) ^ (7 * i) = 16384 := by
    have : i = 0 ∨ i = 1 ∨ i = 2 := by omega
    rcases this with rfl | rfl | rfl <;> simp
  have e5 : ∀ s : Int, s = 1 ∨ s = 128 ∨ s = 16384 → wrap64 (n + bt t (p + i) % 128 * s) = n + bt t (p + i) % 128 * s := by
    clear hw
    intro s hs
    rcases hs with rfl | rfl | rfl
    · exact wid (x := n + bt t (p + i) % 128 * 1) (by omega) (by omega)
    · exact wid (x := n + bt t (p + i) % 128 * 128) (by omega) (by omega)
    · exact wid (x := n + bt t (p + i) % 128 * 16384) (by omega) (by omega)
  replace e5 := e5 _ hw
  have e0 : wrap64 (p + (i : Int)) = p + i := wid (by omega) (by omega)
  have e1 : wrap64 (bt t (p + i)) = bt t (p + i) := wid (by omega) (by omega)
  have e2 : Int.tmod (bt t (p + i)) 128 = bt t (p + i) % 128 := tmodE (by omega)
  have e3 : wrap64 (7 * (i : Int)) = 7 * i := wid (by omega) (by omega)
  have e4 : shl .i64 (bt t (p + i) % 128) (7 * (i : Int)) = bt t (p + i) % 128 * 2 ^ (7 * i) := shl_by (7 * i) (by omega) (by omega) (by omega) (by omega)
  generalize (2 : Int) ^ (7 * i) = s at *
  have e6 : wrap64 ((i : Int) + 1) = (i + 1 : Nat) := by rw [wid (by omega) (by omega)]; omega
  rw [impl_takeNumber.l0]
  simp only [e0, e1, e2, e3, e4, e5]
  rw [if_neg g0, if_pos g1, if_pos hi', if_pos g2]
  by_cases b : bt t (p + i) < 128
  · rw [if_neg (g3 b).1, if_pos b, (g3 b).2, impl_takeNumber.j1, if_neg (by decide), if_neg (g3 b).1]
    by_cases z : bt t (p + i) = 0
    · rw [if_pos z, impl_takeNumber.j2]
      by_cases q : 0 < i
      · rw [if_pos (by simpa using q), if_pos ⟨z, q⟩]
      · have q2 : ¬ (bt t (p + i) = 0 ∧ 0 < i) := fun h => q h.2
        rw [if_neg (by simpa using q), if_neg q2]
    · have q2 : ¬ (bt t (p + i) = 0 ∧ 0 < i) := fun h => z h.1
      rw [if_neg z, impl_takeNumber.j2, if_neg (by decide), if_neg q2]
  · rw [if_pos (g4 b).1, if_neg b, (g4 b).2, impl_takeNumber.j1]
    by_cases q : i = 2
    · rw [if_pos (by simp [q]), if_pos q]
    · rw [if_neg (by rw [g5 q]; decide), if_neg q, if_pos (g4 b).1, e6]
theorem ntake_end (k : Nat) (t : ByteArray) (p n : Int) (i : Nat) (hp : 0 ≤ p) (hi' : (t.size : Int) ≤ p + i) (hi : i ≤ 2) (h : p ≤ t.size) (h2 : t.size ≤ 1048576) : impl_takeNumber.l0 (k + 1) t p n i = some (0, 8) := by
  rw [impl_takeNumber.l0, wid (x := p + i) (by omega) (by omega), if_pos (by omega)]
theorem takeNumber_in {t : ByteArray} {p : Int} (h0 : 0 ≤ p) (h1 : p ≤ t.size) (h2 : t.size ≤ 1048576) : Ev (fun k => impl_takeNumber.f k t p) ((takeP t p).1, (takeP t p).2.2) := by
  have r0 := bt_range t p
  have r1 := bt_range t (p + 1)
  have r2 := bt_range t (p + 2)
  refine Ev.val 8 fun k => ?_
  unfold impl_takeNumber.f impl_within.f
  rw [if_pos (by omega)]
  simp only [Option.bind_some, decide_eq_true_eq]
  rw [if_pos (by omega)]
  unfold takeP
  have n0 : p + ((0 : Nat) : Int) = p := by omega
  have n1 : p + ((1 : Nat) : Int) = p + 1 := by omega
  have n2 : p + ((2 : Nat) : Int) = p + 2 := by omega
  show impl_takeNumber.l0 (k + 8) t p 0 ((0 : Nat) : Int) = _
  by_cases a0 : (t.size : Int) ≤ p
  · rw [if_pos a0, ntake_end _ _ _ _ _ h0 (by omega) (by omega) h1 h2]
  rw [if_neg a0, ntake_round _ _ _ _ _ h0 (by omega) h2 (by omega) (by omega) (by omega), n0]
  by_cases b0 : bt t p < 128
  · rw [if_pos b0, if_pos b0, if_neg (by simp), if_neg (by simp; omega)]; simp
  rw [if_neg b0, if_neg b0, if_neg (by omega)]
  by_cases a1 : (t.size : Int) ≤ p + 1
  · rw [if_pos a1, ntake_end _ _ _ _ _ h0 (by omega) (by omega) h1 h2]
  rw [if_neg a1, ntake_round _ _ _ _ _ h0 (by omega) h2 (by simp; omega) (by simp; omega) (by omega), n1]
  by_cases b1 : bt t (p + 1) < 128
  · rw [if_pos b1, if_pos b1]
    by_cases z : bt t (p + 1) = 0
    · rw [if_pos z, if_pos ⟨z, by omega⟩]
    · rw [if_neg z, if_neg (fun h => z h.1), if_neg (by simp; omega)]; simp
  rw [if_neg b1, if_neg b1, if_neg (by omega)]
  by_cases a2 : (t.size : Int) ≤ p + 2
  · rw [if_pos a2, ntake_end _ _ _ _ _ h0 (by omega) (by omega) h1 h2]
  rw [if_neg a2, ntake_round _ _ _ _ _ h0 (by omega) h2 (by simp; omega) (by simp; omega) (by omega), n2]
  by_cases b2 : 128 ≤ bt t (p + 2)
  · rw [if_pos b2, if_neg (by omega), if_pos rfl]
  rw [if_neg b2, if_pos (by omega)]
  by_cases z : bt t (p + 2) = 0
  · rw [if_pos z, if_pos ⟨z, by omega⟩]
  have q2 : ¬ (bt t (p + 2) = 0 ∧ 0 < 2) := fun h => z h.1
  rw [if_neg z, if_neg q2]
  have e : 0 + (bt t p - 128) * 2 ^ (7 * 0) + (bt t (p + 1) - 128) * 2 ^ (7 * 1) + bt t (p + 2) * 2 ^ (7 * 2) = bt t p - 128 + (bt t (p + 1) - 128) * 128 + bt t (p + 2) * 16384 := by simp
  rw [e]
  by_cases c : 999999 < bt t p - 128 + (bt t (p + 1) - 128) * 128 + bt t (p + 2) * 16384
  · rw [if_pos c, if_pos c]
  · rw [if_neg c, if_neg c]
end Go.Proofs.Ytnppmhijoaeibaa.H
set_option linter.unusedVariables false
set_option linter.unusedSimpArgs false
namespace Go.Proofs.Ytnppmhijoaeibaa.H
open Go.RowKit Go.Proofs.YtnppmhijoaeibaaW.PrintWords Go.Proofs.Ytnppmhijoaeibaa.Q
def sumL (l : List UInt8) (n : Int) : Int := l.foldl (fun n b => (31 * n + b.toNat) % 65521) n
def sumP (t : ByteArray) : Int := sumL t.data.toList 1
theorem sumL_range (l : List UInt8) : ∀ {n : Int}, 0 ≤ n → n < 65521 → 0 ≤ sumL l n ∧ sumL l n < 65521 := by
  induction l with
  | nil => intro n h0 h1; exact ⟨h0, h1⟩
  | cons b l ih => intro n h0 h1; exact ih (n := (31 * n + b.toNat) % 65521) (by omega) (by omega)
theorem sumP_range (t : ByteArray) : 0 ≤ sumP t ∧ sumP t < 65521 := sumL_range _ (by omega) (by omega)
theorem bt_nat (t : ByteArray) (i : Nat) (h : i < t.size) : bt t i = (t[i].toNat : Int) := by unfold bt; simp [h]
theorem drop_step (t : ByteArray) (i : Nat) (h : i < t.size) : t.data.toList.drop i = t[i] :: t.data.toList.drop (i + 1) := by
  rw [List.drop_eq_getElem_cons (by simpa using h)]; rfl
theorem sum_step (t : ByteArray) (i : Nat) (h : i < t.size) (n : Int) : sumL (t.data.toList.drop i) n = sumL (t.data.toList.drop (i + 1)) ((31 * n + bt t i) % 65521) := by
  rw [drop_step t i h, bt_nat t i h]; rfl
theorem sum_done (t : ByteArray) (i : Nat) (h : t.size ≤ i) (n : Int) : sumL (t.data.toList.drop i) n = n := by
  rw [List.drop_of_length_le (by simpa using h)]; rfl
theorem sum_arith {n b : Int} (h0 : 0 ≤ n) (h1 : n < 65521) (b0 : 0 ≤ b ∧ b ≤ 255) : Int.tmod (wrap64 (wrap64 (31 * n) + wrap64 b)) 65521 = (31 * n + b) % 65521 := by
  rw [wid (x := 31 * n) (by omega) (by omega), wid (x := b) (by omega) (by omega), wid (by omega) (by omega), tmodE (by omega)]
theorem mod_range (x : Int) : 0 ≤ x % 65521 ∧ x % 65521 < 65521 := by omega
theorem nat_wrap {i : Nat} {m : Nat} (h : i < m) (hm : m ≤ 1048576) : wrap64 ((i : Int) + 1) = ((i + 1 : Nat) : Int) := by rw [wid (by omega) (by omega)]; omega
theorem l01Sum_loop (t : ByteArray) (h2 : t.size ≤ 1048576) (d : Nat) : ∀ (i : Nat) (n : Int) (k : Nat), i + d = t.size → 0 ≤ n → n < 65521 → spec_l01Sum.l0 (k + d + 1) t n i = some (sumL (t.data.toList.drop i) n) := by
  induction d with
  | zero =>
    intro i n k hi h0 h1
    rw [spec_l01Sum.l0, if_neg (by omega), sum_done t i (by omega)]
  | succ d ih =>
    intro i n k hi h0 h1
    rw [spec_l01Sum.l0, if_pos (by omega), if_pos (by omega), sum_arith h0 h1 (bt_range t i), nat_wrap (m := t.size) (by omega) h2, sum_step t i (by omega)]
    exact ih (i + 1) _ k (by omega) (mod_range _).1 (mod_range _).2
theorem l01Sum_eq {t : ByteArray} (h2 : t.size ≤ 1048576) : Ev (fun k => spec_l01Sum.f k t) (sumP t) :=
  Ev.val (t.size + 1) fun k => by
    have := l01Sum_loop t h2 t.size 0 1 k (by omega) (by omega) (by omega)
    rw [List.drop_zero] at this
    exact this
theorem sumOf_loop (t : ByteArray) (h2 : t.size ≤ 1048576) (d : Nat) : ∀ (i : Nat) (n : Int) (k : Nat), i + d = t.size → 0 ≤ n → n < 65521 → impl_sumOf.l0 (k + d + 1) t n t.size i = some (sumL (t.data.toList.drop i) n) := by
  induction d with
  | zero =>
    intro i n k hi h0 h1
    rw [impl_sumOf.l0, if_neg (by omega), sum_done t i (by omega)]
  | succ d ih =>
    intro i n k hi h0 h1
    rw [impl_sumOf.l0, if_pos (by omega), if_pos (by omega), if_pos (by omega), sum_arith h0 h1 (bt_range t i), nat_wrap (m := t.size) (by omega) h2, sum_step t i (by omega)]
    exact ih (i + 1) _ k (by omega) (mod_range _).1 (mod_range _).2
theorem sumOf_eq {t : ByteArray} (h2 : t.size ≤ 1048576) : Ev (fun k => impl_sumOf.f k t) (sumP t) :=
  Ev.val (t.size + 1) fun k => by
    have := sumOf_loop t h2 t.size 0 1 k (by omega) (by omega) (by omega)
    rw [List.drop_zero] at this
    exact this
def sum2 (t : ByteArray) : ByteArray := strOfNums [sumP t % 256, sumP t / 256]
theorem sum_two (t : ByteArray) : [Int.tmod (sumP t) 256 % 256, wrap64 (Int.tdiv (sumP t) 256) % 256] = [sumP t % 256, sumP t / 256] := by
  have := sumP_range t
  generalize sumP t = s at *
  rw [tmodE (by omega), tdivE (by omega), wid (by omega) (by omega), show s % 256 % 256 = s % 256 by omega, show s / 256 % 256 = s / 256 by omega]
theorem sumText_eq {t : ByteArray} (h2 : t.size ≤ 1048576) : Ev (fun k => impl_sumText.f k t) (sum2 t) :=
  (sumOf_eq h2).bind (Ev.const (by rw [sum_two]; rfl))
end Go.Proofs.Ytnppmhijoaeibaa.H
set_option linter.unusedVariables false
set_option linter.unusedSimpArgs false
namespace Go.Proofs.Ytnppmhijoaeibaa.H
open Go.RowKit Go.Proofs.YtnppmhijoaeibaaW.PrintWords Go.Proofs.Ytnppmhijoaeibaa.Q
def noS : ByteArray := ⟨#[]⟩
def takeTextP (t : ByteArray) (p : Int) : ByteArray × Int × Int :=
  if (takeP t p).2.2 = 0 then (if (takeP t p).1 > (t.size : Int) - (takeP t p).2.1 then (noS, 0, 8) else (t.extract (takeP t p).2.1.toNat ((takeP t p).2.1 + (takeP t p).1).toNat, (takeP t p).2.1 + (takeP t p).1, 0)) else (noS, 0, (takeP t p).2.2)
theorem l01TakeText_eq {t : ByteArray} {p : Int} (h0 : 0 ≤ p) (h1 : p ≤ t.size) (h2 : t.size ≤ 1048576) : Ev (fun k => spec_l01TakeText.f k t p) (takeTextP t p) := by
  refine (l01Take_eq h0 h1 h2).bind (Ev.const ?_)
  have ok := takeP_ok h0 h1
  unfold takeTextP
  generalize takeP t p = r at *
  obtain ⟨n, nx, c⟩ := r
  by_cases hc : c = 0
  · subst hc
    obtain ⟨n0, n1, n2, n3⟩ := ok rfl
    simp only at n0 n1 n2 n3
    have e1 : wrap64 ((t.size : Int) - nx) = t.size - nx := wid (by omega) (by omega)
    have e2 : wrap64 (nx + n) = nx + n := wid (by omega) (by omega)
    simp only [e1, e2, if_true]
    by_cases g : n > (t.size : Int) - nx
    · rw [if_pos g, if_pos g]; rfl
    · rw [if_neg g, if_neg g, if_pos (by omega), if_pos (by omega), if_pos (by omega)]
  · rw [if_neg hc, if_neg hc]; rfl
theorem takeText_in {t : ByteArray} {p : Int} (h0 : 0 ≤ p) (h1 : p ≤ t.size) (h2 : t.size ≤ 1048576) : Ev (fun k => impl_takeText.f k t p) (takeTextP t p) := by
  refine (takeNumber_in h0 h1 h2).bind (Ev.const ?_)
  have ok := takeP_ok h0 h1
  unfold takeTextP
  generalize takeP t p = r at *
  obtain ⟨n, nx, c⟩ := r
  by_cases hc : c = 0
  · subst hc
    obtain ⟨n0, n1, n2, n3⟩ := ok rfl
    simp only at n0 n1 n2 n3
    rw [← putS_size] at n2
    have hp := putS_len n
    simp only [if_true]
    rw [number_eq (by omega), Option.bind_some]
    have e0 : wrap64 (p + ((putS n).size : Int)) = nx := by rw [wid (by omega) (by omega)]; omega
    have e1 : wrap64 ((t.size : Int) - nx) = t.size - nx := wid (by omega) (by omega)
    have e2 : wrap64 (nx + n) = nx + n := wid (by omega) (by omega)
    simp only [e0, e1, e2]
    by_cases g : n > (t.size : Int) - nx
    · rw [if_pos g, if_pos g]; rfl
    · rw [if_neg g, if_neg g, if_pos (by omega), if_pos (by omega), if_pos (by omega)]
  · rw [if_neg hc, if_neg hc]; rfl
def isCO (t : ByteArray) : Bool := (t.extract 0 2).toList == ([67, 79] : List UInt8)
def readFrameP (t : ByteArray) : ByteArray × Int :=
  if (t.size : Int) < 5 then (noS, 3) else if isCO t = false then (noS, 3) else
  if (takeTextP t 2).2.2 = 0 then (if (takeTextP t 2).2.1 = (t.size : Int) - 2 then (if (sum2 (t.extract 0 (takeTextP t 2).2.1.toNat)).toList = (t.extract (takeTextP t 2).2.1.toNat t.size).toList then ((takeTextP t 2).1, 0) else (noS, 9)) else (noS, 8)) else (noS, (takeTextP t 2).2.2)
theorem takeTextP_ok {t : ByteArray} {p : Int} (h0 : 0 ≤ p) (h1 : p ≤ t.size) (h : (takeTextP t p).2.2 = 0) : 0 ≤ (takeTextP t p).2.1 ∧ (takeTextP t p).2.1 ≤ t.size := by
  have ok := takeP_ok h0 h1
  unfold takeTextP at h ⊢
  generalize takeP t p = r at *
  obtain ⟨n, nx, c⟩ := r
  simp only at h ⊢
  by_cases hc : c = 0
  · obtain ⟨n0, n1, n2, n3⟩ := ok hc
    simp only at n0 n1 n2 n3
    rw [if_pos hc] at h ⊢
    by_cases g : n > (t.size : Int) - nx
    · rw [if_pos g] at h; simp at h
    · rw [if_neg g]; show 0 ≤ nx + n ∧ nx + n ≤ t.size; omega
  · rw [if_neg hc] at h; exact absurd h hc
theorem last_two (t : ByteArray) (m : Nat) (h : m + 2 = t.size) : (t.extract m t.size).toList.map (fun b => (b.toNat : Int)) = [bt t m, bt t ((m : Int) + 1)] := by
  rw [Lib.extract_toList, drop_step t m (by omega), drop_step t (m + 1) (by omega), bt_nat t m (by omega), show ((m : Int) + 1) = ((m + 1 : Nat) : Int) by omega, bt_nat t (m + 1) (by omega), show t.size - m = 2 by omega]
  rfl
theorem map_inj (l l' : List UInt8) : l = l' ↔ l.map (fun b => (b.toNat : Int)) = l'.map (fun b => (b.toNat : Int)) :=
  ⟨fun h => by rw [h], fun h => (List.map_inj_right (fun x y hxy => by
    have h2 : x.toNat = y.toNat := by omega
    exact UInt8.toNat_inj.1 h2)).1 h⟩
theorem strOfNums_two (a b : Int) (h0 : 0 ≤ a) (h1 : a < 256) (h2 : 0 ≤ b) (h3 : b < 256) : (strOfNums [a, b]).toList.map (fun b => (b.toNat : Int)) = [a, b] := by
  rw [Lib.toList_data]
  simp [strOfNums, UInt8.toNat_ofNat']
  omega
theorem sum2_same (t u : ByteArray) (m : Nat) (h : m + 2 = t.size) : ((sum2 u).toList = (t.extract m t.size).toList) ↔ (bt t m = sumP u % 256 ∧ bt t ((m : Int) + 1) = sumP u / 256) := by
  have r := sumP_range u
  rw [map_inj, last_two t m h]
  unfold sum2
  rw [strOfNums_two _ _ (by omega) (by omega) (by omega) (by omega)]
  constructor
  · intro h; simp at h; omega
  · intro h; simp [h.1, h.2]
theorem l01ReadFrame_eq {t : ByteArray} (h2 : t.size ≤ 1048576) : Ev (fun k => spec_l01ReadFrame.f k t) (readFrameP t) := by
  unfold readFrameP
  by_cases h5 : (t.size : Int) < 5
  · rw [if_pos h5]
    refine Ev.val 1 fun k => ?_
    unfold spec_l01ReadFrame.f; rw [if_pos h5, spec_l01ReadFrame.j0, if_pos rfl]; rfl
  rw [if_neg h5]
  by_cases hc : isCO t = false
  · rw [if_pos hc]
    refine Ev.val 1 fun k => ?_
    unfold isCO at hc
    unfold spec_l01ReadFrame.f; rw [if_neg h5, if_pos (by decide), if_pos (by omega), spec_l01ReadFrame.j0, if_pos (by simpa [bne] using hc)]; rfl
  rw [if_neg hc]
  have hc' : isCO t = true := by simpa using hc
  refine Ev.step (f := ?f) (fun k => ?h) ?e
  case h => unfold spec_l01ReadFrame.f; rw [if_neg h5, if_pos (by decide), if_pos (by omega), spec_l01ReadFrame.j0, if_neg (by unfold isCO at hc'; simpa [bne] using hc')]
  refine (l01TakeText_eq (by omega) (by omega) h2).bind ?_
  have ok := takeTextP_ok (t := t) (p := 2) (by omega) (by omega)
  generalize takeTextP t 2 = r at *
  obtain ⟨s, nx, c⟩ := r
  dsimp only at ok ⊢
  by_cases hc : c = 0
  · obtain ⟨n0, n1⟩ := ok hc
    have e1 : wrap64 ((t.size : Int) - 2) = t.size - 2 := wid (by omega) (by omega)
    simp only [if_pos hc, e1]
    by_cases g : nx = (t.size : Int) - 2
    · obtain ⟨m, rfl⟩ : ∃ m : Nat, nx = m := ⟨nx.toNat, by omega⟩
      have hm : m + 2 = t.size := by omega
      have e2 : wrap64 ((m : Int) + 1) = m + 1 := wid (by omega) (by omega)
      have hs : (t.extract 0 m).size ≤ 1048576 := by simp; omega
      have r1 := bt_range t m
      have r2 := bt_range t ((m : Int) + 1)
      have e3 : wrap64 (bt t m) = bt t m := wid (by omega) (by omega)
      have e4 : wrap64 (bt t ((m : Int) + 1)) = bt t ((m : Int) + 1) := wid (by omega) (by omega)
      simp only [if_pos g, e2, e3, e4, Int.toNat_natCast]
      simp only [if_pos (show (0 : Int) ≤ m by omega), if_pos (show (m : Int) ≤ t.size by omega), if_pos (show (m : Int) < t.size by omega), if_pos (show (0 : Int) ≤ m + 1 by omega), if_pos (show (m : Int) + 1 < t.size by omega)]
      refine (l01Sum_eq hs).bind (Ev.const ?_)
      have hz := sumP_range (t.extract 0 m)
      have h2s := sum2_same t (t.extract 0 m) m hm
      generalize sumP (t.extract 0 m) = z at *
      have e5 : Int.tmod z 256 = z % 256 := tmodE (by omega)
      have e6 : wrap64 (Int.tdiv z 256) = z / 256 := by rw [tdivE (by omega)]; exact wid (by omega) (by omega)
      rw [e5, e6]
      by_cases q : (sum2 (t.extract 0 m)).toList = (t.extract m t.size).toList
      · rw [if_pos q, if_pos (h2s.1 q).1, if_pos (h2s.1 q).2]
      · rw [if_neg q]
        by_cases q1 : bt t m = z % 256
        · rw [if_pos q1, if_neg (fun q2 => q (h2s.2 ⟨q1, q2⟩))]; rfl
        · rw [if_neg q1]; rfl
    · simp only [if_neg g]; exact Ev.const rfl
  · simp only [if_neg hc]; exact Ev.const rfl
theorem readFrame_eq {t : ByteArray} (h2 : t.size ≤ 1048576) : Ev (fun k => impl_readFrame.f k t) (readFrameP t) := by
  unfold readFrameP
  by_cases h5 : (t.size : Int) < 5
  · rw [if_pos h5]
    refine Ev.val 1 fun k => ?_
    unfold impl_readFrame.f; rw [if_pos h5, impl_readFrame.j0, if_pos rfl]; rfl
  rw [if_neg h5]
  have hp : strings_HasPrefix.f t (⟨#[67, 79]⟩ : ByteArray) = some (isCO t) := by
    unfold strings_HasPrefix.f stringslite_HasPrefix.f
    have : (⟨#[67, 79]⟩ : ByteArray).size = 2 := rfl
    rw [this, if_pos (by omega), if_pos (by omega), if_pos (by omega), Option.bind_some, Lib.toList_data ⟨#[67, 79]⟩]; rfl
  by_cases hc : isCO t = false
  · rw [if_pos hc]
    refine Ev.val 1 fun k => ?_
    unfold impl_readFrame.f; rw [if_neg h5, hp, Option.bind_some, impl_readFrame.j0, if_pos (by rw [hc]; rfl)]; rfl
  rw [if_neg hc]
  have hc' : isCO t = true := by simpa using hc
  have hh : ∀ k, impl_readFrame.f k t = impl_readFrame.j0 k t (!isCO t) := fun k => by unfold impl_readFrame.f; rw [if_neg h5, hp, Option.bind_some]
  refine Ev.step (fun k => (hh (k + 1)).trans ((impl_readFrame.j0.eq_2 _ _ _).trans (if_neg (by rw [hc']; decide)))) ?_
  refine (takeText_in (by omega) (by omega) h2).bind ?_
  have ok := takeTextP_ok (t := t) (p := 2) (by omega) (by omega)
  generalize takeTextP t 2 = r at *
  obtain ⟨s, nx, c⟩ := r
  dsimp only at ok ⊢
  by_cases hc : c = 0
  · obtain ⟨n0, n1⟩ := ok hc
    have e1 : wrap64 (nx + 2) = nx + 2 := wid (by omega) (by omega)
    simp only [if_pos hc, e1]
    by_cases g : nx = (t.size : Int) - 2
    · simp only [if_pos g, if_pos (show (t.size : Int) = nx + 2 by omega), if_pos n0, if_pos n1]
      refine (sumText_eq (by simp; omega)).bind (Ev.const ?_)
      by_cases q : (sum2 (t.extract 0 nx.toNat)).toList = (t.extract nx.toNat t.size).toList
      · rw [if_pos q, if_pos q]
      · rw [if_neg q, if_neg q]; rfl
    · simp only [if_neg g, if_neg (show ¬ (t.size : Int) = nx + 2 by omega)]; exact Ev.const rfl
  · simp only [if_neg hc]; exact Ev.const rfl
end Go.Proofs.Ytnppmhijoaeibaa.H
set_option linter.unusedVariables false
set_option linter.unusedSimpArgs false
namespace Go.Proofs.Ytnppmhijoaeibaa.H
open Go.RowKit Go.Proofs.YtnppmhijoaeibaaW.PrintWords Go.Proofs.YtnppmhijoaeibaaW.PrintLast Go.Proofs.YtnppmhijoaeibaaW.PrintMore Go.Proofs.Ytnppmhijoaeibaa.Q
theorem within_eq (a b c : Int) : impl_within.f a b c = some (decide (b ≤ a ∧ a ≤ c)) := by
  unfold impl_within.f
  by_cases h : a ≥ b
  · rw [if_pos h]; congr 1; simp; omega
  · rw [if_neg h]; congr 1; simp; omega
theorem l01In_eq (a b c : Int) : spec_l01In.f a b c = some (decide (b ≤ a ∧ a ≤ c)) := by
  unfold spec_l01In.f
  by_cases h : a ≥ b
  · rw [if_pos h]; congr 1; simp; omega
  · rw [if_neg h]; congr 1; simp; omega
theorem toList_nil (a : ByteArray) : (a.toList = ([] : List UInt8)) = (a.size = 0) := by
  rw [Lib.toList_data]
  apply propext
  rw [← List.length_eq_zero_iff, data_length]
def EOK (a0 a1 a2 a3 : Int) (t : ByteArray) : Prop :=
  1 ≤ a1 ∧ a1 ≤ 999999 ∧ ((a0 = 1 ∧ 1 ≤ a2 ∧ a2 ≤ 8 ∧ 0 ≤ a3 ∧ a3 ≤ 12 ∧ t.size = 0) ∨ ((a0 = 2 ∨ a0 = 7 ∨ a0 = 9) ∧ a2 = 0 ∧ a3 = 0 ∧ t.size = 0) ∨ (a0 = 3 ∧ a2 = 0 ∧ a3 = 0 ∧ t.size ≤ 20) ∨
    (a0 = 4 ∧ 0 ≤ a2 ∧ a2 ≤ 99 ∧ a3 = 0 ∧ t.size = 0) ∨ (a0 = 5 ∧ 1 ≤ a2 ∧ a2 ≤ 999999 ∧ 0 ≤ a3 ∧ a3 ≤ 12 ∧ t.size = 0) ∨ (a0 = 6 ∧ 1 ≤ a2 ∧ a2 ≤ 8 ∧ a3 = 0 ∧ t.size = 0) ∨ (a0 = 8 ∧ 0 ≤ a2 ∧ a2 ≤ 20 ∧ a3 = 0 ∧ t.size = 0))
instance (a0 a1 a2 a3 : Int) (t : ByteArray) : Decidable (EOK a0 a1 a2 a3 t) := by unfold EOK; infer_instance
theorem some_dec {p q : Prop} [Decidable p] [Decidable q] (h : p ↔ q) : (some (decide p) : Option Bool) = some (decide q) := by congr 1; exact decide_eq_decide.2 h
theorem some_no {q : Prop} [Decidable q] (h : ¬ q) : (some false : Option Bool) = some (decide q) := by congr 1; exact (decide_eq_false h).symm
theorem beq_dec (a b : Int) : (a == b) = decide (a = b) := rfl
theorem ite_eq {c : Prop} [Decidable c] {a b r : Option Bool} (h1 : c → a = r) (h2 : ¬ c → b = r) : (if c then a else b) = r := by
  by_cases h : c
  · rw [if_pos h]; exact h1 h
  · rw [if_neg h]; exact h2 h
theorem impl_EditOK_eq (k : Nat) (a0 a1 a2 a3 : Int) (t : ByteArray) : impl_EditOK.f (k + 1) a0 a1 a2 a3 t = some (decide (EOK a0 a1 a2 a3 t)) := by
  unfold impl_EditOK.f impl_EditOK.j0
  simp only [within_eq, Option.bind_some, decide_eq_true_eq, beq_dec]
  repeat' (with_reducible refine ite_eq (fun _ => ?_) (fun _ => ?_))
  all_goals first
    | exact some_dec (by unfold EOK; omega)
    | exact some_no (by unfold EOK; omega)
theorem spec_EditOK_eq (k : Nat) (a0 a1 a2 a3 : Int) (t : ByteArray) : spec_EditOK.f (k + 2) a0 a1 a2 a3 t = some (decide (EOK a0 a1 a2 a3 t)) := by
  unfold spec_EditOK.f spec_EditOK.j0 spec_EditOK.j1 spec_l02Kind.f
  simp only [l01In_eq, Option.bind_some, decide_eq_true_eq, beq_dec, toList_nil, if_true]
  repeat' (with_reducible refine ite_eq (fun _ => ?_) (fun _ => ?_))
  all_goals first
    | exact some_dec (by unfold EOK; omega)
    | exact some_no (by unfold EOK; omega)
def NOE (a4 a5 a6 a7 : Int) (t : ByteArray) : Prop := a4 = 0 ∧ a5 = 0 ∧ a6 = 0 ∧ a7 = 0 ∧ t.size = 0
def ROK (a0 a1 a2 a3 a4 a5 a6 a7 : Int) (t : ByteArray) : Prop :=
  (a0 = 1 ∧ a1 = 0 ∧ a2 = 0 ∧ a3 = 0 ∧ NOE a4 a5 a6 a7 t) ∨ ((a0 = 2 ∨ a0 = 3 ∨ a0 = 8 ∨ a0 = 9) ∧ 1 ≤ a1 ∧ a1 ≤ 999 ∧ a2 = 0 ∧ a3 = 0 ∧ NOE a4 a5 a6 a7 t) ∨
  (a0 = 4 ∧ 1 ≤ a1 ∧ a1 ≤ 999 ∧ 1 ≤ a2 ∧ a2 ≤ 999999 ∧ 1 ≤ a3 ∧ a3 ≤ 5 ∧ NOE a4 a5 a6 a7 t) ∨ ((a0 = 5 ∨ a0 = 6 ∨ a0 = 10) ∧ 1 ≤ a1 ∧ a1 ≤ 999 ∧ 1 ≤ a2 ∧ a2 ≤ 999999 ∧ a3 = 0 ∧ NOE a4 a5 a6 a7 t) ∨
  (a0 = 7 ∧ 1 ≤ a1 ∧ a1 ≤ 999 ∧ a2 = 0 ∧ a3 = 0 ∧ EOK a4 a5 a6 a7 t) ∨ (a0 = 11 ∧ a1 = 0 ∧ a2 = 0 ∧ 1 ≤ a3 ∧ a3 ≤ 500 ∧ NOE a4 a5 a6 a7 t)
instance (a4 a5 a6 a7 : Int) (t : ByteArray) : Decidable (NOE a4 a5 a6 a7 t) := by unfold NOE; infer_instance
instance (a0 a1 a2 a3 a4 a5 a6 a7 : Int) (t : ByteArray) : Decidable (ROK a0 a1 a2 a3 a4 a5 a6 a7 t) := by unfold ROK; infer_instance
theorem noe_bool (a4 a5 a6 a7 : Int) (t : ByteArray) : ((!(a4 == 0) || (!(a5 == 0) || (!(a6 == 0) || (!(a7 == 0) || (!(t.toList == ([] : List UInt8))))))) = true) = ¬ NOE a4 a5 a6 a7 t := by
  have e : (t.toList == ([] : List UInt8)) = decide (t.size = 0) := by
    by_cases h : t.size = 0
    · rw [decide_eq_true h, beq_iff_eq, toList_nil]; exact h
    · rw [decide_eq_false h, beq_eq_false_iff_ne]; exact fun h2 => h (by rwa [toList_nil] at h2)
  rw [e]
  apply propext
  unfold NOE
  simp only [beq_dec, Bool.or_eq_true, Bool.not_eq_true', decide_eq_false_iff_not]
  omega
theorem noe_eok {a4 a5 a6 a7 : Int} {t : ByteArray} (h : NOE a4 a5 a6 a7 t) : ¬ EOK a4 a5 a6 a7 t := fun h2 => by unfold NOE at h; unfold EOK at h2; omega
theorem req_j2 (k : Nat) (x3 x4 x5 x6 x7 : Int) (b : Bool) (a0 a1 a2 a3 a4 a5 a6 a7 : Int) (t : ByteArray) : impl_RequestOK.j2 (k + 1) x3 x4 x5 x6 x7 b a0 a1 a2 a3 a4 a5 a6 a7 t = some (decide (b = false ∧ x3 ≤ a1 ∧ a1 ≤ x4 ∧ mn x5 1 ≤ a2 ∧ a2 ≤ x5 ∧ x6 ≤ a3 ∧ a3 ≤ x7)) := by
  unfold impl_RequestOK.j2
  simp only [within_eq, Option.bind_some, decide_eq_true_eq]
  cases b with
  | true => rw [if_pos rfl]; exact some_no (by simp)
  | false =>
    rw [if_neg (by simp)]
    repeat' (with_reducible refine ite_eq (fun _ => ?_) (fun _ => ?_))
    all_goals first
      | exact some_dec (by simp; omega)
      | exact some_no (by simp; omega)
def REOK (a0 a4 a5 a6 a7 : Int) (t : ByteArray) : Prop := (a0 = 7 ∧ EOK a4 a5 a6 a7 t) ∨ (a0 ≠ 7 ∧ NOE a4 a5 a6 a7 t)
instance (a0 a4 a5 a6 a7 : Int) (t : ByteArray) : Decidable (REOK a0 a4 a5 a6 a7 t) := by unfold REOK; infer_instance
theorem req_j1 (k : Nat) (x3 x4 x5 x6 x7 : Int) (a0 a1 a2 a3 a4 a5 a6 a7 : Int) (t : ByteArray) : impl_RequestOK.j1 (k + 2) x3 x4 x5 x6 x7 a0 a1 a2 a3 a4 a5 a6 a7 t = some (decide (REOK a0 a4 a5 a6 a7 t ∧ x3 ≤ a1 ∧ a1 ≤ x4 ∧ mn x5 1 ≤ a2 ∧ a2 ≤ x5 ∧ x6 ≤ a3 ∧ a3 ≤ x7)) := by
  unfold impl_RequestOK.j1
  simp only [impl_EditOK_eq, req_j2, Option.bind_some]
  by_cases h7 : a0 = 7
  · by_cases hE : EOK a4 a5 a6 a7 t
    · rw [if_neg (by simp [h7, hE]), if_pos h7]; exact some_dec (by unfold REOK; simp [h7, hE])
    · rw [if_pos (by simp [h7, hE])]; exact some_dec (by unfold REOK; simp [h7, hE])
  · by_cases hN : NOE a4 a5 a6 a7 t
    · have hE := noe_eok hN
      rw [if_neg (by simp [h7, hE]), if_neg h7]
      have := noe_bool a4 a5 a6 a7 t
      have hb : (!(a4 == 0) || (!(a5 == 0) || (!(a6 == 0) || (!(a7 == 0) || (!(t.toList == ([] : List UInt8))))))) = false := Bool.eq_false_iff.2 (fun h => by rw [noe_bool] at h; exact h hN)
      rw [hb]; exact some_dec (by unfold REOK; simp [h7, hN])
    · by_cases hE : EOK a4 a5 a6 a7 t
      · rw [if_pos (by simp [h7, hE])]; exact some_dec (by unfold REOK; simp [h7, hN])
      · rw [if_neg (by simp [h7, hE]), if_neg h7]
        have hb : (!(a4 == 0) || (!(a5 == 0) || (!(a6 == 0) || (!(a7 == 0) || (!(t.toList == ([] : List UInt8))))))) = true := by rw [noe_bool]; exact hN
        rw [hb]; exact some_dec (by unfold REOK; simp [h7, hN])
theorem as_int (p : Prop) [Decidable p] : ∃ e : Int, p ↔ e = 1 := ⟨if p then 1 else 0, by split <;> simp [*]⟩
set_option maxHeartbeats 4000000 in
theorem impl_RequestOK_eq (k : Nat) (a0 a1 a2 a3 a4 a5 a6 a7 : Int) (t : ByteArray) : impl_RequestOK.f (k + 3) a0 a1 a2 a3 a4 a5 a6 a7 t = some (decide (ROK a0 a1 a2 a3 a4 a5 a6 a7 t)) := by
  unfold impl_RequestOK.f impl_RequestOK.j0
  simp only [req_j1, beq_dec, decide_eq_true_eq, mn]
  obtain ⟨e, hE⟩ := as_int (EOK a4 a5 a6 a7 t)
  obtain ⟨m, hN⟩ := as_int (NOE a4 a5 a6 a7 t)
  repeat' (with_reducible refine ite_eq (fun _ => ?_) (fun _ => ?_))
  all_goals first
    | exact some_dec (by unfold ROK REOK; rw [hE, hN]; omega)
    | exact some_no (by unfold ROK; rw [hE, hN]; omega)
set_option maxHeartbeats 4000000 in
theorem spec_RequestOK_eq (k : Nat) (a0 a1 a2 a3 a4 a5 a6 a7 : Int) (t : ByteArray) : spec_RequestOK.f (k + 5) a0 a1 a2 a3 a4 a5 a6 a7 t = some (decide (ROK a0 a1 a2 a3 a4 a5 a6 a7 t)) := by
  obtain ⟨e, hE⟩ := as_int (EOK a4 a5 a6 a7 t)
  obtain ⟨m, hN⟩ := as_int (NOE a4 a5 a6 a7 t)
  have hb : ∃ b : Bool, (!(a4 == 0) || (!(a5 == 0) || (!(a6 == 0) || (!(a7 == 0) || (!(t.toList == ([] : List UInt8))))))) = b ∧ (b = true ↔ m ≠ 1) := ⟨_, rfl, by rw [noe_bool, hN]⟩
  obtain ⟨b, hb, hb2⟩ := hb
  unfold spec_RequestOK.f
  rw [hb]
  clear hb
  unfold spec_RequestOK.j0 spec_RequestOK.j1 spec_RequestOK.j2 spec_l07Mode.f
  simp only [spec_EditOK_eq, l01In_eq, hb2, Option.bind_some, decide_eq_true_eq, beq_dec, if_true]
  repeat' (with_reducible refine ite_eq (fun _ => ?_) (fun _ => ?_))
  all_goals first
    | exact some_dec (by unfold ROK; rw [hE, hN]; omega)
    | exact some_no (by unfold ROK; rw [hE, hN]; omega)
    | contradiction
    | (exfalso; omega)
end Go.Proofs.Ytnppmhijoaeibaa.H
set_option linter.unusedVariables false
set_option linter.unusedSimpArgs false
namespace Go.Proofs.Ytnppmhijoaeibaa.H
open Go.RowKit Go.Proofs.YtnppmhijoaeibaaW.PrintWords Go.Proofs.YtnppmhijoaeibaaW.PrintLast Go.Proofs.YtnppmhijoaeibaaW.PrintMore Go.Proofs.Ytnppmhijoaeibaa.Q
def StOK (s : St) : Prop := 0 ≤ s.2.1 ∧ s.2.1 ≤ s.1.size ∧ s.1.size ≤ 65536
theorem takeP_err (t : ByteArray) (p : Int) : (takeP t p).2.2 = 0 ∨ (takeP t p).1 = 0 := by
  unfold takeP
  repeat' split
  all_goals simp
theorem takeTextP_err (t : ByteArray) (p : Int) : (takeTextP t p).2.2 = 0 ∨ (takeTextP t p).1 = noS := by
  unfold takeTextP
  split
  · split
    · right; rfl
    · left; rfl
  · right; rfl
def numP (s : St) : Int × St := if s.2.2 = 0 then (if (takeP s.1 s.2.1).2.2 = 0 then ((takeP s.1 s.2.1).1, s.1, (takeP s.1 s.2.1).2.1, 0) else (0, s.1, s.2.1, (takeP s.1 s.2.1).2.2)) else (0, s)
def strP (s : St) : ByteArray × St := if s.2.2 = 0 then (if (takeTextP s.1 s.2.1).2.2 = 0 then ((takeTextP s.1 s.2.1).1, s.1, (takeTextP s.1 s.2.1).2.1, 0) else (noS, s.1, s.2.1, (takeTextP s.1 s.2.1).2.2)) else (noS, s)
theorem numP_ok {s : St} (h : StOK s) : StOK (numP s).2 := by
  obtain ⟨t, p, c⟩ := s
  obtain ⟨h0, h1, h2⟩ := h
  simp only at h0 h1 h2
  have ok := takeP_ok h0 h1
  unfold numP
  simp only
  split
  · split
    · rename_i g
      obtain ⟨n0, n1, n2, n3⟩ := ok g
      exact ⟨by show 0 ≤ (takeP t p).2.1; omega, n3, h2⟩
    · exact ⟨h0, h1, h2⟩
  · exact ⟨h0, h1, h2⟩
theorem strP_ok {s : St} (h : StOK s) : StOK (strP s).2 := by
  obtain ⟨t, p, c⟩ := s
  obtain ⟨h0, h1, h2⟩ := h
  simp only at h0 h1 h2
  unfold strP
  simp only
  split
  · split
    · rename_i g
      have := takeTextP_ok h0 h1 g
      exact ⟨this.1, this.2, h2⟩
    · exact ⟨h0, h1, h2⟩
  · exact ⟨h0, h1, h2⟩
theorem num_in {s : St} (h : StOK s) : Ev (fun k => num k s) (numP s) := by
  obtain ⟨t, p, c⟩ := s
  obtain ⟨h0, h1, h2⟩ := h
  simp only at h0 h1 h2
  unfold num impl_reader_number.f numP
  simp only
  by_cases c0 : c = 0
  · simp only [if_pos c0]
    refine (takeNumber_in h0 h1 (by omega)).bind (Ev.const ?_)
    have ok := takeP_ok h0 h1
    have er := takeP_err t p
    generalize takeP t p = r at *
    obtain ⟨n, nx, cd⟩ := r
    simp only at ok er ⊢
    by_cases c1 : cd = 0
    · obtain ⟨n0, n1, n2, n3⟩ := ok c1
      simp only at n0 n1 n2 n3
      rw [if_pos c1, if_pos c1, number_eq (by omega), Option.bind_some, putS_size, wid (by omega) (by omega), ← n2]
    · rw [if_neg c1, if_neg c1]
      rcases er with er | er
      · exact absurd er c1
      · rw [er]
  · simp only [if_neg c0]; exact Ev.const rfl
theorem str_in {s : St} (h : StOK s) : Ev (fun k => str k s) (strP s) := by
  obtain ⟨t, p, c⟩ := s
  obtain ⟨h0, h1, h2⟩ := h
  simp only at h0 h1 h2
  unfold str impl_reader_string.f strP
  simp only
  by_cases c0 : c = 0
  · simp only [if_pos c0]
    refine (takeText_in h0 h1 (by omega)).bind (Ev.const ?_)
    have er := takeTextP_err t p
    generalize takeTextP t p = r at *
    obtain ⟨n, nx, cd⟩ := r
    simp only at er ⊢
    by_cases c1 : cd = 0
    · rw [if_pos c1, if_pos c1]
    · rw [if_neg c1, if_neg c1]
      rcases er with er | er
      · exact absurd er c1
      · rw [er]
  · simp only [if_neg c0]; exact Ev.const rfl
theorem num_es {s : St} (h : StOK s) : Ev (fun k => numS k s) (numP s) := by
  obtain ⟨t, p, c⟩ := s
  obtain ⟨h0, h1, h2⟩ := h
  simp only at h0 h1 h2
  unfold numS spec_l10Reader_number.f numP
  simp only
  by_cases c0 : c = 0
  · simp only [if_pos c0]
    refine (l01Take_eq h0 h1 (by omega)).bind (Ev.const ?_)
    generalize takeP t p = r at *
    obtain ⟨n, nx, cd⟩ := r
    simp only
    by_cases c1 : cd = 0
    · rw [if_pos c1, if_pos c1, c1]
    · rw [if_neg c1, if_neg c1]
  · simp only [if_neg c0]; exact Ev.const rfl
theorem str_es {s : St} (h : StOK s) : Ev (fun k => strS k s) (strP s) := by
  obtain ⟨t, p, c⟩ := s
  obtain ⟨h0, h1, h2⟩ := h
  simp only at h0 h1 h2
  unfold strS spec_l10Reader_text.f strP
  simp only
  by_cases c0 : c = 0
  · simp only [if_pos c0]
    refine (l01TakeText_eq h0 h1 (by omega)).bind (Ev.const ?_)
    generalize takeTextP t p = r at *
    obtain ⟨n, nx, cd⟩ := r
    simp only
    by_cases c1 : cd = 0
    · rw [if_pos c1, if_pos c1, c1]
    · rw [if_neg c1, if_neg c1]; rfl
  · simp only [if_neg c0]; exact Ev.const rfl
def endP (s : St) : Int := if s.2.2 = 0 ∧ s.2.1 < s.1.size then 8 else s.2.2
theorem end_in {s : St} (h : StOK s) : (impl_reader_end.f s.1 s.2.1 s.2.2) = some (endP s, s) := by
  obtain ⟨t, p, c⟩ := s
  obtain ⟨h0, h1, h2⟩ := h
  simp only at h0 h1 h2
  unfold impl_reader_end.f endP
  simp only
  by_cases c0 : c = 0
  · by_cases c1 : p < (t.size : Int)
    · rw [if_pos c0, if_pos c1, if_pos ⟨c0, c1⟩]
    · rw [if_pos c0, if_neg c1, if_neg (fun h => c1 h.2)]
  · rw [if_neg c0, if_neg (fun h => c0 h.1)]
theorem end_es {s : St} (h : StOK s) : (spec_l10Reader_end.f s.1 s.2.1 s.2.2) = some (endP s, s) := by
  obtain ⟨t, p, c⟩ := s
  obtain ⟨h0, h1, h2⟩ := h
  simp only at h0 h1 h2
  unfold spec_l10Reader_end.f endP
  simp only
  by_cases c0 : c = 0
  · by_cases c1 : p < (t.size : Int)
    · rw [if_pos c0, if_neg (by omega), if_pos ⟨c0, c1⟩]
    · rw [if_pos c0, if_pos (by omega), if_neg (fun h => c1 h.2)]
  · rw [if_neg c0, if_neg (fun h => c0 h.1)]
def finP (q0 q1 q2 q3 q4 q5 q6 q7 : Int) (q8 : ByteArray) (s : St) : Rq :=
  if endP s = 0 then (if ROK q0 q1 q2 q3 q4 q5 q6 q7 q8 then (q0, q1, q2, q3, q4, q5, q6, q7, q8, 0) else noRq 10) else noRq (endP s)
theorem fin_in {q0 q1 q2 q3 q4 q5 q6 q7 : Int} {q8 : ByteArray} {s : St} (h : StOK s) : Ev (fun k => finReq k q0 q1 q2 q3 q4 q5 q6 q7 q8 s) (finP q0 q1 q2 q3 q4 q5 q6 q7 q8 s) := by
  unfold finReq finP
  simp only [end_in h, Option.bind_some]
  by_cases e : endP s = 0
  · simp only [if_pos e]
    refine (Ev.val 3 (fun k => impl_RequestOK_eq k q0 q1 q2 q3 q4 q5 q6 q7 q8)).bind (Ev.const ?_)
    by_cases g : ROK q0 q1 q2 q3 q4 q5 q6 q7 q8
    · rw [if_pos g, if_pos (decide_eq_true g)]
    · rw [if_neg g, if_neg (by simpa using g)]
  · simp only [if_neg e]; exact Ev.const rfl
theorem fin_es {q0 q1 q2 q3 q4 q5 q6 q7 : Int} {q8 : ByteArray} {s : St} (h : StOK s) : Ev (fun k => finReqS k q0 q1 q2 q3 q4 q5 q6 q7 q8 s) (finP q0 q1 q2 q3 q4 q5 q6 q7 q8 s) := by
  unfold finReqS finP
  simp only [end_es h, Option.bind_some]
  by_cases e : endP s = 0
  · simp only [if_pos e]
    refine (Ev.val 5 (fun k => spec_RequestOK_eq k q0 q1 q2 q3 q4 q5 q6 q7 q8)).bind (Ev.const ?_)
    by_cases g : ROK q0 q1 q2 q3 q4 q5 q6 q7 q8
    · rw [if_pos g, if_pos (decide_eq_true g)]
    · rw [if_neg g, if_neg (by simpa using g)]
  · simp only [if_neg e]; exact Ev.const rfl
theorem readFrameP_size (t : ByteArray) (h : t.size ≤ 65536) : (readFrameP t).1.size ≤ 65536 := by
  unfold readFrameP takeTextP
  have z : noS.size ≤ 65536 := by show 0 ≤ 65536; omega
  have e : ∀ i j, (t.extract i j).size ≤ 65536 := fun i j => by rw [ByteArray.size_extract]; omega
  repeat' split
  all_goals first
    | exact z
    | exact e _ _
def readP (t : ByteArray) : Rq :=
  if (readFrameP t).2 = 0 then
    let x0 := numP ((readFrameP t).1, 0, 0); let x1 := numP x0.2; let x2 := numP x1.2; let x3 := numP x2.2
    if x0.1 = 7 then
      let x4 := numP x3.2; let x5 := numP x4.2; let x6 := numP x5.2; let x7 := numP x6.2; let x8 := strP x7.2
      finP x0.1 x1.1 x2.1 x3.1 x4.1 x5.1 x6.1 x7.1 x8.1 x8.2
    else finP x0.1 x1.1 x2.1 x3.1 0 0 0 0 ⟨#[]⟩ x3.2
  else noRq (readFrameP t).2
theorem takeRequest_eq {t : ByteArray} (h : t.size ≤ 65536) : Ev (fun k => impl_takeRequest.f k t) (readP t) := by
  unfold impl_takeRequest.f readP
  refine (readFrame_eq (by omega)).bind ?_
  have hz := readFrameP_size t h
  generalize readFrameP t = r at *
  by_cases c : r.2 = 0
  · simp only [if_pos c]
    have s0 : StOK (r.1, 0, 0) := ⟨by simp, by simp, hz⟩
    have s1 := numP_ok s0
    have s2 := numP_ok s1
    have s3 := numP_ok s2
    have s4 := numP_ok s3
    refine (num_in s0).bind ((num_in s1).bind ((num_in s2).bind ((num_in s3).bind ?_)))
    by_cases g : (numP (r.1, 0, 0)).1 = 7
    · simp only [if_pos g]
      have s5 := numP_ok s4
      have s6 := numP_ok s5
      have s7 := numP_ok s6
      have s8 := numP_ok s7
      have s9 := strP_ok s8
      exact (num_in s4).bind ((num_in s5).bind ((num_in s6).bind ((num_in s7).bind ((str_in s8).bind (fin_in s9)))))
    · simp only [if_neg g]; exact fin_in s4
  · simp only [if_neg c]; exact Ev.const rfl
theorem l10ReadRequest_eq {t : ByteArray} (h : t.size ≤ 65536) : Ev (fun k => spec_l10ReadRequest.f k t) (readP t) := by
  unfold spec_l10ReadRequest.f readP
  refine (l01ReadFrame_eq (by omega)).bind ?_
  have hz := readFrameP_size t h
  generalize readFrameP t = r at *
  by_cases c : r.2 = 0
  · simp only [if_pos c]
    have s0 : StOK (r.1, 0, 0) := ⟨by simp, by simp, hz⟩
    have s1 := numP_ok s0
    have s2 := numP_ok s1
    have s3 := numP_ok s2
    have s4 := numP_ok s3
    refine (num_es s0).bind ((num_es s1).bind ((num_es s2).bind ((num_es s3).bind ?_)))
    by_cases g : (numP (r.1, 0, 0)).1 = 7
    · simp only [if_pos g]
      have s5 := numP_ok s4
      have s6 := numP_ok s5
      have s7 := numP_ok s6
      have s8 := numP_ok s7
      have s9 := strP_ok s8
      exact (num_es s4).bind ((num_es s5).bind ((num_es s6).bind ((num_es s7).bind ((str_es s8).bind (fin_es s9)))))
    · simp only [if_neg g]; exact fin_es s4
  · simp only [if_neg c]; exact Ev.const rfl
end Go.Proofs.Ytnppmhijoaeibaa.H
set_option linter.unusedVariables false
set_option linter.unusedSimpArgs false
namespace Go.Proofs.Ytnppmhijoaeibaa.Pure
open Go.RowKit Go.Proofs.Ytnppmhijoaeibaa.Q Go.Proofs.YtnppmhijoaeibaaW.PrintWords Go.Proofs.YtnppmhijoaeibaaW.PrintLast Go.Proofs.Ytnppmhijoaeibaa.H
theorem eqRequest_same (a0 a1 a2 a3 a4 a5 a6 a7 : Int) (t : ByteArray) : laws_eqRequest.f a0 a1 a2 a3 a4 a5 a6 a7 t a0 a1 a2 a3 a4 a5 a6 a7 t = some true := by
  unfold laws_eqRequest.f laws_eqEdit.f
  simp
theorem FnExactReadRequest : laws_FnExactReadRequest.Pure := by
  intro a0 h0
  refine Ev.rounds ?_
  unfold laws_FnExactReadRequest.f
  by_cases h : (a0.size : Int) > 1048576
  · exact ⟨0, fun k _ => if_pos h⟩
  simp only [if_neg h]
  by_cases hl : (a0.size : Int) > 65536
  · refine Ev.val 0 fun k => ?_
    unfold spec_ReadRequest.f impl_ReadRequest.f impl_isLong.f
    simp only [Option.bind_some, decide_eq_true_eq, if_pos hl, eqRequest_same, if_true]
  · have e1 : Ev (fun k => spec_ReadRequest.f k a0) (readP a0) := by
      refine Ev.congr (fun k => ?_) ((l10ReadRequest_eq (t := a0) (by omega)).bind (f := fun _ r => some r) (Ev.const rfl))
      unfold spec_ReadRequest.f; rw [if_neg hl]
    have e2 : Ev (fun k => impl_ReadRequest.f k a0) (readP a0) := by
      refine Ev.congr (fun k => ?_) ((takeRequest_eq (t := a0) (by omega)).bind (f := fun _ r => some r) (Ev.const rfl))
      unfold impl_ReadRequest.f impl_isLong.f; simp only [Option.bind_some, decide_eq_true_eq]; rw [if_neg hl]
    refine e1.bind (e2.bind (Ev.const ?_))
    simp only [eqRequest_same, Option.bind_some, if_true]
end Go.Proofs.Ytnppmhijoaeibaa.Pure
