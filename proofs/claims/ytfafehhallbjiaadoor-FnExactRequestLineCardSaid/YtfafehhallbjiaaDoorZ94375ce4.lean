/- Several of our texts, one behind the other, without what this claim does not need: PRqbx8, ShItoa, Tab, EdTx, RqTx, PRqlx1, PFnExactRequestLinex1. -/
import Derived.Test.YtfafehhallbjiaaDoorZ48f5b81e
import Derived.Shelf.Strconv.Itoa3
import Derived.Test.YtfafehhallbjiaaDoorProg
import Derived.Test.YtfafehhallbjiaaDoorZ8b953902
import Derived.Lib.AppendIntMem
import Derived.Lib.Hide
import Derived.Deep.LoopGhost
import Derived.Below
import Derived.Deep.Draws
import Derived.Deep.AppendLies
import Derived.Maps.AppendAt
import Derived.OwnWalk
import Derived.Laws.BytesArg
import Derived.Laws.MakeOwn
import Derived.Laws.OwnMore
import Derived.Deep.OwnRows
import Derived.Tactics
import Derived.Lib.ConvBytes
import Derived.Laws.Slices
import Derived.WalkKit
import Derived.KernelRfl
import Derived.RowKit3
import Derived.Deep.QuietTactic
import Derived.BigQuiet
import Derived.WideLaws
import Derived.Deep.DeepCutAuto
import Derived.Deep.CutBlock
import Derived.Deep.RegionHeld3
import Derived.Laws.Rows
import Derived.Lib.AppendStr
import Derived.ArgAppend
import Derived.Laws.IdiomCopy
import Derived.OrdersHeld
import Derived.Laws.BitsLemmas
import Derived.RowKit
import Derived.Test.YtfafehhallbjiaaDoorZ589c4d95
import Derived.Test.YtfafehhallbjiaaDoorZ3dda3251
import Derived.Test.YtfafehhallbjiaaDoorZ894c7e3f
import Derived.Test.YtfafehhallbjiaaDoorZ8038efab
import Derived.Test.YtfafehhallbjiaaDoorZ7a1f0d1f
import Derived.Test.YtfafehhallbjiaaDoorZa157ccb3
import Derived.Test.YtfafehhallbjiaaDoorZ1faa0d61
import Derived.Test.YtfafehhallbjiaaDoorZ739790ef
import Derived.Test.YtfafehhallbjiaaDoorZ2c658ff7
import Derived.Test.YtfafehhallbjiaaDoorZ7d092070
import Derived.Test.YtfafehhallbjiaaDoorZ89fee60e
import Derived.Test.YtfafehhallbjiaaDoorZ61da95c7
namespace Go.Proofs.YtfafehhallbjiaaDoor.Q
open Go.RowKit Go.Proofs.YtfafehhallbjiaaDoorW.PrintWords Go.Proofs.YtfafehhallbjiaaDoorW.PrintLast Go.Proofs.YtfafehhallbjiaaDoorW.PrintMore
open Go.Proofs.YtfafehhallbjiaaDoor.H
attribute [local go_sem] max2_int min2_int max_two min_two max_three min_three max_four min_four
set_option linter.unusedVariables false
set_option linter.unusedSimpArgs false
def laws_toEdit.f (a0_0 : Int) (a0_1 : Int) (a0_2 : Int) (a0_3 : Int) (a0_4 : ByteArray) : Option (Int × Int × Int × Int × ByteArray) := some (a0_0, a0_1, a0_2, a0_3, a0_4)
set_option maxHeartbeats 8000000 in
set_option maxRecDepth 100000 in
theorem laws_toEdit.calls (a0_0 : Int) (a0_1 : Int) (a0_2 : Int) (a0_3 : Int) (a0_4 : ByteArray) (r1 : Int) (r2 : Int) (r3 : Int) (r4 : Int) (r5 : ByteArray) (w : World) (h : laws_toEdit.f a0_0 a0_1 a0_2 a0_3 a0_4 = some (r1, r2, r3, r4, r5)) :
  Calls Tryd.prog 11 #[.agg #[.int .i64 a0_0, .int .i64 a0_1, .int .i64 a0_2, .int .i64 a0_3, .string a0_4]] w fun e w' => e = .returned (.agg #[.int .i64 r1, .int .i64 r2, .int .i64 r3, .int .i64 r4, .string r5]) ∧ Below w.heap.size w w' := by
 have hu23 := Tryd.underlying23
 have hu29 := Tryd.underlying29
 have HB := Aside0.mk (Below.refl w.heap.size w)
 have H : (some (a0_0, a0_1, a0_2, a0_3, a0_4)) = some (r1, r2, r3, r4, r5) := h
 clear h
 simp only [Option.some.injEq, Prod.mk.injEq] at H
 obtain ⟨rfl, rfl, rfl, rfl, rfl⟩ := H
 go_enter Tryd.func11, Tryd.ntmps11
 go_wp2_with (first | ((with_reducible refine gate_dst (N := 1) rfl ?_); refine box_event ?hg (N := 1) ?hd (cs := #[.int .i64 a0_0, .int .i64 a0_1, .int .i64 a0_2, .int .i64 a0_3, .string a0_4]) (t := 23) ?hr ?_; (case hd => rfl); (case hg => rfl); (case hr => first | (go_simp; done) | (go_simp; rfl)); intro gb195 hg w2 hbox hb; have n0_ := Aside0.mk (below_step (by repeat (first | (with_reducible first | exact HB.out | apply below_alloc | apply pw_below_drewN | apply below_drew1) | exact HB.out)) hb); have n1_ := Aside0.mk (hbox); have n2_ := Aside0.mk ((by rw [hg]; exact (below_size (by repeat (first | (with_reducible first | exact HB.out | apply below_alloc | apply pw_below_drewN | apply below_drew1) | exact HB.out))) : w.heap.size ≤ gb195)); have n3_ := Aside0.mk ((by rw [hg]; exact (below_size (by repeat (first | (with_reducible first | exact HB.out | apply below_alloc | apply pw_below_drewN | apply below_drew1) | exact HB.out))) : w.heap.size ≤ gb195)); clear HB; have HB := n0_; have BK195 := n1_; have GW195 := n2_; have GE195 := n3_; clear n0_ n1_ n2_ n3_; clear hb hbox hg) | ((with_reducible refine gate_dst (N := 2) rfl ?_); refine box_event ?hg (N := 2) ?hd (cs := #[.int .i64 0, .int .i64 0, .int .i64 0, .int .i64 0, .string (⟨#[]⟩ : ByteArray)]) (t := 29) ?hr ?_; (case hd => rfl); (case hg => rfl); (case hr => first | (go_simp; done) | (go_simp; rfl)); intro gb196 hg w3 hbox hb; have n0_ := Aside0.mk (blk_below (g := gb195) (o := .cells #[.int .i64 a0_0, .int .i64 a0_1, .int .i64 a0_2, .int .i64 a0_3, .string a0_4] 23 (0, 0)) (by (with_reducible repeat (first | refine blk_drewN ?_ _ | refine blk_drew ?_ | refine blk_alloc ?_ _)); exact BK195.out) hb); have n1_ := Aside0.mk (below_step (by repeat (first | (with_reducible first | exact HB.out | apply below_alloc | apply pw_below_drewN | apply below_drew1 | refine below_set ?_ GE195.out) | exact HB.out)) hb); have n2_ := Aside0.mk (hbox); have n3_ := Aside0.mk ((by rw [hg]; exact (below_size (by repeat (first | (with_reducible first | exact HB.out | apply below_alloc | apply pw_below_drewN | apply below_drew1 | refine below_set ?_ GE195.out) | exact HB.out))) : w.heap.size ≤ gb196)); have n4_ := Aside0.mk ((by rw [hg]; exact (below_size (by repeat (first | (with_reducible first | exact HB.out | apply below_alloc | apply pw_below_drewN | apply below_drew1 | refine below_set ?_ GE195.out) | exact HB.out))) : w.heap.size ≤ gb196)); have n5_ := Aside0.mk ((by rw [hg]; exact Nat.ne_of_lt (blk_lt (g := gb195) (o := .cells #[.int .i64 a0_0, .int .i64 a0_1, .int .i64 a0_2, .int .i64 a0_3, .string a0_4] 23 (0, 0)) (by (with_reducible repeat (first | refine blk_drewN ?_ _ | refine blk_drew ?_ | refine blk_alloc ?_ _)); exact BK195.out)) : gb195 ≠ gb196)); have n6_ := Aside0.mk ((by rw [hg]; exact Nat.ne_of_gt (blk_lt (g := gb195) (o := .cells #[.int .i64 a0_0, .int .i64 a0_1, .int .i64 a0_2, .int .i64 a0_3, .string a0_4] 23 (0, 0)) (by (with_reducible repeat (first | refine blk_drewN ?_ _ | refine blk_drew ?_ | refine blk_alloc ?_ _)); exact BK195.out)) : gb196 ≠ gb195)); clear BK195; clear HB; have BK195 := n0_; have HB := n1_; have BK196 := n2_; have GW196 := n3_; have GE196 := n4_; have NB195_196 := n5_; have NB196_195 := n6_; clear n0_ n1_ n2_ n3_ n4_ n5_ n6_; clear hb hbox hg) | ((with_reducible refine gate_dst (N := 3) rfl ?_); refine box_event ?hg (N := 3) ?hd (cs := #[.int .i64 0, .int .i64 0, .int .i64 0, .int .i64 0, .string (⟨#[]⟩ : ByteArray)]) (t := 29) ?hr ?_; (case hd => rfl); (case hg => rfl); (case hr => first | (go_simp; done) | (go_simp; rfl)); intro gb197 hg w4 hbox hb; have n0_ := Aside0.mk (blk_below (g := gb195) (o := .cells #[.int .i64 a0_0, .int .i64 a0_1, .int .i64 a0_2, .int .i64 a0_3, .string a0_4] 23 (0, 0)) (by (with_reducible repeat (first | refine blk_drewN ?_ _ | refine blk_drew ?_ | refine blk_alloc ?_ _)); exact BK195.out) hb); have n1_ := Aside0.mk (blk_below (g := gb196) (o := .cells #[.int .i64 0, .int .i64 0, .int .i64 0, .int .i64 0, .string (⟨#[]⟩ : ByteArray)] 29 (0, 0)) (by (with_reducible repeat (first | refine blk_drewN ?_ _ | refine blk_drew ?_ | refine blk_alloc ?_ _)); exact BK196.out) hb); have n2_ := Aside0.mk (below_step (by repeat (first | (with_reducible first | exact HB.out | apply below_alloc | apply pw_below_drewN | apply below_drew1 | refine below_set ?_ GE195.out | refine below_set ?_ GE196.out) | exact HB.out)) hb); have n3_ := Aside0.mk (hbox); have n4_ := Aside0.mk ((by rw [hg]; exact (below_size (by repeat (first | (with_reducible first | exact HB.out | apply below_alloc | apply pw_below_drewN | apply below_drew1 | refine below_set ?_ GE195.out | refine below_set ?_ GE196.out) | exact HB.out))) : w.heap.size ≤ gb197)); have n5_ := Aside0.mk ((by rw [hg]; exact (below_size (by repeat (first | (with_reducible first | exact HB.out | apply below_alloc | apply pw_below_drewN | apply below_drew1 | refine below_set ?_ GE195.out | refine below_set ?_ GE196.out) | exact HB.out))) : w.heap.size ≤ gb197)); have n6_ := Aside0.mk ((by rw [hg]; exact Nat.ne_of_lt (blk_lt (g := gb195) (o := .cells #[.int .i64 a0_0, .int .i64 a0_1, .int .i64 a0_2, .int .i64 a0_3, .string a0_4] 23 (0, 0)) (by (with_reducible repeat (first | refine blk_drewN ?_ _ | refine blk_drew ?_ | refine blk_alloc ?_ _)); exact BK195.out)) : gb195 ≠ gb197)); have n7_ := Aside0.mk ((by rw [hg]; exact Nat.ne_of_gt (blk_lt (g := gb195) (o := .cells #[.int .i64 a0_0, .int .i64 a0_1, .int .i64 a0_2, .int .i64 a0_3, .string a0_4] 23 (0, 0)) (by (with_reducible repeat (first | refine blk_drewN ?_ _ | refine blk_drew ?_ | refine blk_alloc ?_ _)); exact BK195.out)) : gb197 ≠ gb195)); have n8_ := Aside0.mk ((by rw [hg]; exact Nat.ne_of_lt (blk_lt (g := gb196) (o := .cells #[.int .i64 0, .int .i64 0, .int .i64 0, .int .i64 0, .string (⟨#[]⟩ : ByteArray)] 29 (0, 0)) (by (with_reducible repeat (first | refine blk_drewN ?_ _ | refine blk_drew ?_ | refine blk_alloc ?_ _)); exact BK196.out)) : gb196 ≠ gb197)); have n9_ := Aside0.mk ((by rw [hg]; exact Nat.ne_of_gt (blk_lt (g := gb196) (o := .cells #[.int .i64 0, .int .i64 0, .int .i64 0, .int .i64 0, .string (⟨#[]⟩ : ByteArray)] 29 (0, 0)) (by (with_reducible repeat (first | refine blk_drewN ?_ _ | refine blk_drew ?_ | refine blk_alloc ?_ _)); exact BK196.out)) : gb197 ≠ gb196)); clear BK195; clear BK196; clear HB; have BK195 := n0_; have BK196 := n1_; have HB := n2_; have BK197 := n3_; have GW197 := n4_; have GE197 := n5_; have NB195_197 := n6_; have NB197_195 := n7_; have NB196_197 := n8_; have NB197_196 := n9_; clear n0_ n1_ n2_ n3_ n4_ n5_ n6_ n7_ n8_ n9_; clear hb hbox hg; have hnb5 := NB195_196.out; have hnc5 := NB196_195.out; have hnb6 := NB195_197.out; have hnc6 := NB197_195.out; have hcz7_0 : w4.cell? ⟨gb195, 0, none⟩ = some (.int .i64 a0_0) := (blk_cell BK195.out 0).trans rfl; have hcz7_1 : w4.cell? ⟨gb195, 1, none⟩ = some (.int .i64 a0_1) := (blk_cell BK195.out 1).trans rfl; have hcz7_2 : w4.cell? ⟨gb195, 2, none⟩ = some (.int .i64 a0_2) := (blk_cell BK195.out 2).trans rfl; have hcz7_3 : w4.cell? ⟨gb195, 3, none⟩ = some (.int .i64 a0_3) := (blk_cell BK195.out 3).trans rfl; have hcz7_4 : w4.cell? ⟨gb195, 4, none⟩ = some (.string a0_4) := (blk_cell BK195.out 4).trans rfl; have hfz7_0 := blk_frozen BK195.out 0; have hfz7_1 := blk_frozen BK195.out 1; have hfz7_2 := blk_frozen BK195.out 2; have hfz7_3 := blk_frozen BK195.out 3; have hfz7_4 := blk_frozen BK195.out 4; have hnb8 := NB197_196.out; have hnc8 := NB196_197.out; have hcz9_0 : w4.cell? ⟨gb197, 0, none⟩ = some (.int .i64 0) := (blk_cell BK197.out 0).trans rfl; have hcz9_1 : w4.cell? ⟨gb197, 1, none⟩ = some (.int .i64 0) := (blk_cell BK197.out 1).trans rfl; have hcz9_2 : w4.cell? ⟨gb197, 2, none⟩ = some (.int .i64 0) := (blk_cell BK197.out 2).trans rfl; have hcz9_3 : w4.cell? ⟨gb197, 3, none⟩ = some (.int .i64 0) := (blk_cell BK197.out 3).trans rfl; have hcz9_4 : w4.cell? ⟨gb197, 4, none⟩ = some (.string (⟨#[]⟩ : ByteArray)) := (blk_cell BK197.out 4).trans rfl; have hfz9_0 := blk_frozen BK197.out 0; have hfz9_1 := blk_frozen BK197.out 1; have hfz9_2 := blk_frozen BK197.out 2; have hfz9_3 := blk_frozen BK197.out 3; have hfz9_4 := blk_frozen BK197.out 4; have hcz10_0 : w4.cell? ⟨gb196, 0, none⟩ = some (.int .i64 0) := (blk_cell BK196.out 0).trans rfl; have hcz10_1 : w4.cell? ⟨gb196, 1, none⟩ = some (.int .i64 0) := (blk_cell BK196.out 1).trans rfl; have hcz10_2 : w4.cell? ⟨gb196, 2, none⟩ = some (.int .i64 0) := (blk_cell BK196.out 2).trans rfl; have hcz10_3 : w4.cell? ⟨gb196, 3, none⟩ = some (.int .i64 0) := (blk_cell BK196.out 3).trans rfl; have hcz10_4 : w4.cell? ⟨gb196, 4, none⟩ = some (.string (⟨#[]⟩ : ByteArray)) := (blk_cell BK196.out 4).trans rfl; have hfz10_0 := blk_frozen BK196.out 0; have hfz10_1 := blk_frozen BK196.out 1; have hfz10_2 := blk_frozen BK196.out 2; have hfz10_3 := blk_frozen BK196.out 3; have hfz10_4 := blk_frozen BK196.out 4))
 refine bodyPost_ret (results_cell_row rfl _ _ gb196 29 #[.int .i64 a0_0, .int .i64 a0_1, .int .i64 a0_2, .int .i64 a0_3, .string a0_4] (0, 0) _ rfl (by (with_reducible repeat (first | refine blk_drewN ?_ _ | refine blk_drew ?_ | refine blk_alloc ?_ _)); refine blk_put (cs := #[.int .i64 a0_0, .int .i64 a0_1, .int .i64 a0_2, .int .i64 a0_3, .string (⟨#[]⟩ : ByteArray)]) ?_ 4 _ rfl; (with_reducible repeat (first | refine blk_drewN ?_ _ | refine blk_drew ?_ | refine blk_alloc ?_ _)); refine blk_put (cs := #[.int .i64 a0_0, .int .i64 a0_1, .int .i64 a0_2, .int .i64 0, .string (⟨#[]⟩ : ByteArray)]) ?_ 3 _ rfl; (with_reducible repeat (first | refine blk_drewN ?_ _ | refine blk_drew ?_ | refine blk_alloc ?_ _)); refine blk_put (cs := #[.int .i64 a0_0, .int .i64 a0_1, .int .i64 0, .int .i64 0, .string (⟨#[]⟩ : ByteArray)]) ?_ 2 _ rfl; (with_reducible repeat (first | refine blk_drewN ?_ _ | refine blk_drew ?_ | refine blk_alloc ?_ _)); refine blk_put (cs := #[.int .i64 a0_0, .int .i64 0, .int .i64 0, .int .i64 0, .string (⟨#[]⟩ : ByteArray)]) ?_ 1 _ rfl; (with_reducible repeat (first | refine blk_drewN ?_ _ | refine blk_drew ?_ | refine blk_alloc ?_ _)); refine blk_put (cs := #[.int .i64 0, .int .i64 0, .int .i64 0, .int .i64 0, .string (⟨#[]⟩ : ByteArray)]) ?_ 0 _ rfl; (with_reducible repeat (first | refine blk_drewN ?_ _ | refine blk_drew ?_ | refine blk_alloc ?_ _)); refine blk_far ?_ NB196_197.out _; (with_reducible repeat (first | refine blk_drewN ?_ _ | refine blk_drew ?_ | refine blk_alloc ?_ _)); refine blk_far ?_ NB196_197.out _; (with_reducible repeat (first | refine blk_drewN ?_ _ | refine blk_drew ?_ | refine blk_alloc ?_ _)); refine blk_far ?_ NB196_197.out _; (with_reducible repeat (first | refine blk_drewN ?_ _ | refine blk_drew ?_ | refine blk_alloc ?_ _)); refine blk_far ?_ NB196_197.out _; (with_reducible repeat (first | refine blk_drewN ?_ _ | refine blk_drew ?_ | refine blk_alloc ?_ _)); refine blk_far ?_ NB196_197.out _; (with_reducible repeat (first | refine blk_drewN ?_ _ | refine blk_drew ?_ | refine blk_alloc ?_ _)); exact BK196.out) Tryd.underlying29 rfl (by kernel_rfl)) rfl ?_
 exact ⟨by first | rfl | (simp [errW_none, errW_some] <;> rfl) | (simp [*, errW_none, errW_some] <;> rfl), by repeat (first | (with_reducible first | exact HB.out | apply below_alloc | apply pw_below_drewN | apply below_drew1 | refine below_set ?_ GE195.out | refine below_set ?_ GE196.out | refine below_set ?_ GE197.out) | exact HB.out)⟩
def laws_toRequest.f (a0_0 : Int) (a0_1 : Int) (a0_2 : Int) (a0_3 : Int) (a0_4 : Int) (a0_5 : Int) (a0_6 : Int) (a0_7 : Int) (a0_8 : ByteArray) : Option (Int × Int × Int × Int × Int × Int × Int × Int × ByteArray) := (laws_toEdit.f a0_4 a0_5 a0_6 a0_7 a0_8).bind fun bt201 => (some (a0_0, a0_1, a0_2, a0_3, bt201.1, bt201.2.1, bt201.2.2.1, bt201.2.2.2.1, bt201.2.2.2.2))
set_option maxHeartbeats 8000000 in
set_option maxRecDepth 100000 in
theorem laws_toRequest.calls (a0_0 : Int) (a0_1 : Int) (a0_2 : Int) (a0_3 : Int) (a0_4 : Int) (a0_5 : Int) (a0_6 : Int) (a0_7 : Int) (a0_8 : ByteArray) (r1 : Int) (r2 : Int) (r3 : Int) (r4 : Int) (r5 : Int) (r6 : Int) (r7 : Int) (r8 : Int) (r9 : ByteArray) (w : World) (h : laws_toRequest.f a0_0 a0_1 a0_2 a0_3 a0_4 a0_5 a0_6 a0_7 a0_8 = some (r1, r2, r3, r4, r5, r6, r7, r8, r9)) :
  Calls Tryd.prog 6 #[.agg #[.int .i64 a0_0, .int .i64 a0_1, .int .i64 a0_2, .int .i64 a0_3, .int .i64 a0_4, .int .i64 a0_5, .int .i64 a0_6, .int .i64 a0_7, .string a0_8]] w fun e w' => e = .returned (.agg #[.int .i64 r1, .int .i64 r2, .int .i64 r3, .int .i64 r4, .int .i64 r5, .int .i64 r6, .int .i64 r7, .int .i64 r8, .string r9]) ∧ Below w.heap.size w w' := by
 have hu25 := Tryd.underlying25
 have hu31 := Tryd.underlying31
 have hu23 := Tryd.underlying23
 have hu29 := Tryd.underlying29
 have HB := Aside0.mk (Below.refl w.heap.size w)
 have H : ((laws_toEdit.f a0_4 a0_5 a0_6 a0_7 a0_8).bind fun bt201 => (some (a0_0, a0_1, a0_2, a0_3, bt201.1, bt201.2.1, bt201.2.2.1, bt201.2.2.2.1, bt201.2.2.2.2))) = some (r1, r2, r3, r4, r5, r6, r7, r8, r9) := h
 clear h
 replace H := Option.bind_eq_some_iff.mp H
 obtain ⟨⟨t201, t202, t203, t204, t205⟩, A20, H⟩ := H
 replace H : (some (a0_0, a0_1, a0_2, a0_3, t201, t202, t203, t204, t205)) = some (r1, r2, r3, r4, r5, r6, r7, r8, r9) := H
 have A2 := Aside0.mk A20
 clear A20
 simp only [Option.some.injEq, Prod.mk.injEq] at H
 obtain ⟨rfl, rfl, rfl, rfl, rfl, rfl, rfl, rfl, rfl⟩ := H
 go_enter Tryd.func6, Tryd.ntmps6
 go_wp2_with (first | ((with_reducible refine gate_dst (N := 1) rfl ?_); refine box_event ?hg (N := 1) ?hd (cs := #[.int .i64 a0_0, .int .i64 a0_1, .int .i64 a0_2, .int .i64 a0_3, .int .i64 a0_4, .int .i64 a0_5, .int .i64 a0_6, .int .i64 a0_7, .string a0_8]) (t := 25) ?hr ?_; (case hd => rfl); (case hg => rfl); (case hr => first | (go_simp; done) | (go_simp; rfl)); intro gb198 hg w3 hbox hb; have n0_ := Aside0.mk (below_step (by repeat (first | (with_reducible first | exact HB.out | apply below_alloc | apply pw_below_drewN | apply below_drew1) | exact HB.out)) hb); have n1_ := Aside0.mk (hbox); have n2_ := Aside0.mk ((by rw [hg]; exact (below_size (by repeat (first | (with_reducible first | exact HB.out | apply below_alloc | apply pw_below_drewN | apply below_drew1) | exact HB.out))) : w.heap.size ≤ gb198)); have n3_ := Aside0.mk ((by rw [hg]; exact (below_size (by repeat (first | (with_reducible first | exact HB.out | apply below_alloc | apply pw_below_drewN | apply below_drew1) | exact HB.out))) : w.heap.size ≤ gb198)); clear HB; have HB := n0_; have BK198 := n1_; have GW198 := n2_; have GE198 := n3_; clear n0_ n1_ n2_ n3_; clear hb hbox hg) | ((with_reducible refine gate_dst (N := 2) rfl ?_); refine box_event ?hg (N := 2) ?hd (cs := #[.int .i64 0, .int .i64 0, .int .i64 0, .int .i64 0, .int .i64 0, .int .i64 0, .int .i64 0, .int .i64 0, .string (⟨#[]⟩ : ByteArray)]) (t := 31) ?hr ?_; (case hd => rfl); (case hg => rfl); (case hr => first | (go_simp; done) | (go_simp; rfl)); intro gb199 hg w4 hbox hb; have n0_ := Aside0.mk (blk_below (g := gb198) (o := .cells #[.int .i64 a0_0, .int .i64 a0_1, .int .i64 a0_2, .int .i64 a0_3, .int .i64 a0_4, .int .i64 a0_5, .int .i64 a0_6, .int .i64 a0_7, .string a0_8] 25 (0, 0)) (by (with_reducible repeat (first | refine blk_drewN ?_ _ | refine blk_drew ?_ | refine blk_alloc ?_ _)); exact BK198.out) hb); have n1_ := Aside0.mk (below_step (by repeat (first | (with_reducible first | exact HB.out | apply below_alloc | apply pw_below_drewN | apply below_drew1 | refine below_set ?_ GE198.out) | exact HB.out)) hb); have n2_ := Aside0.mk (hbox); have n3_ := Aside0.mk ((by rw [hg]; exact (below_size (by repeat (first | (with_reducible first | exact HB.out | apply below_alloc | apply pw_below_drewN | apply below_drew1 | refine below_set ?_ GE198.out) | exact HB.out))) : w.heap.size ≤ gb199)); have n4_ := Aside0.mk ((by rw [hg]; exact (below_size (by repeat (first | (with_reducible first | exact HB.out | apply below_alloc | apply pw_below_drewN | apply below_drew1 | refine below_set ?_ GE198.out) | exact HB.out))) : w.heap.size ≤ gb199)); have n5_ := Aside0.mk ((by rw [hg]; exact Nat.ne_of_lt (blk_lt (g := gb198) (o := .cells #[.int .i64 a0_0, .int .i64 a0_1, .int .i64 a0_2, .int .i64 a0_3, .int .i64 a0_4, .int .i64 a0_5, .int .i64 a0_6, .int .i64 a0_7, .string a0_8] 25 (0, 0)) (by (with_reducible repeat (first | refine blk_drewN ?_ _ | refine blk_drew ?_ | refine blk_alloc ?_ _)); exact BK198.out)) : gb198 ≠ gb199)); have n6_ := Aside0.mk ((by rw [hg]; exact Nat.ne_of_gt (blk_lt (g := gb198) (o := .cells #[.int .i64 a0_0, .int .i64 a0_1, .int .i64 a0_2, .int .i64 a0_3, .int .i64 a0_4, .int .i64 a0_5, .int .i64 a0_6, .int .i64 a0_7, .string a0_8] 25 (0, 0)) (by (with_reducible repeat (first | refine blk_drewN ?_ _ | refine blk_drew ?_ | refine blk_alloc ?_ _)); exact BK198.out)) : gb199 ≠ gb198)); clear BK198; clear HB; have BK198 := n0_; have HB := n1_; have BK199 := n2_; have GW199 := n3_; have GE199 := n4_; have NB198_199 := n5_; have NB199_198 := n6_; clear n0_ n1_ n2_ n3_ n4_ n5_ n6_; clear hb hbox hg) | ((with_reducible refine gate_dst (N := 3) rfl ?_); refine box_event ?hg (N := 3) ?hd (cs := #[.int .i64 0, .int .i64 0, .int .i64 0, .int .i64 0, .int .i64 0, .int .i64 0, .int .i64 0, .int .i64 0, .string (⟨#[]⟩ : ByteArray)]) (t := 31) ?hr ?_; (case hd => rfl); (case hg => rfl); (case hr => first | (go_simp; done) | (go_simp; rfl)); intro gb200 hg w5 hbox hb; have n0_ := Aside0.mk (blk_below (g := gb198) (o := .cells #[.int .i64 a0_0, .int .i64 a0_1, .int .i64 a0_2, .int .i64 a0_3, .int .i64 a0_4, .int .i64 a0_5, .int .i64 a0_6, .int .i64 a0_7, .string a0_8] 25 (0, 0)) (by (with_reducible repeat (first | refine blk_drewN ?_ _ | refine blk_drew ?_ | refine blk_alloc ?_ _)); exact BK198.out) hb); have n1_ := Aside0.mk (blk_below (g := gb199) (o := .cells #[.int .i64 0, .int .i64 0, .int .i64 0, .int .i64 0, .int .i64 0, .int .i64 0, .int .i64 0, .int .i64 0, .string (⟨#[]⟩ : ByteArray)] 31 (0, 0)) (by (with_reducible repeat (first | refine blk_drewN ?_ _ | refine blk_drew ?_ | refine blk_alloc ?_ _)); exact BK199.out) hb); have n2_ := Aside0.mk (below_step (by repeat (first | (with_reducible first | exact HB.out | apply below_alloc | apply pw_below_drewN | apply below_drew1 | refine below_set ?_ GE198.out | refine below_set ?_ GE199.out) | exact HB.out)) hb); have n3_ := Aside0.mk (hbox); have n4_ := Aside0.mk ((by rw [hg]; exact (below_size (by repeat (first | (with_reducible first | exact HB.out | apply below_alloc | apply pw_below_drewN | apply below_drew1 | refine below_set ?_ GE198.out | refine below_set ?_ GE199.out) | exact HB.out))) : w.heap.size ≤ gb200)); have n5_ := Aside0.mk ((by rw [hg]; exact (below_size (by repeat (first | (with_reducible first | exact HB.out | apply below_alloc | apply pw_below_drewN | apply below_drew1 | refine below_set ?_ GE198.out | refine below_set ?_ GE199.out) | exact HB.out))) : w.heap.size ≤ gb200)); have n6_ := Aside0.mk ((by rw [hg]; exact Nat.ne_of_lt (blk_lt (g := gb198) (o := .cells #[.int .i64 a0_0, .int .i64 a0_1, .int .i64 a0_2, .int .i64 a0_3, .int .i64 a0_4, .int .i64 a0_5, .int .i64 a0_6, .int .i64 a0_7, .string a0_8] 25 (0, 0)) (by (with_reducible repeat (first | refine blk_drewN ?_ _ | refine blk_drew ?_ | refine blk_alloc ?_ _)); exact BK198.out)) : gb198 ≠ gb200)); have n7_ := Aside0.mk ((by rw [hg]; exact Nat.ne_of_gt (blk_lt (g := gb198) (o := .cells #[.int .i64 a0_0, .int .i64 a0_1, .int .i64 a0_2, .int .i64 a0_3, .int .i64 a0_4, .int .i64 a0_5, .int .i64 a0_6, .int .i64 a0_7, .string a0_8] 25 (0, 0)) (by (with_reducible repeat (first | refine blk_drewN ?_ _ | refine blk_drew ?_ | refine blk_alloc ?_ _)); exact BK198.out)) : gb200 ≠ gb198)); have n8_ := Aside0.mk ((by rw [hg]; exact Nat.ne_of_lt (blk_lt (g := gb199) (o := .cells #[.int .i64 0, .int .i64 0, .int .i64 0, .int .i64 0, .int .i64 0, .int .i64 0, .int .i64 0, .int .i64 0, .string (⟨#[]⟩ : ByteArray)] 31 (0, 0)) (by (with_reducible repeat (first | refine blk_drewN ?_ _ | refine blk_drew ?_ | refine blk_alloc ?_ _)); exact BK199.out)) : gb199 ≠ gb200)); have n9_ := Aside0.mk ((by rw [hg]; exact Nat.ne_of_gt (blk_lt (g := gb199) (o := .cells #[.int .i64 0, .int .i64 0, .int .i64 0, .int .i64 0, .int .i64 0, .int .i64 0, .int .i64 0, .int .i64 0, .string (⟨#[]⟩ : ByteArray)] 31 (0, 0)) (by (with_reducible repeat (first | refine blk_drewN ?_ _ | refine blk_drew ?_ | refine blk_alloc ?_ _)); exact BK199.out)) : gb200 ≠ gb199)); clear BK198; clear BK199; clear HB; have BK198 := n0_; have BK199 := n1_; have HB := n2_; have BK200 := n3_; have GW200 := n4_; have GE200 := n5_; have NB198_200 := n6_; have NB200_198 := n7_; have NB199_200 := n8_; have NB200_199 := n9_; clear n0_ n1_ n2_ n3_ n4_ n5_ n6_ n7_ n8_ n9_; clear hb hbox hg; have hnb6 := NB198_199.out; have hnc6 := NB199_198.out; have hnb7 := NB198_200.out; have hnc7 := NB200_198.out; have hcz8_0 : w5.cell? ⟨gb198, 0, none⟩ = some (.int .i64 a0_0) := (blk_cell BK198.out 0).trans rfl; have hcz8_1 : w5.cell? ⟨gb198, 1, none⟩ = some (.int .i64 a0_1) := (blk_cell BK198.out 1).trans rfl; have hcz8_2 : w5.cell? ⟨gb198, 2, none⟩ = some (.int .i64 a0_2) := (blk_cell BK198.out 2).trans rfl; have hcz8_3 : w5.cell? ⟨gb198, 3, none⟩ = some (.int .i64 a0_3) := (blk_cell BK198.out 3).trans rfl; have hcz8_4 : w5.cell? ⟨gb198, 4, none⟩ = some (.int .i64 a0_4) := (blk_cell BK198.out 4).trans rfl; have hcz8_5 : w5.cell? ⟨gb198, 5, none⟩ = some (.int .i64 a0_5) := (blk_cell BK198.out 5).trans rfl; have hcz8_6 : w5.cell? ⟨gb198, 6, none⟩ = some (.int .i64 a0_6) := (blk_cell BK198.out 6).trans rfl; have hcz8_7 : w5.cell? ⟨gb198, 7, none⟩ = some (.int .i64 a0_7) := (blk_cell BK198.out 7).trans rfl; have hcz8_8 : w5.cell? ⟨gb198, 8, none⟩ = some (.string a0_8) := (blk_cell BK198.out 8).trans rfl; have hfz8_0 := blk_frozen BK198.out 0; have hfz8_1 := blk_frozen BK198.out 1; have hfz8_2 := blk_frozen BK198.out 2; have hfz8_3 := blk_frozen BK198.out 3; have hfz8_4 := blk_frozen BK198.out 4; have hfz8_5 := blk_frozen BK198.out 5; have hfz8_6 := blk_frozen BK198.out 6; have hfz8_7 := blk_frozen BK198.out 7; have hfz8_8 := blk_frozen BK198.out 8; have hnb9 := NB200_199.out; have hnc9 := NB199_200.out; have hcz10_0 : w5.cell? ⟨gb200, 0, none⟩ = some (.int .i64 0) := (blk_cell BK200.out 0).trans rfl; have hcz10_1 : w5.cell? ⟨gb200, 1, none⟩ = some (.int .i64 0) := (blk_cell BK200.out 1).trans rfl; have hcz10_2 : w5.cell? ⟨gb200, 2, none⟩ = some (.int .i64 0) := (blk_cell BK200.out 2).trans rfl; have hcz10_3 : w5.cell? ⟨gb200, 3, none⟩ = some (.int .i64 0) := (blk_cell BK200.out 3).trans rfl; have hcz10_4 : w5.cell? ⟨gb200, 4, none⟩ = some (.int .i64 0) := (blk_cell BK200.out 4).trans rfl; have hcz10_5 : w5.cell? ⟨gb200, 5, none⟩ = some (.int .i64 0) := (blk_cell BK200.out 5).trans rfl; have hcz10_6 : w5.cell? ⟨gb200, 6, none⟩ = some (.int .i64 0) := (blk_cell BK200.out 6).trans rfl; have hcz10_7 : w5.cell? ⟨gb200, 7, none⟩ = some (.int .i64 0) := (blk_cell BK200.out 7).trans rfl; have hcz10_8 : w5.cell? ⟨gb200, 8, none⟩ = some (.string (⟨#[]⟩ : ByteArray)) := (blk_cell BK200.out 8).trans rfl; have hfz10_0 := blk_frozen BK200.out 0; have hfz10_1 := blk_frozen BK200.out 1; have hfz10_2 := blk_frozen BK200.out 2; have hfz10_3 := blk_frozen BK200.out 3; have hfz10_4 := blk_frozen BK200.out 4; have hfz10_5 := blk_frozen BK200.out 5; have hfz10_6 := blk_frozen BK200.out 6; have hfz10_7 := blk_frozen BK200.out 7; have hfz10_8 := blk_frozen BK200.out 8) | ((with_reducible refine gate_callee (f := 11) rfl ?_); refine goesL_ (some 18) rfl rfl Tryd.func11 (by kernel_rfl) rfl #[.agg #[.int .i64 a0_4, .int .i64 a0_5, .int .i64 a0_6, .int .i64 a0_7, .string a0_8]] rfl (by (try simp only [List.map_toArray, List.map_cons, List.map_nil]); first | done | rfl | (simp only [List.length_drop, List.length_take]; rfl)) ?_; (with_reducible refine (laws_toEdit.calls a0_4 a0_5 a0_6 a0_7 a0_8 t201 t202 t203 t204 t205 _ A2.out).mono ?_); rintro e w11 ⟨rfl, hb⟩; refine ⟨_, rfl, ?_⟩; have n0_ := Aside0.mk (blk_below (g := gb198) (o := .cells #[.int .i64 a0_0, .int .i64 a0_1, .int .i64 a0_2, .int .i64 a0_3, .int .i64 a0_4, .int .i64 a0_5, .int .i64 a0_6, .int .i64 a0_7, .string a0_8] 25 (0, 0)) (by (with_reducible repeat (first | refine blk_drewN ?_ _ | refine blk_drew ?_ | refine blk_alloc ?_ _)); refine blk_far ?_ NB198_200.out _; (with_reducible repeat (first | refine blk_drewN ?_ _ | refine blk_drew ?_ | refine blk_alloc ?_ _)); refine blk_far ?_ NB198_200.out _; (with_reducible repeat (first | refine blk_drewN ?_ _ | refine blk_drew ?_ | refine blk_alloc ?_ _)); refine blk_far ?_ NB198_200.out _; (with_reducible repeat (first | refine blk_drewN ?_ _ | refine blk_drew ?_ | refine blk_alloc ?_ _)); refine blk_far ?_ NB198_200.out _; (with_reducible repeat (first | refine blk_drewN ?_ _ | refine blk_drew ?_ | refine blk_alloc ?_ _)); exact BK198.out) hb); have n1_ := Aside0.mk (blk_below (g := gb199) (o := .cells #[.int .i64 0, .int .i64 0, .int .i64 0, .int .i64 0, .int .i64 0, .int .i64 0, .int .i64 0, .int .i64 0, .string (⟨#[]⟩ : ByteArray)] 31 (0, 0)) (by (with_reducible repeat (first | refine blk_drewN ?_ _ | refine blk_drew ?_ | refine blk_alloc ?_ _)); refine blk_far ?_ NB199_200.out _; (with_reducible repeat (first | refine blk_drewN ?_ _ | refine blk_drew ?_ | refine blk_alloc ?_ _)); refine blk_far ?_ NB199_200.out _; (with_reducible repeat (first | refine blk_drewN ?_ _ | refine blk_drew ?_ | refine blk_alloc ?_ _)); refine blk_far ?_ NB199_200.out _; (with_reducible repeat (first | refine blk_drewN ?_ _ | refine blk_drew ?_ | refine blk_alloc ?_ _)); refine blk_far ?_ NB199_200.out _; (with_reducible repeat (first | refine blk_drewN ?_ _ | refine blk_drew ?_ | refine blk_alloc ?_ _)); exact BK199.out) hb); have n2_ := Aside0.mk (blk_below (g := gb200) (o := .cells #[.int .i64 a0_0, .int .i64 a0_1, .int .i64 a0_2, .int .i64 a0_3, .int .i64 0, .int .i64 0, .int .i64 0, .int .i64 0, .string (⟨#[]⟩ : ByteArray)] 31 (0, 0)) (by (with_reducible repeat (first | refine blk_drewN ?_ _ | refine blk_drew ?_ | refine blk_alloc ?_ _)); refine blk_put (cs := #[.int .i64 a0_0, .int .i64 a0_1, .int .i64 a0_2, .int .i64 0, .int .i64 0, .int .i64 0, .int .i64 0, .int .i64 0, .string (⟨#[]⟩ : ByteArray)]) ?_ 3 _ rfl; (with_reducible repeat (first | refine blk_drewN ?_ _ | refine blk_drew ?_ | refine blk_alloc ?_ _)); refine blk_put (cs := #[.int .i64 a0_0, .int .i64 a0_1, .int .i64 0, .int .i64 0, .int .i64 0, .int .i64 0, .int .i64 0, .int .i64 0, .string (⟨#[]⟩ : ByteArray)]) ?_ 2 _ rfl; (with_reducible repeat (first | refine blk_drewN ?_ _ | refine blk_drew ?_ | refine blk_alloc ?_ _)); refine blk_put (cs := #[.int .i64 a0_0, .int .i64 0, .int .i64 0, .int .i64 0, .int .i64 0, .int .i64 0, .int .i64 0, .int .i64 0, .string (⟨#[]⟩ : ByteArray)]) ?_ 1 _ rfl; (with_reducible repeat (first | refine blk_drewN ?_ _ | refine blk_drew ?_ | refine blk_alloc ?_ _)); refine blk_put (cs := #[.int .i64 0, .int .i64 0, .int .i64 0, .int .i64 0, .int .i64 0, .int .i64 0, .int .i64 0, .int .i64 0, .string (⟨#[]⟩ : ByteArray)]) ?_ 0 _ rfl; (with_reducible repeat (first | refine blk_drewN ?_ _ | refine blk_drew ?_ | refine blk_alloc ?_ _)); exact BK200.out) hb); have n3_ := Aside0.mk (below_step (by repeat (first | (with_reducible first | exact HB.out | apply below_alloc | apply pw_below_drewN | apply below_drew1 | refine below_set ?_ GE198.out | refine below_set ?_ GE199.out | refine below_set ?_ GE200.out) | exact HB.out)) hb); clear BK198; clear BK199; clear BK200; clear HB; have BK198 := n0_; have BK199 := n1_; have BK200 := n2_; have HB := n3_; clear n0_ n1_ n2_ n3_; (try clear hb); (try clear hb2); (try clear hk); (try clear hi); have hcz12_0 : w11.cell? ⟨gb200, 0, none⟩ = some (.int .i64 a0_0) := (blk_cell BK200.out 0).trans rfl; have hcz12_1 : w11.cell? ⟨gb200, 1, none⟩ = some (.int .i64 a0_1) := (blk_cell BK200.out 1).trans rfl; have hcz12_2 : w11.cell? ⟨gb200, 2, none⟩ = some (.int .i64 a0_2) := (blk_cell BK200.out 2).trans rfl; have hcz12_3 : w11.cell? ⟨gb200, 3, none⟩ = some (.int .i64 a0_3) := (blk_cell BK200.out 3).trans rfl; have hcz12_4 : w11.cell? ⟨gb200, 4, none⟩ = some (.int .i64 0) := (blk_cell BK200.out 4).trans rfl; have hcz12_5 : w11.cell? ⟨gb200, 5, none⟩ = some (.int .i64 0) := (blk_cell BK200.out 5).trans rfl; have hcz12_6 : w11.cell? ⟨gb200, 6, none⟩ = some (.int .i64 0) := (blk_cell BK200.out 6).trans rfl; have hcz12_7 : w11.cell? ⟨gb200, 7, none⟩ = some (.int .i64 0) := (blk_cell BK200.out 7).trans rfl; have hcz12_8 : w11.cell? ⟨gb200, 8, none⟩ = some (.string (⟨#[]⟩ : ByteArray)) := (blk_cell BK200.out 8).trans rfl; have hfz12_0 := blk_frozen BK200.out 0; have hfz12_1 := blk_frozen BK200.out 1; have hfz12_2 := blk_frozen BK200.out 2; have hfz12_3 := blk_frozen BK200.out 3; have hfz12_4 := blk_frozen BK200.out 4; have hfz12_5 := blk_frozen BK200.out 5; have hfz12_6 := blk_frozen BK200.out 6; have hfz12_7 := blk_frozen BK200.out 7; have hfz12_8 := blk_frozen BK200.out 8; have hcz13_0 : w11.cell? ⟨gb199, 0, none⟩ = some (.int .i64 0) := (blk_cell BK199.out 0).trans rfl; have hcz13_1 : w11.cell? ⟨gb199, 1, none⟩ = some (.int .i64 0) := (blk_cell BK199.out 1).trans rfl; have hcz13_2 : w11.cell? ⟨gb199, 2, none⟩ = some (.int .i64 0) := (blk_cell BK199.out 2).trans rfl; have hcz13_3 : w11.cell? ⟨gb199, 3, none⟩ = some (.int .i64 0) := (blk_cell BK199.out 3).trans rfl; have hcz13_4 : w11.cell? ⟨gb199, 4, none⟩ = some (.int .i64 0) := (blk_cell BK199.out 4).trans rfl; have hcz13_5 : w11.cell? ⟨gb199, 5, none⟩ = some (.int .i64 0) := (blk_cell BK199.out 5).trans rfl; have hcz13_6 : w11.cell? ⟨gb199, 6, none⟩ = some (.int .i64 0) := (blk_cell BK199.out 6).trans rfl; have hcz13_7 : w11.cell? ⟨gb199, 7, none⟩ = some (.int .i64 0) := (blk_cell BK199.out 7).trans rfl; have hcz13_8 : w11.cell? ⟨gb199, 8, none⟩ = some (.string (⟨#[]⟩ : ByteArray)) := (blk_cell BK199.out 8).trans rfl; have hfz13_0 := blk_frozen BK199.out 0; have hfz13_1 := blk_frozen BK199.out 1; have hfz13_2 := blk_frozen BK199.out 2; have hfz13_3 := blk_frozen BK199.out 3; have hfz13_4 := blk_frozen BK199.out 4; have hfz13_5 := blk_frozen BK199.out 5; have hfz13_6 := blk_frozen BK199.out 6; have hfz13_7 := blk_frozen BK199.out 7; have hfz13_8 := blk_frozen BK199.out 8))
 refine bodyPost_ret (results_cell_row rfl _ _ gb199 31 #[.int .i64 a0_0, .int .i64 a0_1, .int .i64 a0_2, .int .i64 a0_3, .int .i64 t201, .int .i64 t202, .int .i64 t203, .int .i64 t204, .string t205] (0, 0) _ rfl (by (with_reducible repeat (first | refine blk_drewN ?_ _ | refine blk_drew ?_ | refine blk_alloc ?_ _)); refine blk_put (cs := #[.int .i64 a0_0, .int .i64 a0_1, .int .i64 a0_2, .int .i64 a0_3, .int .i64 t201, .int .i64 t202, .int .i64 t203, .int .i64 t204, .string (⟨#[]⟩ : ByteArray)]) ?_ 8 _ rfl; (with_reducible repeat (first | refine blk_drewN ?_ _ | refine blk_drew ?_ | refine blk_alloc ?_ _)); refine blk_put (cs := #[.int .i64 a0_0, .int .i64 a0_1, .int .i64 a0_2, .int .i64 a0_3, .int .i64 t201, .int .i64 t202, .int .i64 t203, .int .i64 0, .string (⟨#[]⟩ : ByteArray)]) ?_ 7 _ rfl; (with_reducible repeat (first | refine blk_drewN ?_ _ | refine blk_drew ?_ | refine blk_alloc ?_ _)); refine blk_put (cs := #[.int .i64 a0_0, .int .i64 a0_1, .int .i64 a0_2, .int .i64 a0_3, .int .i64 t201, .int .i64 t202, .int .i64 0, .int .i64 0, .string (⟨#[]⟩ : ByteArray)]) ?_ 6 _ rfl; (with_reducible repeat (first | refine blk_drewN ?_ _ | refine blk_drew ?_ | refine blk_alloc ?_ _)); refine blk_put (cs := #[.int .i64 a0_0, .int .i64 a0_1, .int .i64 a0_2, .int .i64 a0_3, .int .i64 t201, .int .i64 0, .int .i64 0, .int .i64 0, .string (⟨#[]⟩ : ByteArray)]) ?_ 5 _ rfl; (with_reducible repeat (first | refine blk_drewN ?_ _ | refine blk_drew ?_ | refine blk_alloc ?_ _)); refine blk_put (cs := #[.int .i64 a0_0, .int .i64 a0_1, .int .i64 a0_2, .int .i64 a0_3, .int .i64 0, .int .i64 0, .int .i64 0, .int .i64 0, .string (⟨#[]⟩ : ByteArray)]) ?_ 4 _ rfl; (with_reducible repeat (first | refine blk_drewN ?_ _ | refine blk_drew ?_ | refine blk_alloc ?_ _)); refine blk_put (cs := #[.int .i64 a0_0, .int .i64 a0_1, .int .i64 a0_2, .int .i64 0, .int .i64 0, .int .i64 0, .int .i64 0, .int .i64 0, .string (⟨#[]⟩ : ByteArray)]) ?_ 3 _ rfl; (with_reducible repeat (first | refine blk_drewN ?_ _ | refine blk_drew ?_ | refine blk_alloc ?_ _)); refine blk_put (cs := #[.int .i64 a0_0, .int .i64 a0_1, .int .i64 0, .int .i64 0, .int .i64 0, .int .i64 0, .int .i64 0, .int .i64 0, .string (⟨#[]⟩ : ByteArray)]) ?_ 2 _ rfl; (with_reducible repeat (first | refine blk_drewN ?_ _ | refine blk_drew ?_ | refine blk_alloc ?_ _)); refine blk_put (cs := #[.int .i64 a0_0, .int .i64 0, .int .i64 0, .int .i64 0, .int .i64 0, .int .i64 0, .int .i64 0, .int .i64 0, .string (⟨#[]⟩ : ByteArray)]) ?_ 1 _ rfl; (with_reducible repeat (first | refine blk_drewN ?_ _ | refine blk_drew ?_ | refine blk_alloc ?_ _)); refine blk_put (cs := #[.int .i64 0, .int .i64 0, .int .i64 0, .int .i64 0, .int .i64 0, .int .i64 0, .int .i64 0, .int .i64 0, .string (⟨#[]⟩ : ByteArray)]) ?_ 0 _ rfl; (with_reducible repeat (first | refine blk_drewN ?_ _ | refine blk_drew ?_ | refine blk_alloc ?_ _)); refine blk_far ?_ NB199_200.out _; (with_reducible repeat (first | refine blk_drewN ?_ _ | refine blk_drew ?_ | refine blk_alloc ?_ _)); refine blk_far ?_ NB199_200.out _; (with_reducible repeat (first | refine blk_drewN ?_ _ | refine blk_drew ?_ | refine blk_alloc ?_ _)); refine blk_far ?_ NB199_200.out _; (with_reducible repeat (first | refine blk_drewN ?_ _ | refine blk_drew ?_ | refine blk_alloc ?_ _)); refine blk_far ?_ NB199_200.out _; (with_reducible repeat (first | refine blk_drewN ?_ _ | refine blk_drew ?_ | refine blk_alloc ?_ _)); refine blk_far ?_ NB199_200.out _; (with_reducible repeat (first | refine blk_drewN ?_ _ | refine blk_drew ?_ | refine blk_alloc ?_ _)); exact BK199.out) Tryd.underlying31 rfl (by kernel_rfl)) rfl ?_
 exact ⟨by first | rfl | (simp [errW_none, errW_some] <;> rfl) | (simp [*, errW_none, errW_some] <;> rfl), by repeat (first | (with_reducible first | exact HB.out | apply below_alloc | apply pw_below_drewN | apply below_drew1 | refine below_set ?_ GE198.out | refine below_set ?_ GE199.out | refine below_set ?_ GE200.out) | exact HB.out)⟩
def laws_szEdit.f (a0_0 : Int) (a0_1 : Int) (a0_2 : Int) (a0_3 : Int) (a0_4 : ByteArray) (a1 : Int) : Option (Int) := if (wrap64 (a1 - (a0_4.size : Int))) < 0 then (some (-1)) else (some (wrap64 (a1 - (a0_4.size : Int))))
set_option maxHeartbeats 8000000 in
set_option maxRecDepth 100000 in
theorem laws_szEdit.calls (a0_0 : Int) (a0_1 : Int) (a0_2 : Int) (a0_3 : Int) (a0_4 : ByteArray) (a1 : Int) (r : Int) (w : World) (h : laws_szEdit.f a0_0 a0_1 a0_2 a0_3 a0_4 a1 = some r) :
  Calls Tryd.prog 8 #[.agg #[.int .i64 a0_0, .int .i64 a0_1, .int .i64 a0_2, .int .i64 a0_3, .string a0_4], .int .i64 a1] w fun e w' => e = .returned (.int .i64 r) ∧ Below w.heap.size w w' := by
 have hu23 := Tryd.underlying23
 have HB := Aside0.mk (Below.refl w.heap.size w)
 have H : (if (wrap64 (a1 - (a0_4.size : Int))) < 0 then (some (-1)) else (some (wrap64 (a1 - (a0_4.size : Int))))) = some r := h
 clear h
 by_cases c3 : (wrap64 (a1 - (a0_4.size : Int))) < 0
 ·rw [if_pos c3] at H
  have c3b0 : decide ((wrap64 (a1 - (a0_4.size : Int))) < 0) = true := decide_eq_true c3
  clear c3
  obtain rfl := Option.some.inj H
  go_enter Tryd.func8, Tryd.ntmps8
  go_wp2_with (first | ((with_reducible refine gate_dst (N := 2) rfl ?_); refine box_event ?hg (N := 2) ?hd (cs := #[.int .i64 a0_0, .int .i64 a0_1, .int .i64 a0_2, .int .i64 a0_3, .string a0_4]) (t := 23) ?hr ?_; (case hd => rfl); (case hg => rfl); (case hr => first | (go_simp; done) | (go_simp; rfl)); intro gb206 hg w4 hbox hb; have n0_ := Aside0.mk (below_step (by repeat (first | (with_reducible first | exact HB.out | apply below_alloc | apply pw_below_drewN | apply below_drew1) | exact HB.out)) hb); have n1_ := Aside0.mk (hbox); have n2_ := Aside0.mk ((by rw [hg]; exact (below_size (by repeat (first | (with_reducible first | exact HB.out | apply below_alloc | apply pw_below_drewN | apply below_drew1) | exact HB.out))) : w.heap.size ≤ gb206)); have n3_ := Aside0.mk ((by rw [hg]; exact (below_size (by repeat (first | (with_reducible first | exact HB.out | apply below_alloc | apply pw_below_drewN | apply below_drew1) | exact HB.out))) : w.heap.size ≤ gb206)); clear HB; have HB := n0_; have BK206 := n1_; have GW206 := n2_; have GE206 := n3_; clear n0_ n1_ n2_ n3_; clear hb hbox hg; have hcz5_0 : w4.cell? ⟨gb206, 0, none⟩ = some (.int .i64 a0_0) := (blk_cell BK206.out 0).trans rfl; have hcz5_1 : w4.cell? ⟨gb206, 1, none⟩ = some (.int .i64 a0_1) := (blk_cell BK206.out 1).trans rfl; have hcz5_2 : w4.cell? ⟨gb206, 2, none⟩ = some (.int .i64 a0_2) := (blk_cell BK206.out 2).trans rfl; have hcz5_3 : w4.cell? ⟨gb206, 3, none⟩ = some (.int .i64 a0_3) := (blk_cell BK206.out 3).trans rfl; have hcz5_4 : w4.cell? ⟨gb206, 4, none⟩ = some (.string a0_4) := (blk_cell BK206.out 4).trans rfl; have hfz5_0 := blk_frozen BK206.out 0; have hfz5_1 := blk_frozen BK206.out 1; have hfz5_2 := blk_frozen BK206.out 2; have hfz5_3 := blk_frozen BK206.out 3; have hfz5_4 := blk_frozen BK206.out 4))
  go_ret
  exact ⟨by first | rfl | (simp [errW_none, errW_some] <;> rfl) | (simp [*, errW_none, errW_some] <;> rfl), by repeat (first | (with_reducible first | exact HB.out | apply below_alloc | apply pw_below_drewN | apply below_drew1 | refine below_set ?_ GE206.out) | exact HB.out)⟩
 ·rw [if_neg c3] at H
  have c3b0 : decide ((wrap64 (a1 - (a0_4.size : Int))) < 0) = false := decide_eq_false c3
  clear c3
  obtain rfl := Option.some.inj H
  go_enter Tryd.func8, Tryd.ntmps8
  go_wp2_with (first | ((with_reducible refine gate_dst (N := 2) rfl ?_); refine box_event ?hg (N := 2) ?hd (cs := #[.int .i64 a0_0, .int .i64 a0_1, .int .i64 a0_2, .int .i64 a0_3, .string a0_4]) (t := 23) ?hr ?_; (case hd => rfl); (case hg => rfl); (case hr => first | (go_simp; done) | (go_simp; rfl)); intro gb206 hg w6 hbox hb; have n0_ := Aside0.mk (below_step (by repeat (first | (with_reducible first | exact HB.out | apply below_alloc | apply pw_below_drewN | apply below_drew1) | exact HB.out)) hb); have n1_ := Aside0.mk (hbox); have n2_ := Aside0.mk ((by rw [hg]; exact (below_size (by repeat (first | (with_reducible first | exact HB.out | apply below_alloc | apply pw_below_drewN | apply below_drew1) | exact HB.out))) : w.heap.size ≤ gb206)); have n3_ := Aside0.mk ((by rw [hg]; exact (below_size (by repeat (first | (with_reducible first | exact HB.out | apply below_alloc | apply pw_below_drewN | apply below_drew1) | exact HB.out))) : w.heap.size ≤ gb206)); clear HB; have HB := n0_; have BK206 := n1_; have GW206 := n2_; have GE206 := n3_; clear n0_ n1_ n2_ n3_; clear hb hbox hg; have hcz7_0 : w6.cell? ⟨gb206, 0, none⟩ = some (.int .i64 a0_0) := (blk_cell BK206.out 0).trans rfl; have hcz7_1 : w6.cell? ⟨gb206, 1, none⟩ = some (.int .i64 a0_1) := (blk_cell BK206.out 1).trans rfl; have hcz7_2 : w6.cell? ⟨gb206, 2, none⟩ = some (.int .i64 a0_2) := (blk_cell BK206.out 2).trans rfl; have hcz7_3 : w6.cell? ⟨gb206, 3, none⟩ = some (.int .i64 a0_3) := (blk_cell BK206.out 3).trans rfl; have hcz7_4 : w6.cell? ⟨gb206, 4, none⟩ = some (.string a0_4) := (blk_cell BK206.out 4).trans rfl; have hfz7_0 := blk_frozen BK206.out 0; have hfz7_1 := blk_frozen BK206.out 1; have hfz7_2 := blk_frozen BK206.out 2; have hfz7_3 := blk_frozen BK206.out 3; have hfz7_4 := blk_frozen BK206.out 4))
  go_ret
  exact ⟨by first | rfl | (simp [errW_none, errW_some] <;> rfl) | (simp [*, errW_none, errW_some] <;> rfl), by repeat (first | (with_reducible first | exact HB.out | apply below_alloc | apply pw_below_drewN | apply below_drew1 | refine below_set ?_ GE206.out) | exact HB.out)⟩
def laws_szRequest.f (a0_0 : Int) (a0_1 : Int) (a0_2 : Int) (a0_3 : Int) (a0_4 : Int) (a0_5 : Int) (a0_6 : Int) (a0_7 : Int) (a0_8 : ByteArray) (a1 : Int) : Option (Int) := (laws_szEdit.f a0_4 a0_5 a0_6 a0_7 a0_8 a1).bind fun t208 => (if t208 < 0 then (some (-1)) else (some t208))
set_option maxHeartbeats 8000000 in
set_option maxRecDepth 100000 in
theorem laws_szRequest.calls (a0_0 : Int) (a0_1 : Int) (a0_2 : Int) (a0_3 : Int) (a0_4 : Int) (a0_5 : Int) (a0_6 : Int) (a0_7 : Int) (a0_8 : ByteArray) (a1 : Int) (r : Int) (w : World) (h : laws_szRequest.f a0_0 a0_1 a0_2 a0_3 a0_4 a0_5 a0_6 a0_7 a0_8 a1 = some r) :
  Calls Tryd.prog 4 #[.agg #[.int .i64 a0_0, .int .i64 a0_1, .int .i64 a0_2, .int .i64 a0_3, .int .i64 a0_4, .int .i64 a0_5, .int .i64 a0_6, .int .i64 a0_7, .string a0_8], .int .i64 a1] w fun e w' => e = .returned (.int .i64 r) ∧ Below w.heap.size w w' := by
 have hu25 := Tryd.underlying25
 have hu23 := Tryd.underlying23
 have HB := Aside0.mk (Below.refl w.heap.size w)
 have H : ((laws_szEdit.f a0_4 a0_5 a0_6 a0_7 a0_8 a1).bind fun t208 => (if t208 < 0 then (some (-1)) else (some t208))) = some r := h
 clear h
 replace H := Option.bind_eq_some_iff.mp H
 obtain ⟨t208, A30, H⟩ := H
 replace H : (if t208 < 0 then (some (-1)) else (some t208)) = some r := H
 have A3 := Aside0.mk A30
 clear A30
 by_cases c4 : t208 < 0
 ·rw [if_pos c4] at H
  have c4b0 : decide (t208 < 0) = true := decide_eq_true c4
  clear c4
  obtain rfl := Option.some.inj H
  go_enter Tryd.func4, Tryd.ntmps4
  go_wp2_with (first | ((with_reducible refine gate_dst (N := 2) rfl ?_); refine box_event ?hg (N := 2) ?hd (cs := #[.int .i64 a0_0, .int .i64 a0_1, .int .i64 a0_2, .int .i64 a0_3, .int .i64 a0_4, .int .i64 a0_5, .int .i64 a0_6, .int .i64 a0_7, .string a0_8]) (t := 25) ?hr ?_; (case hd => rfl); (case hg => rfl); (case hr => first | (go_simp; done) | (go_simp; rfl)); intro gb207 hg w5 hbox hb; have n0_ := Aside0.mk (below_step (by repeat (first | (with_reducible first | exact HB.out | apply below_alloc | apply pw_below_drewN | apply below_drew1) | exact HB.out)) hb); have n1_ := Aside0.mk (hbox); have n2_ := Aside0.mk ((by rw [hg]; exact (below_size (by repeat (first | (with_reducible first | exact HB.out | apply below_alloc | apply pw_below_drewN | apply below_drew1) | exact HB.out))) : w.heap.size ≤ gb207)); have n3_ := Aside0.mk ((by rw [hg]; exact (below_size (by repeat (first | (with_reducible first | exact HB.out | apply below_alloc | apply pw_below_drewN | apply below_drew1) | exact HB.out))) : w.heap.size ≤ gb207)); clear HB; have HB := n0_; have BK207 := n1_; have GW207 := n2_; have GE207 := n3_; clear n0_ n1_ n2_ n3_; clear hb hbox hg; have hcz6_0 : w5.cell? ⟨gb207, 0, none⟩ = some (.int .i64 a0_0) := (blk_cell BK207.out 0).trans rfl; have hcz6_1 : w5.cell? ⟨gb207, 1, none⟩ = some (.int .i64 a0_1) := (blk_cell BK207.out 1).trans rfl; have hcz6_2 : w5.cell? ⟨gb207, 2, none⟩ = some (.int .i64 a0_2) := (blk_cell BK207.out 2).trans rfl; have hcz6_3 : w5.cell? ⟨gb207, 3, none⟩ = some (.int .i64 a0_3) := (blk_cell BK207.out 3).trans rfl; have hcz6_4 : w5.cell? ⟨gb207, 4, none⟩ = some (.int .i64 a0_4) := (blk_cell BK207.out 4).trans rfl; have hcz6_5 : w5.cell? ⟨gb207, 5, none⟩ = some (.int .i64 a0_5) := (blk_cell BK207.out 5).trans rfl; have hcz6_6 : w5.cell? ⟨gb207, 6, none⟩ = some (.int .i64 a0_6) := (blk_cell BK207.out 6).trans rfl; have hcz6_7 : w5.cell? ⟨gb207, 7, none⟩ = some (.int .i64 a0_7) := (blk_cell BK207.out 7).trans rfl; have hcz6_8 : w5.cell? ⟨gb207, 8, none⟩ = some (.string a0_8) := (blk_cell BK207.out 8).trans rfl; have hfz6_0 := blk_frozen BK207.out 0; have hfz6_1 := blk_frozen BK207.out 1; have hfz6_2 := blk_frozen BK207.out 2; have hfz6_3 := blk_frozen BK207.out 3; have hfz6_4 := blk_frozen BK207.out 4; have hfz6_5 := blk_frozen BK207.out 5; have hfz6_6 := blk_frozen BK207.out 6; have hfz6_7 := blk_frozen BK207.out 7; have hfz6_8 := blk_frozen BK207.out 8) | ((with_reducible refine gate_callee (f := 8) rfl ?_); refine goesL_ (some 8) rfl rfl Tryd.func8 (by kernel_rfl) rfl #[.agg #[.int .i64 a0_4, .int .i64 a0_5, .int .i64 a0_6, .int .i64 a0_7, .string a0_8], .int .i64 a1] rfl (by (try simp only [List.map_toArray, List.map_cons, List.map_nil]); first | done | rfl | (simp only [List.length_drop, List.length_take]; rfl)) ?_; (with_reducible refine (laws_szEdit.calls a0_4 a0_5 a0_6 a0_7 a0_8 a1 t208 _ A3.out).mono ?_); rintro e w7 ⟨rfl, hb⟩; refine ⟨_, rfl, ?_⟩; have n0_ := Aside0.mk (blk_below (g := gb207) (o := .cells #[.int .i64 a0_0, .int .i64 a0_1, .int .i64 a0_2, .int .i64 a0_3, .int .i64 a0_4, .int .i64 a0_5, .int .i64 a0_6, .int .i64 a0_7, .string a0_8] 25 (0, 0)) (by (with_reducible repeat (first | refine blk_drewN ?_ _ | refine blk_drew ?_ | refine blk_alloc ?_ _)); exact BK207.out) hb); have n1_ := Aside0.mk (below_step (by repeat (first | (with_reducible first | exact HB.out | apply below_alloc | apply pw_below_drewN | apply below_drew1 | refine below_set ?_ GE207.out) | exact HB.out)) hb); clear BK207; clear HB; have BK207 := n0_; have HB := n1_; clear n0_ n1_; (try clear hb); (try clear hb2); (try clear hk); (try clear hi)))
  go_ret
  exact ⟨by first | rfl | (simp [errW_none, errW_some] <;> rfl) | (simp [*, errW_none, errW_some] <;> rfl), by repeat (first | (with_reducible first | exact HB.out | apply below_alloc | apply pw_below_drewN | apply below_drew1 | refine below_set ?_ GE207.out) | exact HB.out)⟩
 ·rw [if_neg c4] at H
  have c4b0 : decide (t208 < 0) = false := decide_eq_false c4
  clear c4
  obtain rfl := Option.some.inj H
  go_enter Tryd.func4, Tryd.ntmps4
  go_wp2_with (first | ((with_reducible refine gate_dst (N := 2) rfl ?_); refine box_event ?hg (N := 2) ?hd (cs := #[.int .i64 a0_0, .int .i64 a0_1, .int .i64 a0_2, .int .i64 a0_3, .int .i64 a0_4, .int .i64 a0_5, .int .i64 a0_6, .int .i64 a0_7, .string a0_8]) (t := 25) ?hr ?_; (case hd => rfl); (case hg => rfl); (case hr => first | (go_simp; done) | (go_simp; rfl)); intro gb207 hg w8 hbox hb; have n0_ := Aside0.mk (below_step (by repeat (first | (with_reducible first | exact HB.out | apply below_alloc | apply pw_below_drewN | apply below_drew1) | exact HB.out)) hb); have n1_ := Aside0.mk (hbox); have n2_ := Aside0.mk ((by rw [hg]; exact (below_size (by repeat (first | (with_reducible first | exact HB.out | apply below_alloc | apply pw_below_drewN | apply below_drew1) | exact HB.out))) : w.heap.size ≤ gb207)); have n3_ := Aside0.mk ((by rw [hg]; exact (below_size (by repeat (first | (with_reducible first | exact HB.out | apply below_alloc | apply pw_below_drewN | apply below_drew1) | exact HB.out))) : w.heap.size ≤ gb207)); clear HB; have HB := n0_; have BK207 := n1_; have GW207 := n2_; have GE207 := n3_; clear n0_ n1_ n2_ n3_; clear hb hbox hg; have hcz9_0 : w8.cell? ⟨gb207, 0, none⟩ = some (.int .i64 a0_0) := (blk_cell BK207.out 0).trans rfl; have hcz9_1 : w8.cell? ⟨gb207, 1, none⟩ = some (.int .i64 a0_1) := (blk_cell BK207.out 1).trans rfl; have hcz9_2 : w8.cell? ⟨gb207, 2, none⟩ = some (.int .i64 a0_2) := (blk_cell BK207.out 2).trans rfl; have hcz9_3 : w8.cell? ⟨gb207, 3, none⟩ = some (.int .i64 a0_3) := (blk_cell BK207.out 3).trans rfl; have hcz9_4 : w8.cell? ⟨gb207, 4, none⟩ = some (.int .i64 a0_4) := (blk_cell BK207.out 4).trans rfl; have hcz9_5 : w8.cell? ⟨gb207, 5, none⟩ = some (.int .i64 a0_5) := (blk_cell BK207.out 5).trans rfl; have hcz9_6 : w8.cell? ⟨gb207, 6, none⟩ = some (.int .i64 a0_6) := (blk_cell BK207.out 6).trans rfl; have hcz9_7 : w8.cell? ⟨gb207, 7, none⟩ = some (.int .i64 a0_7) := (blk_cell BK207.out 7).trans rfl; have hcz9_8 : w8.cell? ⟨gb207, 8, none⟩ = some (.string a0_8) := (blk_cell BK207.out 8).trans rfl; have hfz9_0 := blk_frozen BK207.out 0; have hfz9_1 := blk_frozen BK207.out 1; have hfz9_2 := blk_frozen BK207.out 2; have hfz9_3 := blk_frozen BK207.out 3; have hfz9_4 := blk_frozen BK207.out 4; have hfz9_5 := blk_frozen BK207.out 5; have hfz9_6 := blk_frozen BK207.out 6; have hfz9_7 := blk_frozen BK207.out 7; have hfz9_8 := blk_frozen BK207.out 8) | ((with_reducible refine gate_callee (f := 8) rfl ?_); refine goesL_ (some 8) rfl rfl Tryd.func8 (by kernel_rfl) rfl #[.agg #[.int .i64 a0_4, .int .i64 a0_5, .int .i64 a0_6, .int .i64 a0_7, .string a0_8], .int .i64 a1] rfl (by (try simp only [List.map_toArray, List.map_cons, List.map_nil]); first | done | rfl | (simp only [List.length_drop, List.length_take]; rfl)) ?_; (with_reducible refine (laws_szEdit.calls a0_4 a0_5 a0_6 a0_7 a0_8 a1 t208 _ A3.out).mono ?_); rintro e w10 ⟨rfl, hb⟩; refine ⟨_, rfl, ?_⟩; have n0_ := Aside0.mk (blk_below (g := gb207) (o := .cells #[.int .i64 a0_0, .int .i64 a0_1, .int .i64 a0_2, .int .i64 a0_3, .int .i64 a0_4, .int .i64 a0_5, .int .i64 a0_6, .int .i64 a0_7, .string a0_8] 25 (0, 0)) (by (with_reducible repeat (first | refine blk_drewN ?_ _ | refine blk_drew ?_ | refine blk_alloc ?_ _)); exact BK207.out) hb); have n1_ := Aside0.mk (below_step (by repeat (first | (with_reducible first | exact HB.out | apply below_alloc | apply pw_below_drewN | apply below_drew1 | refine below_set ?_ GE207.out) | exact HB.out)) hb); clear BK207; clear HB; have BK207 := n0_; have HB := n1_; clear n0_ n1_; (try clear hb); (try clear hb2); (try clear hk); (try clear hi)))
  go_ret
  exact ⟨by first | rfl | (simp [errW_none, errW_some] <;> rfl) | (simp [*, errW_none, errW_some] <;> rfl), by repeat (first | (with_reducible first | exact HB.out | apply below_alloc | apply pw_below_drewN | apply below_drew1 | refine below_set ?_ GE207.out) | exact HB.out)⟩
end Go.Proofs.YtfafehhallbjiaaDoor.Q
namespace Go.Proofs
open Go.Shelf
def Tryd.laysM171_ren : Go.Shelf.Ren := ⟨fun | 171 => 24 | 243 => 31 | 246 => 35 | 283 => 36 | 284 => 37 | 285 => 38 | 286 => 39 | 129 => 41 | 317 => 40 | 318 => 42 | 319 => 43 | 320 => 44 | 337 => 45 | 338 => 46 | n => n, fun | 3 => 3 | 9 => 9 | 2 => 2 | 4 => 4 | 171 => 50 | 0 => 0 | 53 => 51 | 37 => 45 | 5 => 5 | 173 => 54 | 212 => 57 | 51 => 58 | 20 => 20 | 213 => 59 | 46 => 60 | 232 => 63 | 233 => 64 | n => n, fun | 17 => 0 | 18 => 1 | 19 => 2 | n => n⟩
theorem Tryd.laysM171 : Go.Proofs.LaysM.n171 Tryd.prog Tryd.laysM171_ren := {
  mixed := by kernel_rfl
  f129 := Tryd.func41.trans (congrArg some (by kernel_rfl))
  f171 := Tryd.func24.trans (congrArg some (by kernel_rfl))
  f243 := Tryd.func31.trans (congrArg some (by kernel_rfl))
  f246 := Tryd.func35.trans (congrArg some (by kernel_rfl))
  f283 := Tryd.func36.trans (congrArg some (by kernel_rfl))
  f284 := Tryd.func37.trans (congrArg some (by kernel_rfl))
  f285 := Tryd.func38.trans (congrArg some (by kernel_rfl))
  f286 := Tryd.func39.trans (congrArg some (by kernel_rfl))
  f317 := Tryd.func40.trans (congrArg some (by kernel_rfl))
  f318 := Tryd.func42.trans (congrArg some (by kernel_rfl))
  f319 := Tryd.func43.trans (congrArg some (by kernel_rfl))
  f320 := Tryd.func44.trans (congrArg some (by kernel_rfl))
  f337 := Tryd.func45.trans (congrArg some (by kernel_rfl))
  f338 := Tryd.func46.trans (congrArg some (by kernel_rfl))
  t0 := Tryd.underlying0
  a0 := Tryd.isAgg0
  z0 := Tryd.sizeOf0
  v0 := Tryd.zeroValue0
  t2 := Tryd.underlying2
  a2 := Tryd.isAgg2
  z2 := Tryd.sizeOf2
  v2 := Tryd.zeroValue2
  t3 := Tryd.underlying3
  a3 := Tryd.isAgg3
  z3 := Tryd.sizeOf3
  v3 := Tryd.zeroValue3
  t4 := Tryd.underlying4
  a4 := Tryd.isAgg4
  z4 := Tryd.sizeOf4
  v4 := Tryd.zeroValue4
  t5 := Tryd.underlying5
  a5 := Tryd.isAgg5
  z5 := Tryd.sizeOf5
  v5 := Tryd.zeroValue5
  t9 := Tryd.underlying9
  a9 := Tryd.isAgg9
  z9 := Tryd.sizeOf9
  v9 := Tryd.zeroValue9
  t20 := Tryd.underlying20
  a20 := Tryd.isAgg20
  z20 := Tryd.sizeOf20
  v20 := Tryd.zeroValue20
  t37 := Tryd.underlying45
  a37 := Tryd.isAgg45
  z37 := Tryd.sizeOf45
  v37 := Tryd.zeroValue45
  t46 := Tryd.underlying60
  a46 := Tryd.isAgg60
  z46 := Tryd.sizeOf60
  v46 := Tryd.zeroValue60
  t51 := Tryd.underlying58
  a51 := Tryd.isAgg58
  z51 := Tryd.sizeOf58
  v51 := Tryd.zeroValue58
  t53 := Tryd.underlying51
  a53 := Tryd.isAgg51
  z53 := Tryd.sizeOf51
  v53 := Tryd.zeroValue51
  t171 := Tryd.underlying50
  a171 := Tryd.isAgg50
  z171 := Tryd.sizeOf50
  v171 := Tryd.zeroValue50
  t173 := Tryd.underlying54
  a173 := Tryd.isAgg54
  z173 := Tryd.sizeOf54
  v173 := Tryd.zeroValue54
  t212 := Tryd.underlying57
  a212 := Tryd.isAgg57
  z212 := Tryd.sizeOf57
  v212 := Tryd.zeroValue57
  t213 := Tryd.underlying59
  a213 := Tryd.isAgg59
  z213 := Tryd.sizeOf59
  t232 := Tryd.underlying63
  a232 := Tryd.isAgg63
  z232 := Tryd.sizeOf63
  v232 := Tryd.zeroValue63
  t233 := Tryd.underlying64
  a233 := Tryd.isAgg64
  z233 := Tryd.sizeOf64
  v233 := Tryd.zeroValue64
  g17 := by kernel_rfl
  g18 := by kernel_rfl
  g19 := by kernel_rfl
  i0 := by kernel_rfl
  i2 := by kernel_rfl
  i3 := by kernel_rfl
  i4 := by kernel_rfl
  i5 := by kernel_rfl
  i9 := by kernel_rfl
  i20 := by kernel_rfl
  i37 := by kernel_rfl
  i46 := by kernel_rfl
  i51 := by kernel_rfl
  i53 := by kernel_rfl
  i171 := by kernel_rfl
  i173 := by kernel_rfl
  i212 := by kernel_rfl
  i232 := by kernel_rfl
  i233 := by kernel_rfl
  m17 := by kernel_rfl
  m18 := by kernel_rfl
  m19 := by kernel_rfl }
open Go.RowKit Go.Sort Go.Lib in
theorem Tryd.strconv_Itoa (n : Int) (h0 : -9223372036854775808 ≤ n) (h1 : n ≤ 9223372036854775807) (w : World) (htab : Lib.TabIs Tryd.prog w "internal/strconv.uint64pow10" .u64 Lib.pow10Tab) :
    Calls Tryd.prog 24 #[.int .i64 n] w fun e w' => e = .returned (.string ⟨(Lib.itoa n).toArray⟩) ∧ ∃ k os, w' = grow (w.drewN k) os := Any.strconv_Itoa Tryd.laysM171 n h0 h1 w htab
end Go.Proofs
namespace Go.Proofs.YtfafehhallbjiaaDoor.H
open Go.RowKit Go.Proofs.YtfafehhallbjiaaDoorW.PrintWords
def TabW (w : World) : Prop := Lib.TabIs Tryd.prog w "internal/strconv.uint64pow10" .u64 Lib.pow10Tab
theorem TabW.below {w w' : World} (h : TabW w) (hb : Below w.heap.size w w') : TabW w' := Lib.tabBelow_of_tabIs h w' hb
def strconv_Itoa.f (n : Int) : Option ByteArray := if -9223372036854775808 ≤ n ∧ n ≤ 9223372036854775807 then some ⟨(Lib.itoa n).toArray⟩ else none
theorem strconv_Itoa.calls (n : Int) (r : ByteArray) (w : World) (hT : TabW w) (h : strconv_Itoa.f n = some r) :
    Calls Tryd.prog 24 #[.int .i64 n] w fun e w' => e = .returned (.string r) ∧ Below w.heap.size w w' := by
  unfold strconv_Itoa.f at h
  by_cases c : -9223372036854775808 ≤ n ∧ n ≤ 9223372036854775807
  · rw [if_pos c] at h
    obtain rfl := Option.some.inj h
    refine (Tryd.strconv_Itoa n c.1 c.2 w hT).mono ?_
    rintro e w' ⟨rfl, k, os, rfl⟩
    exact ⟨rfl, Lib.below_grow _ _ (Nat.le_refl _) _ _⟩
  · rw [if_neg c] at h; cases h
end Go.Proofs.YtfafehhallbjiaaDoor.H
set_option linter.unusedVariables false
set_option linter.unusedSimpArgs false
namespace Go.Proofs.YtfafehhallbjiaaDoor.H
open Go.RowKit Go.Proofs.YtfafehhallbjiaaDoorW.PrintWords Go.Proofs.YtfafehhallbjiaaDoorW.PrintLast Go.Proofs.YtfafehhallbjiaaDoor.Q
abbrev spC : ByteArray := (⟨#[32]⟩ : ByteArray)
def edL : List ByteArray := [(⟨#[]⟩ : ByteArray), ⟨#[105, 110, 115, 101, 114, 116]⟩, ⟨#[100, 101, 108, 101, 116, 101]⟩, ⟨#[116, 101, 120, 116]⟩, ⟨#[97, 116, 116, 114]⟩, ⟨#[109, 111, 118, 101]⟩, ⟨#[119, 114, 97, 112]⟩, ⟨#[108, 105, 102, 116]⟩, ⟨#[115, 112, 108, 105, 116]⟩, ⟨#[106, 111, 105, 110]⟩]
def edW (m : Int) : ByteArray := rdOf ByteArray.empty edL m
def edJ (m : Int) (h ta tb th : ByteArray) (t : ByteArray) : ByteArray :=
  if m = 3 then (if t.toList = ([] : List UInt8) then h ++ (⟨#[32, 45]⟩ : ByteArray) else h ++ spC ++ th) else if m = 4 ∨ m = 6 ∨ m = 8 then h ++ spC ++ ta else if m = 1 ∨ m = 5 then h ++ spC ++ ta ++ spC ++ tb else h
def impl_editText.f (k : Nat) (m n a b : Int) (t : ByteArray) : Option ByteArray :=
  (strconv_Itoa.f n).bind fun t1 => (strconv_Itoa.f a).bind fun ta => (strconv_Itoa.f b).bind fun tb => (impl_hexOf.f k t).bind fun th =>
    if ((t1.size ≤ 1000 ∧ ta.size ≤ 1000 ∧ tb.size ≤ 1000 ∧ th.size ≤ 1000 ∧ (edW m).size ≤ 1000) ∧ (0 ≤ m ∧ m < 10)) then some (edJ m (edW m ++ spC ++ t1) ta tb th t) else none
theorem impl_editText.mono : ∀ a0 a1 a2 a3 a4 k, LeO (impl_editText.f k a0 a1 a2 a3 a4) (impl_editText.f (k + 1) a0 a1 a2 a3 a4) := by
  intro a0 a1 a2 a3 a4 k
  unfold impl_editText.f
  exact LeO.bind (LeO.refl _) (fun _ => LeO.bind (LeO.refl _) (fun _ => LeO.bind (LeO.refl _) (fun _ => LeO.bind (impl_hexOf.mono _ _) (fun _ => LeO.refl _))))
theorem sz_app {x y : ByteArray} {p q : Nat} (h1 : x.size ≤ p) (h2 : y.size ≤ q) : (x ++ y).size ≤ p + q := by rw [ByteArray.size_append]; omega
theorem ov1 {x : ByteArray} (h : x.size ≤ 100000) : (9223372036854775807 < x.size + (⟨#[32]⟩ : ByteArray).size) = False ∧ (9223372036854775807 < x.size + 1) = False ∧ (9223372036854775807 < x.size + (⟨#[32, 45]⟩ : ByteArray).size) = False ∧ (9223372036854775807 < x.size + 2) = False := by
  have e1 : (⟨#[32]⟩ : ByteArray).size = 1 := rfl
  have e2 : (⟨#[32, 45]⟩ : ByteArray).size = 2 := rfl
  rw [e1, e2]
  exact ⟨eq_false (by omega), eq_false (by omega), eq_false (by omega), eq_false (by omega)⟩
theorem ov2 {x y : ByteArray} (h : x.size ≤ 100000) (g : y.size ≤ 100000) : (9223372036854775807 < (x ++ (⟨#[32]⟩ : ByteArray)).size + y.size) = False ∧ (9223372036854775807 < x.size + 1 + y.size) = False := by
  have e1 : (⟨#[32]⟩ : ByteArray).size = 1 := rfl
  rw [ByteArray.size_append, e1]
  exact ⟨eq_false (by omega), eq_false (by omega)⟩
theorem ov3 {x y z : ByteArray} (h : x.size ≤ 100000) (g : y.size ≤ 100000) (q : z.size ≤ 100000) : (9223372036854775807 < (x ++ (⟨#[32]⟩ : ByteArray) ++ y).size + (⟨#[32]⟩ : ByteArray).size) = False ∧ (9223372036854775807 < x.size + 1 + y.size + 1) = False ∧ (9223372036854775807 < (x ++ (⟨#[32]⟩ : ByteArray) ++ y ++ (⟨#[32]⟩ : ByteArray)).size + z.size) = False ∧ (9223372036854775807 < x.size + 1 + y.size + 1 + z.size) = False := by
  have e1 : (⟨#[32]⟩ : ByteArray).size = 1 := rfl
  simp only [ByteArray.size_append, e1]
  exact ⟨eq_false (by omega), eq_false (by omega), eq_false (by omega), eq_false (by omega)⟩
set_option maxHeartbeats 4000000 in
set_option maxRecDepth 100000 in
theorem impl_editText.calls (k : Nat) (m n a b : Int) (t : ByteArray) (r : ByteArray) (w : World) (hT : TabW w) (h : impl_editText.f k m n a b t = some r) :
    Calls Tryd.prog 26 #[.agg #[.int .i64 m, .int .i64 n, .int .i64 a, .int .i64 b, .string t]] w fun e w' => e = .returned (.string r) ∧ Below w.heap.size w w' := by
  have hu := Tryd.underlying29
  unfold impl_editText.f at h
  obtain ⟨t1, h1, h⟩ := Option.bind_eq_some_iff.1 h
  obtain ⟨ta, h2, h⟩ := Option.bind_eq_some_iff.1 h
  obtain ⟨tb, h3, h⟩ := Option.bind_eq_some_iff.1 h
  obtain ⟨th, h4, h⟩ := Option.bind_eq_some_iff.1 h
  by_cases c : ((t1.size ≤ 1000 ∧ ta.size ≤ 1000 ∧ tb.size ≤ 1000 ∧ th.size ≤ 1000 ∧ (edW m).size ≤ 1000) ∧ (0 ≤ m ∧ m < 10))
  case neg => rw [if_neg c] at h; cases h
  rw [if_pos c] at h
  obtain rfl := Option.some.inj h
  obtain ⟨⟨s1, s2, s3, s4, s5⟩, m0, m1⟩ := c
  have H1 := Lib.hid h1
  have H2 := Lib.hid h2
  have H3 := Lib.hid h3
  have H4 := Lib.hid h4
  have HT := Lib.hid hT
  clear h h1 h2 h3 h4 hT
  have p0 : decide (0 ≤ m) = true := decide_eq_true m0
  have p1 : decide (m < 10) = true := decide_eq_true m1
  have p2 : decide (m < (edL.length : Int)) = true := decide_eq_true m1
  have p3 : (m < (edL.length : Int)) = True := eq_true m1
  have p4 : (0 ≤ m) = True := eq_true m0
  obtain ⟨wd, hwd⟩ : ∃ wd, edW m = wd := ⟨_, rfl⟩
  rw [hwd] at s5 ⊢
  have HWD := Lib.hid (show rdOf ByteArray.empty edL m = wd from hwd)
  have q1 : (9223372036854775807 < wd.size + (⟨#[32]⟩ : ByteArray).size) = False := eq_false (by have : (⟨#[32]⟩ : ByteArray).size = 1 := rfl; omega)
  have q2 : (9223372036854775807 < (wd ++ (⟨#[32]⟩ : ByteArray)).size + t1.size) = False := eq_false (by have : (⟨#[32]⟩ : ByteArray).size = 1 := rfl; rw [ByteArray.size_append]; omega)
  have k1 : (9223372036854775807 < wd.size + 1) = False := eq_false (by omega)
  have k2 : (9223372036854775807 < wd.size + 1 + t1.size) = False := eq_false (by omega)
  clear hwd
  go_enter Tryd.func26, Tryd.ntmps26
  go_upto_region 1 with (first | ((with_reducible refine gate_dst (N := 1) rfl ?_); refine box_event ?hg (N := 1) ?hd (cs := #[.int .i64 m, .int .i64 n, .int .i64 a, .int .i64 b, .string t]) (t := 29) ?hr ?_; (case hd => rfl); (case hg => rfl); (case hr => first | (go_simp; done) | (go_simp; rfl)); intro g hg w1 hb1 hB1; clear hg; have BK1 := Lib.hid hb1; have HB1 := Lib.hid hB1; clear hb1 hB1))
  have z0 : World.cell? w1 ⟨g, 0, none⟩ = some (.int .i64 m) := (blk_cell BK1.out 0).trans rfl; have z1 : World.cell? w1 ⟨g, 1, none⟩ = some (.int .i64 n) := (blk_cell BK1.out 1).trans rfl; have z2 : World.cell? w1 ⟨g, 2, none⟩ = some (.int .i64 a) := (blk_cell BK1.out 2).trans rfl; have z3 : World.cell? w1 ⟨g, 3, none⟩ = some (.int .i64 b) := (blk_cell BK1.out 3).trans rfl; have z4 : World.cell? w1 ⟨g, 4, none⟩ = some (.string t) := (blk_cell BK1.out 4).trans rfl
  refine start_ (n := 11) (S := fun w' => w'.cell? ⟨g, 0, none⟩ = some (.int .i64 m) ∧ w'.cell? ⟨g, 1, none⟩ = some (.int .i64 n) ∧ w'.cell? ⟨g, 2, none⟩ = some (.int .i64 a) ∧ w'.cell? ⟨g, 3, none⟩ = some (.int .i64 b) ∧ w'.cell? ⟨g, 4, none⟩ = some (.string t)) (ds := []) #[false, false, false, false, false, false, false, false, false, false, false] (by kernel_rfl) rfl rfl ⟨z0, z1, z2, z3, z4⟩ (fun hHeld => ?_)
  refine pure_ (i := 1) (N := some 5) (v := ?_) (a' := ?_) #[false, true, false, false, false, false, false, false, false, false, false] rfl rfl (by kernel_rfl) (fun _ _ _ h => h) (Or.inl ⟨by rfl, ?_⟩) ?_ ?_
  rotate_left
  · intro w'
    go_simp
    with_reducible rfl
  rotate_left
  · simp only [Act.put, List.setIfInBounds_toArray, List.set_cons_zero, List.set_cons_succ, i64_w, i32_w]
    rfl
  refine pure_ (i := 6) (N := some 10) (v := ?_) (a' := ?_) #[false, true, false, false, false, false, true, false, false, false, false] rfl rfl (by kernel_rfl) (fun _ _ _ h => h) (Or.inl ⟨by rfl, ?_⟩) ?_ ?_
  rotate_left
  · intro w'
    go_simp
    with_reducible rfl
  rotate_left
  · simp only [Act.put, List.setIfInBounds_toArray, List.set_cons_zero, List.set_cons_succ, i64_w, i32_w]
    rfl
  refine take_ (i := 2) (N := some 6) (v := ?_) (a' := ?_) #[false, true, true, false, false, false, true, false, false, false, false] rfl rfl (by kernel_rfl) (fun _ _ _ h => h) (Or.inl ⟨by rfl, ?_⟩) hHeld ?_ ?_
  rotate_left
  · rintro w' ⟨s0, s1, s2, s3, s4⟩
    go_simp
    with_reducible rfl
  rotate_left
  · simp only [Act.put, List.setIfInBounds_toArray, List.set_cons_zero, List.set_cons_succ, i64_w, i32_w]
    rfl
  refine take_ (i := 7) (N := some 11) (v := ?_) (a' := ?_) #[false, true, true, false, false, false, true, true, false, false, false] rfl rfl (by kernel_rfl) (fun _ _ _ h => h) (Or.inl ⟨by rfl, ?_⟩) hHeld ?_ ?_
  rotate_left
  · rintro w' ⟨s0, s1, s2, s3, s4⟩
    go_simp
    with_reducible rfl
  rotate_left
  · simp only [Act.put, List.setIfInBounds_toArray, List.set_cons_zero, List.set_cons_succ, i64_w, i32_w]
    rfl
  refine one_ (i := 0) (N := some 4) #[true, true, true, false, false, false, true, true, false, false, false] rfl rfl (by kernel_rfl) (by decide) (fun K hK => ?_)
  refine goes_ Tryd.func32 (by kernel_rfl) rfl #[] (by rfl) rfl rfl (by simp only [List.map_toArray, List.map_cons, List.map_nil]) ?_
  with_reducible refine (impl_editWords.calls edL _ rfl).mono ?_
  rintro e w6 ⟨v6, rfl, hr6, hb6⟩
  refine ⟨_, rfl, ?_⟩
  have HB6 := Lib.hid (below_step (below_drew1 HB1.out) hb6)
  have BK6 := Lib.hid (blk_below (show w1.drew.heap[g]? = _ from BK1.out) hb6)
  obtain ⟨A6, c6, rfl, hc6, hC6⟩ := Kd.R_reads hr6
  obtain ⟨ad, ea, hx6⟩ := Kd.at_string hC6 m m0 (by show m < ((10:Nat):Int); exact m1)
  cases ea
  rw [HWD.out] at hx6
  refine hK.out _ _ ⟨(blk_cell BK6.out 0).trans rfl, (blk_cell BK6.out 1).trans rfl, (blk_cell BK6.out 2).trans rfl, (blk_cell BK6.out 3).trans rfl, (blk_cell BK6.out 4).trans rfl⟩ (fun hHeld => ?_)
  clear hK K
  refine norm_ (a' := ?_) ?_ ?_
  rotate_left
  · show Act.put _ (some 4) _ = _
    simp only [Act.put, List.setIfInBounds_toArray, List.set_cons_zero, List.set_cons_succ, i64_w, i32_w]
    rfl
  refine pure_ (i := 3) (N := some 7) (v := ?_) (a' := ?_) #[true, true, true, true, false, false, true, true, false, false, false] rfl rfl (by kernel_rfl) (fun _ _ _ h => h) (Or.inl ⟨by rfl, ?_⟩) ?_ ?_
  rotate_left
  · intro w'
    go_simp
    with_reducible rfl
  rotate_left
  · simp only [Act.put, List.setIfInBounds_toArray, List.set_cons_zero, List.set_cons_succ, i64_w, i32_w]
    rfl
  refine join_ (σ := Unit) 2 #[true, true, true, true, true, true, true, true, true, false, false] ((fun _ => [(8, .string wd), (12, .string t1), (9, .string (wd ++ (⟨#[32]⟩ : ByteArray)))])) ((fun _ w' => (w'.cell? ⟨g, 0, none⟩ = some (.int .i64 m) ∧ w'.cell? ⟨g, 1, none⟩ = some (.int .i64 n) ∧ w'.cell? ⟨g, 2, none⟩ = some (.int .i64 a) ∧ w'.cell? ⟨g, 3, none⟩ = some (.int .i64 b) ∧ w'.cell? ⟨g, 4, none⟩ = some (.string t)) ∧ Below w.heap.size w w')) ?_ ?_
  rotate_left
  · intro hCont
    refine two_ (i := 4) (j := 8) (Ni := some 8) (Nj := some 12) #[true, true, true, true, true, false, true, true, false, false, false] #[true, true, true, true, false, false, true, true, true, false, false] rfl rfl rfl rfl (by kernel_rfl) (by decide) (by decide) (fun K hK => ?_) (fun K hK => ?_)
    · skip
      refine value_ (w1 := ?_) (v := ?_) (by rfl) rfl ?_ ?_
      rotate_left 2
      · go_simp
        constructor
        · rfl
        · rfl
      refine hK.out _ _ ⟨(blk_cell BK6.out 0).trans rfl, (blk_cell BK6.out 1).trans rfl, (blk_cell BK6.out 2).trans rfl, (blk_cell BK6.out 3).trans rfl, (blk_cell BK6.out 4).trans rfl⟩ (fun hHeld => ?_)
      clear hK K
      refine norm_ (a' := ?_) ?_ ?_
      rotate_left
      · show Act.put _ (some 8) _ = _
        simp only [Act.put, List.setIfInBounds_toArray, List.set_cons_zero, List.set_cons_succ, i64_w, i32_w]
        rfl
      refine pure_ (i := 5) (N := some 9) (v := ?_) (a' := ?_) #[true, true, true, true, true, true, true, true, false, false, false] rfl rfl (by kernel_rfl) (fun _ _ _ h => h) (Or.inl ⟨by rfl, ?_⟩) ?_ ?_
      rotate_left
      · intro w'
        go_simp
        with_reducible rfl
      rotate_left
      · simp only [Act.put, List.setIfInBounds_toArray, List.set_cons_zero, List.set_cons_succ, i64_w, i32_w]
        rfl
      refine one_ (i := 8) (N := some 12) #[true, true, true, true, true, true, true, true, true, false, false] rfl rfl (by kernel_rfl) (by decide) (fun K hK => ?_)
      refine goes_ Tryd.func24 (by kernel_rfl) rfl #[.int .i64 n] (by rfl) rfl rfl (by simp only [List.map_toArray, List.map_cons, List.map_nil]; rfl) ?_
      with_reducible refine (strconv_Itoa.calls n t1 _ (HT.out.below HB6.out) H1.out).mono ?_
      rintro e w7 ⟨rfl, hb7⟩
      refine ⟨_, rfl, ?_⟩
      have HB7 := Lib.hid (below_step HB6.out hb7)
      have BK7 := Lib.hid (blk_below BK6.out hb7)
      refine hK.out _ _ ⟨(blk_cell BK7.out 0).trans rfl, (blk_cell BK7.out 1).trans rfl, (blk_cell BK7.out 2).trans rfl, (blk_cell BK7.out 3).trans rfl, (blk_cell BK7.out 4).trans rfl⟩ (fun hHeld => ?_)
      clear hK K
      refine norm_ (a' := ?_) ?_ ?_
      rotate_left
      · show Act.put _ (some 12) _ = _
        simp only [Act.put, List.setIfInBounds_toArray, List.set_cons_zero, List.set_cons_succ, i64_w, i32_w]
        rfl
      exact norm_ (by simp only [putAll, Act.put, List.setIfInBounds_toArray, List.set_cons_zero, List.set_cons_succ]) (hCont () _ ⟨⟨(blk_cell BK7.out 0).trans rfl, (blk_cell BK7.out 1).trans rfl, (blk_cell BK7.out 2).trans rfl, (blk_cell BK7.out 3).trans rfl, (blk_cell BK7.out 4).trans rfl⟩, HB7.out⟩)
    · skip
      refine goes_ Tryd.func24 (by kernel_rfl) rfl #[.int .i64 n] (by rfl) rfl rfl (by simp only [List.map_toArray, List.map_cons, List.map_nil]; rfl) ?_
      with_reducible refine (strconv_Itoa.calls n t1 _ (HT.out.below HB6.out) H1.out).mono ?_
      rintro e w7 ⟨rfl, hb7⟩
      refine ⟨_, rfl, ?_⟩
      have HB7 := Lib.hid (below_step HB6.out hb7)
      have BK7 := Lib.hid (blk_below BK6.out hb7)
      have hx7 := (hb7.cell (World.block_lt_of_cell? _ _ hx6)).trans hx6
      refine hK.out _ _ ⟨(blk_cell BK7.out 0).trans rfl, (blk_cell BK7.out 1).trans rfl, (blk_cell BK7.out 2).trans rfl, (blk_cell BK7.out 3).trans rfl, (blk_cell BK7.out 4).trans rfl⟩ (fun hHeld => ?_)
      clear hK K
      refine norm_ (a' := ?_) ?_ ?_
      rotate_left
      · show Act.put _ (some 12) _ = _
        simp only [Act.put, List.setIfInBounds_toArray, List.set_cons_zero, List.set_cons_succ, i64_w, i32_w]
        rfl
      refine one_ (i := 4) (N := some 8) #[true, true, true, true, true, false, true, true, true, false, false] rfl rfl (by kernel_rfl) (by decide) (fun K hK => ?_)
      refine value_ (w1 := ?_) (v := ?_) (by rfl) rfl ?_ ?_
      rotate_left 2
      · go_simp
        constructor
        · rfl
        · rfl
      refine hK.out _ _ ⟨(blk_cell BK7.out 0).trans rfl, (blk_cell BK7.out 1).trans rfl, (blk_cell BK7.out 2).trans rfl, (blk_cell BK7.out 3).trans rfl, (blk_cell BK7.out 4).trans rfl⟩ (fun hHeld => ?_)
      clear hK K
      refine norm_ (a' := ?_) ?_ ?_
      rotate_left
      · show Act.put _ (some 8) _ = _
        simp only [Act.put, List.setIfInBounds_toArray, List.set_cons_zero, List.set_cons_succ, i64_w, i32_w]
        rfl
      refine pure_ (i := 5) (N := some 9) (v := ?_) (a' := ?_) #[true, true, true, true, true, true, true, true, true, false, false] rfl rfl (by kernel_rfl) (fun _ _ _ h => h) (Or.inl ⟨by rfl, ?_⟩) ?_ ?_
      rotate_left
      · intro w'
        go_simp
        with_reducible rfl
      rotate_left
      · simp only [Act.put, List.setIfInBounds_toArray, List.set_cons_zero, List.set_cons_succ, i64_w, i32_w]
        rfl
      exact norm_ (by simp only [putAll, Act.put, List.setIfInBounds_toArray, List.set_cons_zero, List.set_cons_succ]) (hCont () _ ⟨⟨(blk_cell BK7.out 0).trans rfl, (blk_cell BK7.out 1).trans rfl, (blk_cell BK7.out 2).trans rfl, (blk_cell BK7.out 3).trans rfl, (blk_cell BK7.out 4).trans rfl⟩, HB7.out⟩)
  rintro _ w8 ⟨hHeld, hB8⟩
  refine norm_ (a' := ?_) ?_ ?_
  rotate_left
  · simp only [putAll, Act.put, List.setIfInBounds_toArray, List.set_cons_zero, List.set_cons_succ]
    rfl
  refine pure_ (i := 9) (N := some 13) (v := ?_) (a' := ?_) #[true, true, true, true, true, true, true, true, true, true, false] rfl rfl (by kernel_rfl) (fun _ _ _ h => h) (Or.inl ⟨by rfl, ?_⟩) ?_ ?_
  rotate_left
  · intro w'
    go_simp
    with_reducible rfl
  rotate_left
  · simp only [Act.put, List.setIfInBounds_toArray, List.set_cons_zero, List.set_cons_succ, i64_w, i32_w]
    rfl
  refine pure_ (i := 10) (N := some 3) (v := ?_) (a' := ?_) #[true, true, true, true, true, true, true, true, true, true, true] rfl rfl (by kernel_rfl) (fun _ _ _ h => h) (Or.inl ⟨by rfl, ?_⟩) ?_ ?_
  rotate_left
  · intro w'
    go_simp
    with_reducible rfl
  rotate_left
  · simp only [Act.put, List.setIfInBounds_toArray, List.set_cons_zero, List.set_cons_succ, i64_w, i32_w]
    rfl
  refine done_ (by kernel_rfl) ?_
  
  obtain ⟨z0, z1, z2, z3, z4⟩ := hHeld
  have HB8 := Lib.hid hB8
  obtain ⟨hd, hhd⟩ : ∃ hd, wd ++ (⟨#[32]⟩ : ByteArray) ++ t1 = hd := ⟨_, rfl⟩
  have sh : hd.size ≤ 100000 := by rw [← hhd]; have := sz_app (sz_app s5 (show (⟨#[32]⟩ : ByteArray).size ≤ 1 from Nat.le_refl _)) s1; omega
  have HHD := Lib.hid hhd
  rw [hhd]
  obtain ⟨o1, o2, o3, o4⟩ := ov1 sh
  obtain ⟨o5, o6⟩ := ov2 (x := hd) (y := ta) sh (by omega)
  obtain ⟨o7, o8⟩ := ov2 (x := hd) (y := th) sh (by omega)
  obtain ⟨o9, o10, o11, o12⟩ := ov3 (x := hd) (y := ta) (z := tb) sh (by omega) (by omega)
  clear hB8 hhd hx6 hC6 hr6 hb6 q1 q2 k1 k2 p0 p1 p2 p3 p4
  by_cases d3 : m = 3
  · have e3 : (m == 3) = true := beq_iff_eq.mpr d3
    by_cases dt : t.toList = ([] : List UInt8)
    · have HJ := Lib.hid (show edJ m (wd ++ spC ++ t1) ta tb th t = hd ++ (⟨#[32, 45]⟩ : ByteArray) from by unfold edJ; rw [if_pos d3, if_pos dt, ← HHD.out])
      have et : (t.toList == ([] : List UInt8)) = true := beq_iff_eq.mpr dt
      clear d3 dt
      go_wp2
      go_ret
      exact ⟨by (rw [HJ.out]; rfl), HB8.out⟩
    · have HJ := Lib.hid (show edJ m (wd ++ spC ++ t1) ta tb th t = hd ++ spC ++ th from by unfold edJ; rw [if_pos d3, if_neg dt, ← HHD.out])
      have et : (t.toList == ([] : List UInt8)) = false := beq_eq_false_iff_ne.mpr dt
      clear d3 dt
      go_wp2_with fail
      refine (impl_hexOf.calls k t th w8 H4.out).mono ?_
      rintro e w9 ⟨rfl, hb9⟩
      have HB9 := Lib.hid (below_step HB8.out hb9)
      clear hb9
      go_wp2
      go_ret
      exact ⟨by (rw [HJ.out]; rfl), HB9.out⟩
  have e3 : (m == 3) = false := beq_eq_false_iff_ne.mpr d3
  by_cases d4 : m = 4
  · have e4 : (m == 4) = true := beq_iff_eq.mpr d4
    have HJ := Lib.hid (show edJ m (wd ++ spC ++ t1) ta tb th t = hd ++ spC ++ ta from by unfold edJ; rw [if_neg d3, if_pos (by omega), ← HHD.out])
    clear d3 d4
    go_wp2_with fail
    refine (strconv_Itoa.calls a ta w8 (HT.out.below HB8.out) H2.out).mono ?_
    rintro e w9 ⟨rfl, hb9⟩
    have HB9 := Lib.hid (below_step HB8.out hb9)
    clear hb9
    go_wp2
    go_ret
    exact ⟨by (rw [HJ.out]; rfl), HB9.out⟩
  have e4 : (m == 4) = false := beq_eq_false_iff_ne.mpr d4
  by_cases d6 : m = 6
  · have e6 : (m == 6) = true := beq_iff_eq.mpr d6
    have HJ := Lib.hid (show edJ m (wd ++ spC ++ t1) ta tb th t = hd ++ spC ++ ta from by unfold edJ; rw [if_neg d3, if_pos (by omega), ← HHD.out])
    clear d3 d4 d6
    go_wp2_with fail
    refine (strconv_Itoa.calls a ta w8 (HT.out.below HB8.out) H2.out).mono ?_
    rintro e w9 ⟨rfl, hb9⟩
    have HB9 := Lib.hid (below_step HB8.out hb9)
    clear hb9
    go_wp2
    go_ret
    exact ⟨by (rw [HJ.out]; rfl), HB9.out⟩
  have e6 : (m == 6) = false := beq_eq_false_iff_ne.mpr d6
  by_cases d8 : m = 8
  · have e8 : (m == 8) = true := beq_iff_eq.mpr d8
    have HJ := Lib.hid (show edJ m (wd ++ spC ++ t1) ta tb th t = hd ++ spC ++ ta from by unfold edJ; rw [if_neg d3, if_pos (by omega), ← HHD.out])
    clear d3 d4 d6 d8
    go_wp2_with fail
    refine (strconv_Itoa.calls a ta w8 (HT.out.below HB8.out) H2.out).mono ?_
    rintro e w9 ⟨rfl, hb9⟩
    have HB9 := Lib.hid (below_step HB8.out hb9)
    clear hb9
    go_wp2
    go_ret
    exact ⟨by (rw [HJ.out]; rfl), HB9.out⟩
  have e8 : (m == 8) = false := beq_eq_false_iff_ne.mpr d8
  by_cases d1 : m = 1
  · have e1 : (m == 1) = true := beq_iff_eq.mpr d1
    have HJ := Lib.hid (show edJ m (wd ++ spC ++ t1) ta tb th t = hd ++ spC ++ ta ++ spC ++ tb from by unfold edJ; rw [if_neg d3, if_neg (by omega), if_pos (by omega), ← HHD.out])
    clear d3 d4 d6 d8 d1
    go_wp2_with fail
    refine start_ (n := 12) (S := fun w' => w'.cell? ⟨g, 2, none⟩ = some (.int .i64 a) ∧ w'.cell? ⟨g, 3, none⟩ = some (.int .i64 b)) (ds := []) #[false, false, false, false, false, false, false, false, false, false, false, false] (by kernel_rfl) rfl rfl ⟨z2, z3⟩ (fun hHeld => ?_)
    refine pure_ (i := 0) (N := some 42) (v := ?_) (a' := ?_) #[true, false, false, false, false, false, false, false, false, false, false, false] rfl rfl (by kernel_rfl) (fun _ _ _ h => h) (Or.inl ⟨by rfl, ?_⟩) ?_ ?_
    rotate_left
    · intro w'
      go_simp
      with_reducible rfl
    rotate_left
    · simp only [Act.put, List.setIfInBounds_toArray, List.set_cons_zero, List.set_cons_succ, i64_w, i32_w]
      rfl
    refine pure_ (i := 1) (N := some 43) (v := ?_) (a' := ?_) #[true, true, false, false, false, false, false, false, false, false, false, false] rfl rfl (by kernel_rfl) (fun _ _ _ h => h) (Or.inl ⟨by rfl, ?_⟩) ?_ ?_
    rotate_left
    · intro w'
      go_simp
      with_reducible rfl
    rotate_left
    · simp only [Act.put, List.setIfInBounds_toArray, List.set_cons_zero, List.set_cons_succ, i64_w, i32_w]
      rfl
    refine pure_ (i := 2) (N := some 44) (v := ?_) (a' := ?_) #[true, true, true, false, false, false, false, false, false, false, false, false] rfl rfl (by kernel_rfl) (fun _ _ _ h => h) (Or.inl ⟨by rfl, ?_⟩) ?_ ?_
    rotate_left
    · intro w'
      go_simp
      with_reducible rfl
    rotate_left
    · simp only [Act.put, List.setIfInBounds_toArray, List.set_cons_zero, List.set_cons_succ, i64_w, i32_w]
      rfl
    refine pure_ (i := 7) (N := some 49) (v := ?_) (a' := ?_) #[true, true, true, false, false, false, false, true, false, false, false, false] rfl rfl (by kernel_rfl) (fun _ _ _ h => h) (Or.inl ⟨by rfl, ?_⟩) ?_ ?_
    rotate_left
    · intro w'
      go_simp
      with_reducible rfl
    rotate_left
    · simp only [Act.put, List.setIfInBounds_toArray, List.set_cons_zero, List.set_cons_succ, i64_w, i32_w]
      rfl
    refine take_ (i := 3) (N := some 45) (v := ?_) (a' := ?_) #[true, true, true, true, false, false, false, true, false, false, false, false] rfl rfl (by kernel_rfl) (fun _ _ _ h => h) (Or.inl ⟨by rfl, ?_⟩) hHeld ?_ ?_
    rotate_left
    · rintro w' ⟨s0, s1⟩
      go_simp
      with_reducible rfl
    rotate_left
    · simp only [Act.put, List.setIfInBounds_toArray, List.set_cons_zero, List.set_cons_succ, i64_w, i32_w]
      rfl
    refine take_ (i := 8) (N := some 50) (v := ?_) (a' := ?_) #[true, true, true, true, false, false, false, true, true, false, false, false] rfl rfl (by kernel_rfl) (fun _ _ _ h => h) (Or.inl ⟨by rfl, ?_⟩) hHeld ?_ ?_
    rotate_left
    · rintro w' ⟨s0, s1⟩
      go_simp
      with_reducible rfl
    rotate_left
    · simp only [Act.put, List.setIfInBounds_toArray, List.set_cons_zero, List.set_cons_succ, i64_w, i32_w]
      rfl
    refine one_ (i := 4) (N := some 46) #[true, true, true, true, true, false, false, true, true, false, false, false] rfl rfl (by kernel_rfl) (by decide) (fun K hK => ?_)
    refine goes_ Tryd.func24 (by kernel_rfl) rfl #[.int .i64 a] (by rfl) rfl rfl (by simp only [List.map_toArray, List.map_cons, List.map_nil]; rfl) ?_
    with_reducible refine (strconv_Itoa.calls a ta _ (HT.out.below (below_drew1 HB8.out)) H2.out).mono ?_
    rintro e w9 ⟨rfl, hb9⟩
    refine ⟨_, rfl, ?_⟩
    have HB9 := Lib.hid (below_step (below_drew1 HB8.out) hb9)
    have y2 := (hb9.cell (World.block_lt_of_cell? _ _ (show w8.drew.cell? ⟨g, 2, none⟩ = _ from z2))).trans z2
    have y3 := (hb9.cell (World.block_lt_of_cell? _ _ (show w8.drew.cell? ⟨g, 3, none⟩ = _ from z3))).trans z3
    refine hK.out _ _ ⟨y2, y3⟩ (fun hHeld => ?_)
    clear hK K
    refine norm_ (a' := ?_) ?_ ?_
    rotate_left
    · show Act.put _ (some 46) _ = _
      simp only [Act.put, List.setIfInBounds_toArray, List.set_cons_zero, List.set_cons_succ, i64_w, i32_w]
      rfl
    refine pure_ (i := 5) (N := some 47) (v := ?_) (a' := ?_) #[true, true, true, true, true, true, false, true, true, false, false, false] rfl rfl (by kernel_rfl) (fun _ _ _ h => h) (Or.inl ⟨by rfl, ?_⟩) ?_ ?_
    rotate_left
    · intro w'
      go_simp
      with_reducible rfl
    rotate_left
    · simp only [Act.put, List.setIfInBounds_toArray, List.set_cons_zero, List.set_cons_succ, i64_w, i32_w]
      rfl
    refine pure_ (i := 6) (N := some 48) (v := ?_) (a' := ?_) #[true, true, true, true, true, true, true, true, true, false, false, false] rfl rfl (by kernel_rfl) (fun _ _ _ h => h) (Or.inl ⟨by rfl, ?_⟩) ?_ ?_
    rotate_left
    · intro w'
      go_simp
      with_reducible rfl
    rotate_left
    · simp only [Act.put, List.setIfInBounds_toArray, List.set_cons_zero, List.set_cons_succ, i64_w, i32_w]
      rfl
    refine one_ (i := 9) (N := some 51) #[true, true, true, true, true, true, true, true, true, true, false, false] rfl rfl (by kernel_rfl) (by decide) (fun K hK => ?_)
    refine goes_ Tryd.func24 (by kernel_rfl) rfl #[.int .i64 b] (by rfl) rfl rfl (by simp only [List.map_toArray, List.map_cons, List.map_nil]; rfl) ?_
    with_reducible refine (strconv_Itoa.calls b tb _ (HT.out.below HB9.out) H3.out).mono ?_
    rintro e w10 ⟨rfl, hb10⟩
    refine ⟨_, rfl, ?_⟩
    have HB10 := Lib.hid (below_step HB9.out hb10)
    refine hK.out _ _ ⟨(hb10.cell (World.block_lt_of_cell? _ _ y2)).trans y2, (hb10.cell (World.block_lt_of_cell? _ _ y3)).trans y3⟩ (fun hHeld => ?_)
    clear hK K
    refine norm_ (a' := ?_) ?_ ?_
    rotate_left
    · show Act.put _ (some 51) _ = _
      simp only [Act.put, List.setIfInBounds_toArray, List.set_cons_zero, List.set_cons_succ, i64_w, i32_w]
      rfl
    refine pure_ (i := 10) (N := some 52) (v := ?_) (a' := ?_) #[true, true, true, true, true, true, true, true, true, true, true, false] rfl rfl (by kernel_rfl) (fun _ _ _ h => h) (Or.inl ⟨by rfl, ?_⟩) ?_ ?_
    rotate_left
    · intro w'
      go_simp
      with_reducible rfl
    rotate_left
    · simp only [Act.put, List.setIfInBounds_toArray, List.set_cons_zero, List.set_cons_succ, i64_w, i32_w]
      rfl
    refine pure_ (i := 11) (N := some 2) (v := ?_) (a' := ?_) #[true, true, true, true, true, true, true, true, true, true, true, true] rfl rfl (by kernel_rfl) (fun _ _ _ h => h) (Or.inl ⟨by rfl, ?_⟩) ?_ ?_
    rotate_left
    · intro w'
      go_simp
      with_reducible rfl
    rotate_left
    · simp only [Act.put, List.setIfInBounds_toArray, List.set_cons_zero, List.set_cons_succ, i64_w, i32_w]
      rfl
    refine done_ (by kernel_rfl) ?_
    
    go_wp2
    go_ret
    exact ⟨by (rw [HJ.out]; rfl), HB10.out⟩
  have e1 : (m == 1) = false := beq_eq_false_iff_ne.mpr d1
  by_cases d5 : m = 5
  · have e5 : (m == 5) = true := beq_iff_eq.mpr d5
    have HJ := Lib.hid (show edJ m (wd ++ spC ++ t1) ta tb th t = hd ++ spC ++ ta ++ spC ++ tb from by unfold edJ; rw [if_neg d3, if_neg (by omega), if_pos (by omega), ← HHD.out])
    clear d3 d4 d6 d8 d1 d5
    go_wp2_with fail
    refine start_ (n := 12) (S := fun w' => w'.cell? ⟨g, 2, none⟩ = some (.int .i64 a) ∧ w'.cell? ⟨g, 3, none⟩ = some (.int .i64 b)) (ds := []) #[false, false, false, false, false, false, false, false, false, false, false, false] (by kernel_rfl) rfl rfl ⟨z2, z3⟩ (fun hHeld => ?_)
    refine pure_ (i := 0) (N := some 42) (v := ?_) (a' := ?_) #[true, false, false, false, false, false, false, false, false, false, false, false] rfl rfl (by kernel_rfl) (fun _ _ _ h => h) (Or.inl ⟨by rfl, ?_⟩) ?_ ?_
    rotate_left
    · intro w'
      go_simp
      with_reducible rfl
    rotate_left
    · simp only [Act.put, List.setIfInBounds_toArray, List.set_cons_zero, List.set_cons_succ, i64_w, i32_w]
      rfl
    refine pure_ (i := 1) (N := some 43) (v := ?_) (a' := ?_) #[true, true, false, false, false, false, false, false, false, false, false, false] rfl rfl (by kernel_rfl) (fun _ _ _ h => h) (Or.inl ⟨by rfl, ?_⟩) ?_ ?_
    rotate_left
    · intro w'
      go_simp
      with_reducible rfl
    rotate_left
    · simp only [Act.put, List.setIfInBounds_toArray, List.set_cons_zero, List.set_cons_succ, i64_w, i32_w]
      rfl
    refine pure_ (i := 2) (N := some 44) (v := ?_) (a' := ?_) #[true, true, true, false, false, false, false, false, false, false, false, false] rfl rfl (by kernel_rfl) (fun _ _ _ h => h) (Or.inl ⟨by rfl, ?_⟩) ?_ ?_
    rotate_left
    · intro w'
      go_simp
      with_reducible rfl
    rotate_left
    · simp only [Act.put, List.setIfInBounds_toArray, List.set_cons_zero, List.set_cons_succ, i64_w, i32_w]
      rfl
    refine pure_ (i := 7) (N := some 49) (v := ?_) (a' := ?_) #[true, true, true, false, false, false, false, true, false, false, false, false] rfl rfl (by kernel_rfl) (fun _ _ _ h => h) (Or.inl ⟨by rfl, ?_⟩) ?_ ?_
    rotate_left
    · intro w'
      go_simp
      with_reducible rfl
    rotate_left
    · simp only [Act.put, List.setIfInBounds_toArray, List.set_cons_zero, List.set_cons_succ, i64_w, i32_w]
      rfl
    refine take_ (i := 3) (N := some 45) (v := ?_) (a' := ?_) #[true, true, true, true, false, false, false, true, false, false, false, false] rfl rfl (by kernel_rfl) (fun _ _ _ h => h) (Or.inl ⟨by rfl, ?_⟩) hHeld ?_ ?_
    rotate_left
    · rintro w' ⟨s0, s1⟩
      go_simp
      with_reducible rfl
    rotate_left
    · simp only [Act.put, List.setIfInBounds_toArray, List.set_cons_zero, List.set_cons_succ, i64_w, i32_w]
      rfl
    refine take_ (i := 8) (N := some 50) (v := ?_) (a' := ?_) #[true, true, true, true, false, false, false, true, true, false, false, false] rfl rfl (by kernel_rfl) (fun _ _ _ h => h) (Or.inl ⟨by rfl, ?_⟩) hHeld ?_ ?_
    rotate_left
    · rintro w' ⟨s0, s1⟩
      go_simp
      with_reducible rfl
    rotate_left
    · simp only [Act.put, List.setIfInBounds_toArray, List.set_cons_zero, List.set_cons_succ, i64_w, i32_w]
      rfl
    refine one_ (i := 4) (N := some 46) #[true, true, true, true, true, false, false, true, true, false, false, false] rfl rfl (by kernel_rfl) (by decide) (fun K hK => ?_)
    refine goes_ Tryd.func24 (by kernel_rfl) rfl #[.int .i64 a] (by rfl) rfl rfl (by simp only [List.map_toArray, List.map_cons, List.map_nil]; rfl) ?_
    with_reducible refine (strconv_Itoa.calls a ta _ (HT.out.below (below_drew1 HB8.out)) H2.out).mono ?_
    rintro e w9 ⟨rfl, hb9⟩
    refine ⟨_, rfl, ?_⟩
    have HB9 := Lib.hid (below_step (below_drew1 HB8.out) hb9)
    have y2 := (hb9.cell (World.block_lt_of_cell? _ _ (show w8.drew.cell? ⟨g, 2, none⟩ = _ from z2))).trans z2
    have y3 := (hb9.cell (World.block_lt_of_cell? _ _ (show w8.drew.cell? ⟨g, 3, none⟩ = _ from z3))).trans z3
    refine hK.out _ _ ⟨y2, y3⟩ (fun hHeld => ?_)
    clear hK K
    refine norm_ (a' := ?_) ?_ ?_
    rotate_left
    · show Act.put _ (some 46) _ = _
      simp only [Act.put, List.setIfInBounds_toArray, List.set_cons_zero, List.set_cons_succ, i64_w, i32_w]
      rfl
    refine pure_ (i := 5) (N := some 47) (v := ?_) (a' := ?_) #[true, true, true, true, true, true, false, true, true, false, false, false] rfl rfl (by kernel_rfl) (fun _ _ _ h => h) (Or.inl ⟨by rfl, ?_⟩) ?_ ?_
    rotate_left
    · intro w'
      go_simp
      with_reducible rfl
    rotate_left
    · simp only [Act.put, List.setIfInBounds_toArray, List.set_cons_zero, List.set_cons_succ, i64_w, i32_w]
      rfl
    refine pure_ (i := 6) (N := some 48) (v := ?_) (a' := ?_) #[true, true, true, true, true, true, true, true, true, false, false, false] rfl rfl (by kernel_rfl) (fun _ _ _ h => h) (Or.inl ⟨by rfl, ?_⟩) ?_ ?_
    rotate_left
    · intro w'
      go_simp
      with_reducible rfl
    rotate_left
    · simp only [Act.put, List.setIfInBounds_toArray, List.set_cons_zero, List.set_cons_succ, i64_w, i32_w]
      rfl
    refine one_ (i := 9) (N := some 51) #[true, true, true, true, true, true, true, true, true, true, false, false] rfl rfl (by kernel_rfl) (by decide) (fun K hK => ?_)
    refine goes_ Tryd.func24 (by kernel_rfl) rfl #[.int .i64 b] (by rfl) rfl rfl (by simp only [List.map_toArray, List.map_cons, List.map_nil]; rfl) ?_
    with_reducible refine (strconv_Itoa.calls b tb _ (HT.out.below HB9.out) H3.out).mono ?_
    rintro e w10 ⟨rfl, hb10⟩
    refine ⟨_, rfl, ?_⟩
    have HB10 := Lib.hid (below_step HB9.out hb10)
    refine hK.out _ _ ⟨(hb10.cell (World.block_lt_of_cell? _ _ y2)).trans y2, (hb10.cell (World.block_lt_of_cell? _ _ y3)).trans y3⟩ (fun hHeld => ?_)
    clear hK K
    refine norm_ (a' := ?_) ?_ ?_
    rotate_left
    · show Act.put _ (some 51) _ = _
      simp only [Act.put, List.setIfInBounds_toArray, List.set_cons_zero, List.set_cons_succ, i64_w, i32_w]
      rfl
    refine pure_ (i := 10) (N := some 52) (v := ?_) (a' := ?_) #[true, true, true, true, true, true, true, true, true, true, true, false] rfl rfl (by kernel_rfl) (fun _ _ _ h => h) (Or.inl ⟨by rfl, ?_⟩) ?_ ?_
    rotate_left
    · intro w'
      go_simp
      with_reducible rfl
    rotate_left
    · simp only [Act.put, List.setIfInBounds_toArray, List.set_cons_zero, List.set_cons_succ, i64_w, i32_w]
      rfl
    refine pure_ (i := 11) (N := some 2) (v := ?_) (a' := ?_) #[true, true, true, true, true, true, true, true, true, true, true, true] rfl rfl (by kernel_rfl) (fun _ _ _ h => h) (Or.inl ⟨by rfl, ?_⟩) ?_ ?_
    rotate_left
    · intro w'
      go_simp
      with_reducible rfl
    rotate_left
    · simp only [Act.put, List.setIfInBounds_toArray, List.set_cons_zero, List.set_cons_succ, i64_w, i32_w]
      rfl
    refine done_ (by kernel_rfl) ?_
    
    go_wp2
    go_ret
    exact ⟨by (rw [HJ.out]; rfl), HB10.out⟩
  have e5 : (m == 5) = false := beq_eq_false_iff_ne.mpr d5
  have HJ := Lib.hid (show edJ m (wd ++ spC ++ t1) ta tb th t = hd from by unfold edJ; rw [if_neg d3, if_neg (by omega), if_neg (by omega), ← HHD.out])
  clear d3 d4 d6 d8 d1 d5
  go_wp2
  go_ret
  exact ⟨by (rw [HJ.out]; rfl), HB8.out⟩
def spL : List ByteArray := [(⟨#[105, 110, 115, 101, 114, 116]⟩ : ByteArray), ⟨#[100, 101, 108, 101, 116, 101]⟩, ⟨#[116, 101, 120, 116]⟩, ⟨#[97, 116, 116, 114]⟩, ⟨#[109, 111, 118, 101]⟩, ⟨#[119, 114, 97, 112]⟩, ⟨#[108, 105, 102, 116]⟩, ⟨#[115, 112, 108, 105, 116]⟩, ⟨#[106, 111, 105, 110]⟩]
def spW (m : Int) : ByteArray := rdOf ByteArray.empty spL (m - 1)
def spM (m : Int) : Nat := if m = 1 ∨ m = 5 then 2 else if m = 4 ∨ m = 6 ∨ m = 8 then 1 else 0
def spA (h ta tb : ByteArray) : Nat → ByteArray
  | 0 => h
  | 1 => h ++ (spC ++ ta)
  | _ => h ++ (spC ++ ta) ++ (spC ++ tb)
def spJ (m : Int) (h ta tb th : ByteArray) : ByteArray := if m = 3 then h ++ (spC ++ th) else spA h ta tb (spM m)
def spec_l06Text.f (k : Nat) (m n a b : Int) (t : ByteArray) : Option ByteArray :=
  (spec_l00Digits.f k n).bind fun t1 => (spec_l00Digits.f k a).bind fun ta => (spec_l00Digits.f k b).bind fun tb => (spec_l06Quote.f k t).bind fun th =>
    if ((t1.size ≤ 1000 ∧ ta.size ≤ 1000 ∧ tb.size ≤ 1000 ∧ th.size ≤ 1000 ∧ (spW m).size ≤ 1000) ∧ (1 ≤ m ∧ m < 10)) then some (spJ m (spW m ++ spC ++ t1) ta tb th) else none
theorem spec_l06Text.mono : ∀ a0 a1 a2 a3 a4 k, LeO (spec_l06Text.f k a0 a1 a2 a3 a4) (spec_l06Text.f (k + 1) a0 a1 a2 a3 a4) := by
  intro a0 a1 a2 a3 a4 k
  unfold spec_l06Text.f
  exact LeO.bind (spec_l00Digits.mono _ _) (fun _ => LeO.bind (spec_l00Digits.mono _ _) (fun _ => LeO.bind (spec_l00Digits.mono _ _) (fun _ => LeO.bind (spec_l06Quote.mono _ _) (fun _ => LeO.refl _))))
theorem spM_le (m : Int) : spM m ≤ 2 := by unfold spM; split; exact Nat.le_refl _; split <;> omega
theorem many_m : ∀ j : Fin 9, spec_l06Many.f ((j.val : Int) + 1) = some ((spM ((j.val : Int) + 1) : Nat) : Int) := by decide +kernel
theorem many_eq {m : Int} (h0 : 1 ≤ m) (h1 : m < 10) : spec_l06Many.f m = some ((spM m : Nat) : Int) := by
  obtain ⟨j, rfl⟩ : ∃ j : Nat, m = (j : Int) + 1 := ⟨(m - 1).toNat, by omega⟩
  exact many_m ⟨j, by omega⟩
theorem spA_size {h ta tb : ByteArray} (h0 : h.size ≤ 3000) (h1 : ta.size ≤ 1000) (h2 : tb.size ≤ 1000) (i : Nat) : (spA h ta tb i).size ≤ 100000 := by
  have e1 : spC.size = 1 := rfl
  unfold spA
  split
  · omega
  · simp only [ByteArray.size_append, e1]; omega
  · simp only [ByteArray.size_append, e1]; omega
theorem ovA {x y : ByteArray} (h : x.size ≤ 100000) (g : y.size ≤ 100000) : (9223372036854775807 < (⟨#[32]⟩ : ByteArray).size + y.size) = False ∧ (9223372036854775807 < 1 + y.size) = False ∧ (9223372036854775807 < x.size + ((⟨#[32]⟩ : ByteArray) ++ y).size) = False ∧ (9223372036854775807 < x.size + (1 + y.size)) = False := by
  have e1 : (⟨#[32]⟩ : ByteArray).size = 1 := rfl
  simp only [ByteArray.size_append, e1]
  exact ⟨eq_false (by omega), eq_false (by omega), eq_false (by omega), eq_false (by omega)⟩
theorem sp_lt {i M : Nat} (h : i < M) : decide ((i : Int) < (M : Int)) = true := decide_eq_true (by omega)
theorem sp_nlt {i M : Nat} (h : ¬ i < M) : decide ((i : Int) < (M : Int)) = false := decide_eq_false (by omega)
theorem sp_w {i : Nat} (h : i < 2) : wrap64 ((i : Int) + 1) = ((i + 1 : Nat) : Int) := by rw [wid (by omega) (by omega)]; omega
set_option maxHeartbeats 4000000 in
set_option maxRecDepth 100000 in
theorem spec_l06Text.calls (k : Nat) (m n a b : Int) (t : ByteArray) (r : ByteArray) (w : World) (h : spec_l06Text.f k m n a b t = some r) :
    Calls Tryd.prog 20 #[.agg #[.int .i64 m, .int .i64 n, .int .i64 a, .int .i64 b, .string t]] w fun e w' => e = .returned (.string r) ∧ Below w.heap.size w w' := by
  have hu := Tryd.underlying29
  unfold spec_l06Text.f at h
  obtain ⟨t1, h1, h⟩ := Option.bind_eq_some_iff.1 h
  obtain ⟨ta, h2, h⟩ := Option.bind_eq_some_iff.1 h
  obtain ⟨tb, h3, h⟩ := Option.bind_eq_some_iff.1 h
  obtain ⟨th, h4, h⟩ := Option.bind_eq_some_iff.1 h
  by_cases c : ((t1.size ≤ 1000 ∧ ta.size ≤ 1000 ∧ tb.size ≤ 1000 ∧ th.size ≤ 1000 ∧ (spW m).size ≤ 1000) ∧ (1 ≤ m ∧ m < 10))
  case neg => rw [if_neg c] at h; cases h
  rw [if_pos c] at h
  obtain rfl := Option.some.inj h
  obtain ⟨⟨s1, s2, s3, s4, s5⟩, m0, m1⟩ := c
  have H1 := Lib.hid h1
  have H2 := Lib.hid h2
  have H3 := Lib.hid h3
  have H4 := Lib.hid h4
  have HMY := Lib.hid (many_eq m0 m1)
  have HM2 := Lib.hid (spM_le m)
  clear h h1 h2 h3 h4
  have wj : wrap64 (m - 1) = m - 1 := wid (by omega) (by omega)
  obtain ⟨j, hj⟩ : ∃ j, m - 1 = j := ⟨_, rfl⟩
  rw [hj] at wj
  have j0 : 0 ≤ j := by omega
  have j1 : j < 9 := by omega
  have p0 : decide (0 ≤ j) = true := decide_eq_true j0
  have p1 : decide (j < 9) = true := decide_eq_true j1
  have p2 : decide (j < (spL.length : Int)) = true := decide_eq_true j1
  have p3 : (j < (spL.length : Int)) = True := eq_true j1
  have p4 : (0 ≤ j) = True := eq_true j0
  obtain ⟨wd, hwd⟩ : ∃ wd, spW m = wd := ⟨_, rfl⟩
  rw [hwd] at s5 ⊢
  have HWD := Lib.hid (show rdOf ByteArray.empty spL j = wd from by rw [← hj]; exact hwd)
  have q1 : (9223372036854775807 < wd.size + (⟨#[32]⟩ : ByteArray).size) = False := eq_false (by have : (⟨#[32]⟩ : ByteArray).size = 1 := rfl; omega)
  have q2 : (9223372036854775807 < (wd ++ (⟨#[32]⟩ : ByteArray)).size + t1.size) = False := eq_false (by have : (⟨#[32]⟩ : ByteArray).size = 1 := rfl; rw [ByteArray.size_append]; omega)
  have k1 : (9223372036854775807 < wd.size + 1) = False := eq_false (by omega)
  have k2 : (9223372036854775807 < wd.size + 1 + t1.size) = False := eq_false (by omega)
  have J01 := Lib.hid (And.intro j0 j1)
  clear hwd m0 m1 j0 j1
  go_enter Tryd.func20, Tryd.ntmps20
  go_upto_region 1 with (first | ((with_reducible refine gate_dst (N := 1) rfl ?_); refine box_event ?hg (N := 1) ?hd (cs := #[.int .i64 m, .int .i64 n, .int .i64 a, .int .i64 b, .string t]) (t := 29) ?hr ?_; (case hd => rfl); (case hg => rfl); (case hr => first | (go_simp; done) | (go_simp; rfl)); intro g hg w1 hb1 hB1; clear hg; have BK1 := Lib.hid hb1; have HB1 := Lib.hid hB1; clear hb1 hB1))
  have z0 : World.cell? w1 ⟨g, 0, none⟩ = some (.int .i64 m) := (blk_cell BK1.out 0).trans rfl; have z1 : World.cell? w1 ⟨g, 1, none⟩ = some (.int .i64 n) := (blk_cell BK1.out 1).trans rfl; have z2 : World.cell? w1 ⟨g, 2, none⟩ = some (.int .i64 a) := (blk_cell BK1.out 2).trans rfl; have z3 : World.cell? w1 ⟨g, 3, none⟩ = some (.int .i64 b) := (blk_cell BK1.out 3).trans rfl; have z4 : World.cell? w1 ⟨g, 4, none⟩ = some (.string t) := (blk_cell BK1.out 4).trans rfl
  refine start_ (n := 12) (S := fun w' => w'.cell? ⟨g, 0, none⟩ = some (.int .i64 m) ∧ w'.cell? ⟨g, 1, none⟩ = some (.int .i64 n) ∧ w'.cell? ⟨g, 2, none⟩ = some (.int .i64 a) ∧ w'.cell? ⟨g, 3, none⟩ = some (.int .i64 b) ∧ w'.cell? ⟨g, 4, none⟩ = some (.string t)) (ds := []) #[false, false, false, false, false, false, false, false, false, false, false, false] (by kernel_rfl) rfl rfl ⟨z0, z1, z2, z3, z4⟩ (fun hHeld => ?_)
  refine pure_ (i := 1) (N := some 7) (v := ?_) (a' := ?_) #[false, true, false, false, false, false, false, false, false, false, false, false] rfl rfl (by kernel_rfl) (fun _ _ _ h => h) (Or.inl ⟨by rfl, ?_⟩) ?_ ?_
  rotate_left
  · intro w'
    go_simp
    with_reducible rfl
  rotate_left
  · simp only [Act.put, List.setIfInBounds_toArray, List.set_cons_zero, List.set_cons_succ, i64_w, i32_w]
    rfl
  refine pure_ (i := 7) (N := some 13) (v := ?_) (a' := ?_) #[false, true, false, false, false, false, false, true, false, false, false, false] rfl rfl (by kernel_rfl) (fun _ _ _ h => h) (Or.inl ⟨by rfl, ?_⟩) ?_ ?_
  rotate_left
  · intro w'
    go_simp
    with_reducible rfl
  rotate_left
  · simp only [Act.put, List.setIfInBounds_toArray, List.set_cons_zero, List.set_cons_succ, i64_w, i32_w]
    rfl
  refine take_ (i := 2) (N := some 8) (v := ?_) (a' := ?_) #[false, true, true, false, false, false, false, true, false, false, false, false] rfl rfl (by kernel_rfl) (fun _ _ _ h => h) (Or.inl ⟨by rfl, ?_⟩) hHeld ?_ ?_
  rotate_left
  · rintro w' ⟨s0, s1, s2, s3, s4⟩
    go_simp
    with_reducible rfl
  rotate_left
  · simp only [Act.put, List.setIfInBounds_toArray, List.set_cons_zero, List.set_cons_succ, i64_w, i32_w]
    rfl
  refine pure_ (i := 3) (N := some 9) (v := ?_) (a' := ?_) #[false, true, true, true, false, false, false, true, false, false, false, false] rfl rfl (by kernel_rfl) (fun _ _ _ h => h) (Or.inl ⟨by rfl, ?_⟩) ?_ ?_
  rotate_left
  · intro w'
    go_simp
    with_reducible rfl
  rotate_left
  · simp only [Act.put, List.setIfInBounds_toArray, List.set_cons_zero, List.set_cons_succ, i64_w, i32_w]
    rfl
  refine take_ (i := 8) (N := some 14) (v := ?_) (a' := ?_) #[false, true, true, true, false, false, false, true, true, false, false, false] rfl rfl (by kernel_rfl) (fun _ _ _ h => h) (Or.inl ⟨by rfl, ?_⟩) hHeld ?_ ?_
  rotate_left
  · rintro w' ⟨s0, s1, s2, s3, s4⟩
    go_simp
    with_reducible rfl
  rotate_left
  · simp only [Act.put, List.setIfInBounds_toArray, List.set_cons_zero, List.set_cons_succ, i64_w, i32_w]
    rfl
  refine one_ (i := 0) (N := some 6) #[true, true, true, true, false, false, false, true, true, false, false, false] rfl rfl (by kernel_rfl) (by decide) (fun K hK => ?_)
  refine goes_ Tryd.func28 (by kernel_rfl) rfl #[] (by rfl) rfl rfl (by simp only [List.map_toArray, List.map_cons, List.map_nil]) ?_
  with_reducible refine (spec_l06Words.calls spL _ rfl).mono ?_
  rintro e w6 ⟨v6, rfl, hr6, hb6⟩
  refine ⟨_, rfl, ?_⟩
  have HB6 := Lib.hid (below_step (below_drew1 HB1.out) hb6)
  have BK6 := Lib.hid (blk_below (show w1.drew.heap[g]? = _ from BK1.out) hb6)
  obtain ⟨A6, c6, rfl, hc6, hC6⟩ := Kd.R_reads hr6
  obtain ⟨ad, ea, hx6⟩ := Kd.at_string hC6 j J01.out.1 (by show j < ((9:Nat):Int); exact J01.out.2)
  cases ea
  rw [HWD.out] at hx6
  refine hK.out _ _ ⟨(blk_cell BK6.out 0).trans rfl, (blk_cell BK6.out 1).trans rfl, (blk_cell BK6.out 2).trans rfl, (blk_cell BK6.out 3).trans rfl, (blk_cell BK6.out 4).trans rfl⟩ (fun hHeld => ?_)
  clear hK K
  refine norm_ (a' := ?_) ?_ ?_
  rotate_left
  · show Act.put _ (some 6) _ = _
    simp only [Act.put, List.setIfInBounds_toArray, List.set_cons_zero, List.set_cons_succ, i64_w, i32_w]
    rfl
  refine pure_ (i := 4) (N := some 10) (v := ?_) (a' := ?_) #[true, true, true, true, true, false, false, true, true, false, false, false] rfl rfl (by kernel_rfl) (fun _ _ _ h => h) (Or.inl ⟨by rfl, ?_⟩) ?_ ?_
  rotate_left
  · intro w'
    go_simp
    with_reducible rfl
  rotate_left
  · simp only [Act.put, List.setIfInBounds_toArray, List.set_cons_zero, List.set_cons_succ, i64_w, i32_w]
    rfl
  refine join_ (σ := Unit) 2 #[true, true, true, true, true, true, true, true, true, true, false, false] ((fun _ => [(11, .string wd), (15, .string t1), (12, .string (wd ++ (⟨#[32]⟩ : ByteArray)))])) ((fun _ w' => (w'.cell? ⟨g, 0, none⟩ = some (.int .i64 m) ∧ w'.cell? ⟨g, 1, none⟩ = some (.int .i64 n) ∧ w'.cell? ⟨g, 2, none⟩ = some (.int .i64 a) ∧ w'.cell? ⟨g, 3, none⟩ = some (.int .i64 b) ∧ w'.cell? ⟨g, 4, none⟩ = some (.string t)) ∧ w'.heap[g]? = some (.cells #[.int .i64 m, .int .i64 n, .int .i64 a, .int .i64 b, .string t] 29 (0, 0)) ∧ Below w.heap.size w w')) ?_ ?_
  rotate_left
  · intro hCont
    refine two_ (i := 5) (j := 9) (Ni := some 11) (Nj := some 15) #[true, true, true, true, true, true, false, true, true, false, false, false] #[true, true, true, true, true, false, false, true, true, true, false, false] rfl rfl rfl rfl (by kernel_rfl) (by decide) (by decide) (fun K hK => ?_) (fun K hK => ?_)
    · skip
      refine value_ (w1 := ?_) (v := ?_) (by rfl) rfl ?_ ?_
      rotate_left 2
      · go_simp
        constructor
        · rfl
        · rfl
      refine hK.out _ _ ⟨(blk_cell BK6.out 0).trans rfl, (blk_cell BK6.out 1).trans rfl, (blk_cell BK6.out 2).trans rfl, (blk_cell BK6.out 3).trans rfl, (blk_cell BK6.out 4).trans rfl⟩ (fun hHeld => ?_)
      clear hK K
      refine norm_ (a' := ?_) ?_ ?_
      rotate_left
      · show Act.put _ (some 11) _ = _
        simp only [Act.put, List.setIfInBounds_toArray, List.set_cons_zero, List.set_cons_succ, i64_w, i32_w]
        rfl
      refine pure_ (i := 6) (N := some 12) (v := ?_) (a' := ?_) #[true, true, true, true, true, true, true, true, true, false, false, false] rfl rfl (by kernel_rfl) (fun _ _ _ h => h) (Or.inl ⟨by rfl, ?_⟩) ?_ ?_
      rotate_left
      · intro w'
        go_simp
        with_reducible rfl
      rotate_left
      · simp only [Act.put, List.setIfInBounds_toArray, List.set_cons_zero, List.set_cons_succ, i64_w, i32_w]
        rfl
      refine one_ (i := 9) (N := some 15) #[true, true, true, true, true, true, true, true, true, true, false, false] rfl rfl (by kernel_rfl) (by decide) (fun K hK => ?_)
      refine goes_ Tryd.func18 (by kernel_rfl) rfl #[.int .i64 n] (by rfl) rfl rfl (by simp only [List.map_toArray, List.map_cons, List.map_nil]; rfl) ?_
      with_reducible refine (spec_l00Digits.calls k n t1 _ H1.out).mono ?_
      rintro e w7 ⟨rfl, hb7⟩
      refine ⟨_, rfl, ?_⟩
      have HB7 := Lib.hid (below_step HB6.out hb7)
      have BK7 := Lib.hid (blk_below BK6.out hb7)
      refine hK.out _ _ ⟨(blk_cell BK7.out 0).trans rfl, (blk_cell BK7.out 1).trans rfl, (blk_cell BK7.out 2).trans rfl, (blk_cell BK7.out 3).trans rfl, (blk_cell BK7.out 4).trans rfl⟩ (fun hHeld => ?_)
      clear hK K
      refine norm_ (a' := ?_) ?_ ?_
      rotate_left
      · show Act.put _ (some 15) _ = _
        simp only [Act.put, List.setIfInBounds_toArray, List.set_cons_zero, List.set_cons_succ, i64_w, i32_w]
        rfl
      exact norm_ (by simp only [putAll, Act.put, List.setIfInBounds_toArray, List.set_cons_zero, List.set_cons_succ]) (hCont () _ ⟨⟨(blk_cell BK7.out 0).trans rfl, (blk_cell BK7.out 1).trans rfl, (blk_cell BK7.out 2).trans rfl, (blk_cell BK7.out 3).trans rfl, (blk_cell BK7.out 4).trans rfl⟩, BK7.out, HB7.out⟩)
    · skip
      refine goes_ Tryd.func18 (by kernel_rfl) rfl #[.int .i64 n] (by rfl) rfl rfl (by simp only [List.map_toArray, List.map_cons, List.map_nil]; rfl) ?_
      with_reducible refine (spec_l00Digits.calls k n t1 _ H1.out).mono ?_
      rintro e w7 ⟨rfl, hb7⟩
      refine ⟨_, rfl, ?_⟩
      have HB7 := Lib.hid (below_step HB6.out hb7)
      have BK7 := Lib.hid (blk_below BK6.out hb7)
      have hx7 := (hb7.cell (World.block_lt_of_cell? _ _ hx6)).trans hx6
      refine hK.out _ _ ⟨(blk_cell BK7.out 0).trans rfl, (blk_cell BK7.out 1).trans rfl, (blk_cell BK7.out 2).trans rfl, (blk_cell BK7.out 3).trans rfl, (blk_cell BK7.out 4).trans rfl⟩ (fun hHeld => ?_)
      clear hK K
      refine norm_ (a' := ?_) ?_ ?_
      rotate_left
      · show Act.put _ (some 15) _ = _
        simp only [Act.put, List.setIfInBounds_toArray, List.set_cons_zero, List.set_cons_succ, i64_w, i32_w]
        rfl
      refine one_ (i := 5) (N := some 11) #[true, true, true, true, true, true, false, true, true, true, false, false] rfl rfl (by kernel_rfl) (by decide) (fun K hK => ?_)
      refine value_ (w1 := ?_) (v := ?_) (by rfl) rfl ?_ ?_
      rotate_left 2
      · go_simp
        constructor
        · rfl
        · rfl
      refine hK.out _ _ ⟨(blk_cell BK7.out 0).trans rfl, (blk_cell BK7.out 1).trans rfl, (blk_cell BK7.out 2).trans rfl, (blk_cell BK7.out 3).trans rfl, (blk_cell BK7.out 4).trans rfl⟩ (fun hHeld => ?_)
      clear hK K
      refine norm_ (a' := ?_) ?_ ?_
      rotate_left
      · show Act.put _ (some 11) _ = _
        simp only [Act.put, List.setIfInBounds_toArray, List.set_cons_zero, List.set_cons_succ, i64_w, i32_w]
        rfl
      refine pure_ (i := 6) (N := some 12) (v := ?_) (a' := ?_) #[true, true, true, true, true, true, true, true, true, true, false, false] rfl rfl (by kernel_rfl) (fun _ _ _ h => h) (Or.inl ⟨by rfl, ?_⟩) ?_ ?_
      rotate_left
      · intro w'
        go_simp
        with_reducible rfl
      rotate_left
      · simp only [Act.put, List.setIfInBounds_toArray, List.set_cons_zero, List.set_cons_succ, i64_w, i32_w]
        rfl
      exact norm_ (by simp only [putAll, Act.put, List.setIfInBounds_toArray, List.set_cons_zero, List.set_cons_succ]) (hCont () _ ⟨⟨(blk_cell BK7.out 0).trans rfl, (blk_cell BK7.out 1).trans rfl, (blk_cell BK7.out 2).trans rfl, (blk_cell BK7.out 3).trans rfl, (blk_cell BK7.out 4).trans rfl⟩, BK7.out, HB7.out⟩)
  rintro _ w8 ⟨hHeld, hK8, hB8⟩
  refine norm_ (a' := ?_) ?_ ?_
  rotate_left
  · simp only [putAll, Act.put, List.setIfInBounds_toArray, List.set_cons_zero, List.set_cons_succ]
    rfl
  refine pure_ (i := 10) (N := some 16) (v := ?_) (a' := ?_) #[true, true, true, true, true, true, true, true, true, true, true, false] rfl rfl (by kernel_rfl) (fun _ _ _ h => h) (Or.inl ⟨by rfl, ?_⟩) ?_ ?_
  rotate_left
  · intro w'
    go_simp
    with_reducible rfl
  rotate_left
  · simp only [Act.put, List.setIfInBounds_toArray, List.set_cons_zero, List.set_cons_succ, i64_w, i32_w]
    rfl
  refine pure_ (i := 11) (N := some 3) (v := ?_) (a' := ?_) #[true, true, true, true, true, true, true, true, true, true, true, true] rfl rfl (by kernel_rfl) (fun _ _ _ h => h) (Or.inl ⟨by rfl, ?_⟩) ?_ ?_
  rotate_left
  · intro w'
    go_simp
    with_reducible rfl
  rotate_left
  · simp only [Act.put, List.setIfInBounds_toArray, List.set_cons_zero, List.set_cons_succ, i64_w, i32_w]
    rfl
  refine done_ (by kernel_rfl) ?_
  
  obtain ⟨z0, z1, z2, z3, z4⟩ := hHeld
  have HB8 := Lib.hid hB8
  have BK8 := Lib.hid hK8
  obtain ⟨hd, hhd⟩ : ∃ hd, wd ++ (⟨#[32]⟩ : ByteArray) ++ t1 = hd := ⟨_, rfl⟩
  have sh : hd.size ≤ 3000 := by rw [← hhd]; have := sz_app (sz_app s5 (show (⟨#[32]⟩ : ByteArray).size ≤ 1 from Nat.le_refl _)) s1; omega
  have HHD := Lib.hid hhd
  rw [hhd]
  have HSZ := Lib.hid (fun i => spA_size sh s2 s3 i)
  have HS := Lib.hid (And.intro s2 (And.intro s3 s4))
  clear hB8 hK8 hhd hx6 hC6 hr6 hb6 q1 q2 k1 k2 p0 p1 p2 p3 p4 s1 s2 s3 s4 s5 sh
  go_wp2_with (first | ((with_reducible refine gate_dst (N := 21) rfl ?_); refine Kd.R_lit (Kd.int .i64) _ 3 ?hg (N := 21) ?hd (xs := ([a, b] : List Int)) (inner := [.int .i64 a, .int .i64 b]) (ok := fun _ => True) (okp := fun _ => True) ?hr ?hp (fun _ hk => hk) trivial (Below.refl _ _) (Nat.le_refl _) (by simp) ?_; (case hd => rfl); (case hg => rfl); (case hr => first | (go_simp; done) | (go_simp; rfl)); (case hp => exact (Reps.one (show Kd.M (Kd.int .i64) _ _ _ a [.int .i64 a] from rfl) (Reps.one (show Kd.M (Kd.int .i64) _ _ _ b [.int .i64 b] from rfl) (Reps.none _ _)))); intro v9 w9 ho9 hb hg_ hnew_; clear hg_ hnew_; have HO9 := Lib.hid ho9; have HB9 := Lib.hid (below_step HB8.out hb); have BK9 := Lib.hid (blk_below BK8.out hb); clear ho9 hb z0 z1 z2 z3 z4))
  obtain ⟨A9, c9, rfl⟩ := Kd.R_slice HO9.out
  obtain ⟨M, hM⟩ : ∃ M, spM m = M := ⟨_, rfl⟩
  have HMM := Lib.hid hM
  have HMY2 := Lib.hid (show spec_l06Many.f m = some (M : Int) from by rw [HMY.out, hM])
  have HM3 := Lib.hid (show M ≤ 2 from by rw [← hM]; exact HM2.out)
  clear hM
  go_loopg [3, 5] M (fun kx s3 s5 wr => ∃ i : Nat, s3 = .string (spA hd ta tb i) ∧ s5 = .int .i64 i ∧ i ≤ M ∧ M - i ≤ kx ∧ Aside0 (Below w.heap.size w wr) ∧ Aside0 (wr.heap[g]? = some (.cells #[.int .i64 m, .int .i64 n, .int .i64 a, .int .i64 b, .string t] 29 (0, 0))) ∧ Aside0 ((Kd.int .i64).C wr A9 2 [a, b]))
  case atStart => exact ⟨0, rfl, rfl, Nat.zero_le _, Nat.le_refl _, ⟨HB9.out⟩, ⟨BK9.out⟩, ⟨(Kd.R_reads' HO9.out).2.2⟩⟩
  case round =>
    clear HO9 HB9 BK9
    obtain ⟨i, rfl, rfl, hil, hgi, HB, BK, HC⟩ := hrel
    have z0 : World.cell? wr ⟨g, 0, none⟩ = some (.int .i64 m) := (blk_cell BK.out 0).trans rfl; have z1 : World.cell? wr ⟨g, 1, none⟩ = some (.int .i64 n) := (blk_cell BK.out 1).trans rfl; have z2 : World.cell? wr ⟨g, 2, none⟩ = some (.int .i64 a) := (blk_cell BK.out 2).trans rfl; have z3 : World.cell? wr ⟨g, 3, none⟩ = some (.int .i64 b) := (blk_cell BK.out 3).trans rfl; have z4 : World.cell? wr ⟨g, 4, none⟩ = some (.string t) := (blk_cell BK.out 4).trans rfl
    go_wp2_with fail
    refine (spec_l06Many.calls m (M : Int) wr HMY2.out).mono ?_
    rintro e w11 ⟨rfl, hb11⟩
    have HB11 := Lib.hid (below_step HB.out hb11)
    have BK11 := Lib.hid (blk_below BK.out hb11)
    have HC11 := Lib.hid (Kd.C_below HC.out hb11)
    clear hb11 HB BK HC z0 z1 z2 z3 z4
    have z0 : World.cell? w11 ⟨g, 0, none⟩ = some (.int .i64 m) := (blk_cell BK11.out 0).trans rfl; have z1 : World.cell? w11 ⟨g, 1, none⟩ = some (.int .i64 n) := (blk_cell BK11.out 1).trans rfl; have z2 : World.cell? w11 ⟨g, 2, none⟩ = some (.int .i64 a) := (blk_cell BK11.out 2).trans rfl; have z3 : World.cell? w11 ⟨g, 3, none⟩ = some (.int .i64 b) := (blk_cell BK11.out 3).trans rfl; have z4 : World.cell? w11 ⟨g, 4, none⟩ = some (.string t) := (blk_cell BK11.out 4).trans rfl
    by_cases hlt : i < M
    · have e1 := sp_lt hlt
      have hi2 : i < 2 := Nat.lt_of_lt_of_le hlt HM3.out
      obtain ⟨ad2, ea2, hx⟩ := Kd.at_int HC11.out (i : Int) (Int.natCast_nonneg i) (Int.ofNat_lt.2 hi2)
      cases ea2
      rw [Int.toNat_natCast] at hx
      have e2 := sp_w hi2
      have e3 : decide ((i : Int) < 2) = true := decide_eq_true (Int.ofNat_lt.2 hi2)
      have e4 : decide (i < 2) = true := decide_eq_true hi2
      have hdg : ∃ tx : ByteArray, spec_l00Digits.f k (rd [a, b] (i : Int)) = some tx ∧ tx.size ≤ 1000 ∧ spA hd ta tb i ++ (spC ++ tx) = spA hd ta tb (i + 1) := by
        rcases Nat.lt_or_ge i 1 with q | q
        · obtain rfl : i = 0 := by omega
          exact ⟨ta, H2.out, HS.out.1, rfl⟩
        · obtain rfl : i = 1 := by omega
          exact ⟨tb, H3.out, HS.out.2.1, rfl⟩
      obtain ⟨tx, hd1, hd2, hd3⟩ := hdg
      have HD1 := Lib.hid hd1
      have HD3 := Lib.hid hd3
      obtain ⟨o1, o2, o3, o4⟩ := ovA (x := spA hd ta tb i) (y := tx) (HSZ.out i) (Nat.le_trans hd2 (by decide))
      clear hd1 hd2 hd3
      go_wp2_with fail
      refine (spec_l00Digits.calls k (rd [a, b] (i : Int)) tx w11 HD1.out).mono ?_
      rintro e w12 ⟨rfl, hb12⟩
      have HB12 := Lib.hid (below_step HB11.out hb12)
      have BK12 := Lib.hid (blk_below BK11.out hb12)
      have HC12 := Lib.hid (Kd.C_below HC11.out hb12)
      clear hb12 HB11 BK11 HC11 z0 z1 z2 z3 z4
      go_wp2
      go_roundg (M - (i + 1))
      case measure => exact Nat.lt_of_lt_of_le (Nat.sub_succ_lt_self _ _ hlt) hgi
      case rel => exact ⟨i + 1, by (rw [← HD3.out]), by first | rfl | (rw [e2]), hlt, Nat.le_refl _, ⟨HB12.out⟩, ⟨BK12.out⟩, ⟨HC12.out⟩⟩
    · have e1 := sp_nlt hlt
      obtain rfl : i = M := by omega
      by_cases d3 : m = 3
      · have e3 : (m == 3) = true := beq_iff_eq.mpr d3
        have HJ := Lib.hid (show spJ m (wd ++ spC ++ t1) ta tb th = spA hd ta tb i ++ (spC ++ th) from by
          have : i = 0 := by rw [← HMM.out]; unfold spM; rw [if_neg (by omega), if_neg (by omega)]
          rw [this]; unfold spJ; rw [if_pos d3, ← HHD.out]; rfl)
        obtain ⟨o1, o2, o3, o4⟩ := ovA (x := spA hd ta tb i) (y := th) (HSZ.out i) (Nat.le_trans HS.out.2.2 (by decide))
        clear d3
        go_wp2_with fail
        refine (spec_l06Quote.calls k t th w11 H4.out).mono ?_
        rintro e w12 ⟨rfl, hb12⟩
        have HB12 := Lib.hid (below_step HB11.out hb12)
        clear hb12
        go_wp2
        go_ret
        exact ⟨by (rw [HJ.out]; rfl), HB12.out⟩
      · have e3 : (m == 3) = false := beq_eq_false_iff_ne.mpr d3
        have HJ := Lib.hid (show spJ m (wd ++ spC ++ t1) ta tb th = spA hd ta tb i from by unfold spJ; rw [if_neg d3, HMM.out, ← HHD.out])
        clear d3
        go_wp2
        go_ret
        exact ⟨by (rw [HJ.out]; rfl), HB11.out⟩
end Go.Proofs.YtfafehhallbjiaaDoor.H
set_option linter.unusedVariables false
set_option linter.unusedSimpArgs false
namespace Go.Proofs.YtfafehhallbjiaaDoor.H
open Go.RowKit Go.Proofs.YtfafehhallbjiaaDoorW.PrintWords Go.Proofs.YtfafehhallbjiaaDoorW.PrintLast Go.Proofs.YtfafehhallbjiaaDoor.Q
def rqL : List ByteArray := [(⟨#[]⟩ : ByteArray), ⟨#[111, 112, 101, 110]⟩, ⟨#[99, 108, 111, 115, 101]⟩, ⟨#[114, 101, 110, 101, 119]⟩, ⟨#[108, 111, 99, 107]⟩, ⟨#[117, 110, 108, 111, 99, 107]⟩, ⟨#[99, 104, 101, 99, 107, 111, 117, 116]⟩, ⟨#[101, 100, 105, 116]⟩, ⟨#[99, 104, 101, 99, 107, 105, 110]⟩, ⟨#[97, 98, 97, 110, 100, 111, 110]⟩, ⟨#[114, 101, 97, 100]⟩, ⟨#[116, 105, 99, 107]⟩]
def rqS : List ByteArray := [(⟨#[111, 112, 101, 110]⟩ : ByteArray), ⟨#[99, 108, 111, 115, 101]⟩, ⟨#[114, 101, 110, 101, 119]⟩, ⟨#[108, 111, 99, 107]⟩, ⟨#[117, 110, 108, 111, 99, 107]⟩, ⟨#[99, 104, 101, 99, 107, 111, 117, 116]⟩, ⟨#[101, 100, 105, 116]⟩, ⟨#[99, 104, 101, 99, 107, 105, 110]⟩, ⟨#[97, 98, 97, 110, 100, 111, 110]⟩, ⟨#[114, 101, 97, 100]⟩, ⟨#[116, 105, 99, 107]⟩]
def mdL : List ByteArray := [(⟨#[]⟩ : ByteArray), ⟨#[105, 115]⟩, ⟨#[105, 120]⟩, ⟨#[115]⟩, ⟨#[115, 105, 120]⟩, ⟨#[120]⟩]
def mdS : List ByteArray := [(⟨#[110, 111, 110, 101]⟩ : ByteArray), ⟨#[105, 115]⟩, ⟨#[105, 120]⟩, ⟨#[115]⟩, ⟨#[115, 105, 120]⟩, ⟨#[120]⟩]
def rqW (m : Int) : ByteArray := rdOf ByteArray.empty rqL m
def rqV (m : Int) : ByteArray := rdOf ByteArray.empty rqS (m - 1)
def mdW (m : Int) : ByteArray := rdOf ByteArray.empty mdL m
def mdV (m : Int) : ByteArray := rdOf ByteArray.empty mdS m
def RqS (kd ss nd qa : Int) : Prop := (1 ≤ kd ∧ kd ≤ 11) ∧ (ss = 0 ↔ kd = 1 ∨ kd = 11) ∧ (nd = 0 ↔ ¬ (kd = 4 ∨ kd = 5 ∨ kd = 6 ∨ kd = 10)) ∧ (kd = 4 → 0 ≤ qa ∧ qa < 6)
instance (kd ss nd qa : Int) : Decidable (RqS kd ss nd qa) := inferInstanceAs (Decidable (_ ∧ _))
def rqJ (kd : Int) (h ts tn ta tm te : ByteArray) : ByteArray :=
  if kd = 1 then h else if kd = 11 then h ++ (spC ++ ta) else if kd = 4 then h ++ (spC ++ ts) ++ (spC ++ tn) ++ (spC ++ tm) else if kd = 7 then h ++ (spC ++ ts) ++ (spC ++ te)
  else if kd = 5 ∨ kd = 6 ∨ kd = 10 then h ++ (spC ++ ts) ++ (spC ++ tn) else h ++ (spC ++ ts)
theorem ovB {x y : ByteArray} (h : x.size ≤ 100000) (g : y.size ≤ 100000) : ((9223372036854775807 < (⟨#[32]⟩ : ByteArray).size + y.size) = False ∧ (9223372036854775807 < 1 + y.size) = False ∧ (9223372036854775807 < x.size + ((⟨#[32]⟩ : ByteArray) ++ y).size) = False ∧ (9223372036854775807 < x.size + (1 + y.size)) = False) ∧
    (9223372036854775807 < x.size + 1 + y.size) = False ∧ (9223372036854775807 < (x ++ (⟨#[32]⟩ : ByteArray)).size + y.size) = False ∧ (9223372036854775807 < x.size + 1) = False ∧ (9223372036854775807 < x.size + (⟨#[32]⟩ : ByteArray).size) = False := by
  have e1 : (⟨#[32]⟩ : ByteArray).size = 1 := rfl
  simp only [ByteArray.size_append, e1]
  exact ⟨⟨eq_false (by omega), eq_false (by omega), eq_false (by omega), eq_false (by omega)⟩, eq_false (by omega), eq_false (by omega), eq_false (by omega), eq_false (by omega)⟩
theorem ovC {x y z : ByteArray} (h : x.size ≤ 100000) (g : y.size ≤ 9000) (q : z.size ≤ 9000) : ((9223372036854775807 < ((⟨#[32]⟩ : ByteArray) ++ y).size + (⟨#[32]⟩ : ByteArray).size) = False ∧ (9223372036854775807 < 1 + y.size + 1) = False ∧ (9223372036854775807 < ((⟨#[32]⟩ : ByteArray) ++ y ++ (⟨#[32]⟩ : ByteArray)).size + z.size) = False ∧ (9223372036854775807 < 1 + y.size + 1 + z.size) = False) ∧
    (9223372036854775807 < x.size + ((⟨#[32]⟩ : ByteArray) ++ y ++ (⟨#[32]⟩ : ByteArray) ++ z).size) = False ∧ (9223372036854775807 < x.size + (1 + y.size + 1 + z.size)) = False := by
  have e1 : (⟨#[32]⟩ : ByteArray).size = 1 := rfl
  simp only [ByteArray.size_append, e1]
  exact ⟨⟨eq_false (by omega), eq_false (by omega), eq_false (by omega), eq_false (by omega)⟩, eq_false (by omega), eq_false (by omega)⟩
theorem ovD {a b c d e : Nat} (h1 : a ≤ 9000) (h2 : b ≤ 9000) (h3 : c ≤ 9000) (h4 : d ≤ 9000) (h5 : e ≤ 9000) : (9223372036854775807 < a + (1 + b) + (1 + c)) = False ∧ (9223372036854775807 < a + (1 + b) + (1 + d)) = False ∧ (9223372036854775807 < a + (1 + b) + (1 + c) + (1 + e)) = False ∧ (9223372036854775807 < a + (1 + b) + (1 + c + 1 + e)) = False :=
  ⟨eq_false (by omega), eq_false (by omega), eq_false (by omega), eq_false (by omega)⟩
theorem szC {x y : ByteArray} {p : Nat} (h : x.size ≤ p) (g : y.size ≤ 9000) : (x ++ (spC ++ y)).size ≤ p + 9001 := by
  have e1 : spC.size = 1 := rfl
  rw [ByteArray.size_append, ByteArray.size_append, e1]; omega
def impl_requestLine.f (k : Nat) (kd ss nd qa ek en ea eb : Int) (et : ByteArray) : Option ByteArray :=
  (strconv_Itoa.f ss).bind fun ts => (strconv_Itoa.f nd).bind fun tn => (strconv_Itoa.f qa).bind fun ta => (if kd = 7 then impl_editText.f k ek en ea eb et else some ⟨#[]⟩).bind fun te =>
    if ((ts.size ≤ 9000 ∧ tn.size ≤ 9000 ∧ ta.size ≤ 9000 ∧ te.size ≤ 9000 ∧ (rqW kd).size ≤ 9000) ∧ (mdW qa).size ≤ 9000) ∧ RqS kd ss nd qa then some (rqJ kd (rqW kd) ts tn ta (mdW qa) te) else none
theorem impl_requestLine.mono : ∀ a0 a1 a2 a3 a4 a5 a6 a7 a8 k, LeO (impl_requestLine.f k a0 a1 a2 a3 a4 a5 a6 a7 a8) (impl_requestLine.f (k + 1) a0 a1 a2 a3 a4 a5 a6 a7 a8) := by
  intro a0 a1 a2 a3 a4 a5 a6 a7 a8 k
  unfold impl_requestLine.f
  exact LeO.bind (LeO.refl _) (fun _ => LeO.bind (LeO.refl _) (fun _ => LeO.bind (LeO.refl _) (fun _ => LeO.bind (LeO.ite (impl_editText.mono _ _ _ _ _ _) (LeO.refl _)) (fun _ => LeO.refl _))))
set_option maxHeartbeats 8000000 in
set_option maxRecDepth 100000 in
theorem impl_requestLine.calls (k : Nat) (kd ss nd qa ek en ea eb : Int) (et : ByteArray) (r : ByteArray) (w : World) (hT : TabW w) (h : impl_requestLine.f k kd ss nd qa ek en ea eb et = some r) :
    Calls Tryd.prog 13 #[.agg #[.int .i64 kd, .int .i64 ss, .int .i64 nd, .int .i64 qa, .int .i64 ek, .int .i64 en, .int .i64 ea, .int .i64 eb, .string et]] w fun e w' => e = .returned (.string r) ∧ Below w.heap.size w w' := by
  have hu := Tryd.underlying31
  have hu2 := Tryd.underlying29
  unfold impl_requestLine.f at h
  obtain ⟨ts, h1, h⟩ := Option.bind_eq_some_iff.1 h
  obtain ⟨tn, h2, h⟩ := Option.bind_eq_some_iff.1 h
  obtain ⟨ta, h3, h⟩ := Option.bind_eq_some_iff.1 h
  obtain ⟨te, h4, h⟩ := Option.bind_eq_some_iff.1 h
  by_cases c : ((ts.size ≤ 9000 ∧ tn.size ≤ 9000 ∧ ta.size ≤ 9000 ∧ te.size ≤ 9000 ∧ (rqW kd).size ≤ 9000) ∧ (mdW qa).size ≤ 9000) ∧ RqS kd ss nd qa
  case neg => rw [if_neg c] at h; cases h
  rw [if_pos c] at h
  obtain rfl := Option.some.inj h
  obtain ⟨⟨⟨s1, s2, s3, s4, s5⟩, s6⟩, ⟨m0, m1⟩, hss, hnd, hqa⟩ := c
  have H1 := Lib.hid h1
  have H2 := Lib.hid h2
  have H3 := Lib.hid h3
  have HSS := Lib.hid hss
  have HND := Lib.hid hnd
  have HQA := Lib.hid hqa
  have HM := Lib.hid (And.intro m0 m1)
  have HT := Lib.hid hT
  clear hT
  clear h h1 h2 h3 hss hnd hqa
  have j0 : 0 ≤ kd := by omega
  have j1 : kd < 12 := by omega
  have p0 : decide (0 ≤ kd) = true := decide_eq_true (by omega)
  have p1 : decide (kd < 12) = true := decide_eq_true (by omega)
  have p2 : decide (kd < (rqL.length : Int)) = true := decide_eq_true (show kd < ((12 : Nat) : Int) by omega)
  have p3 : (kd < (rqL.length : Int)) = True := eq_true (show kd < ((12 : Nat) : Int) by omega)
  have p4 : (0 ≤ kd) = True := eq_true (by omega)
  obtain ⟨wd, hwd⟩ : ∃ wd, rqW kd = wd := ⟨_, rfl⟩
  rw [hwd] at s5 ⊢
  have HWD := Lib.hid (show rdOf ByteArray.empty rqL kd = wd from by exact hwd)
  obtain ⟨tm, htm⟩ : ∃ tm, mdW qa = tm := ⟨_, rfl⟩
  rw [htm] at s6 ⊢
  have HTM := Lib.hid (show rdOf ByteArray.empty mdL qa = tm from htm)
  have J01 := Lib.hid (show 0 ≤ kd ∧ kd < ((12 : Nat) : Int) by omega)
  clear hwd m0 m1 j0 j1
  go_enter Tryd.func13, Tryd.ntmps13
  go_upto_region 1 with (first | ((with_reducible refine gate_dst (N := 1) rfl ?_); refine box_event ?hg (N := 1) ?hd (cs := #[.int .i64 kd, .int .i64 ss, .int .i64 nd, .int .i64 qa, .int .i64 ek, .int .i64 en, .int .i64 ea, .int .i64 eb, .string et]) (t := 31) ?hr ?_; (case hd => rfl); (case hg => rfl); (case hr => first | (go_simp; done) | (go_simp; rfl)); intro g hg w1 hb1 hB1; clear hg; have BK1 := Lib.hid hb1; have HB1 := Lib.hid hB1; clear hb1 hB1))
  have z0 : World.cell? w1 ⟨g, 0, none⟩ = some (.int .i64 kd) := (blk_cell BK1.out 0).trans rfl
  have z1 : World.cell? w1 ⟨g, 1, none⟩ = some (.int .i64 ss) := (blk_cell BK1.out 1).trans rfl
  have z2 : World.cell? w1 ⟨g, 2, none⟩ = some (.int .i64 nd) := (blk_cell BK1.out 2).trans rfl
  have z3 : World.cell? w1 ⟨g, 3, none⟩ = some (.int .i64 qa) := (blk_cell BK1.out 3).trans rfl
  have z4 : World.cell? w1 ⟨g, 4, none⟩ = some (.int .i64 ek) := (blk_cell BK1.out 4).trans rfl
  have z5 : World.cell? w1 ⟨g, 5, none⟩ = some (.int .i64 en) := (blk_cell BK1.out 5).trans rfl
  have z6 : World.cell? w1 ⟨g, 6, none⟩ = some (.int .i64 ea) := (blk_cell BK1.out 6).trans rfl
  have z7 : World.cell? w1 ⟨g, 7, none⟩ = some (.int .i64 eb) := (blk_cell BK1.out 7).trans rfl
  have z8 : World.cell? w1 ⟨g, 8, none⟩ = some (.string et) := (blk_cell BK1.out 8).trans rfl
  refine start_ (n := 6) (S := fun w' => w'.cell? ⟨g, 0, none⟩ = some (.int .i64 kd) ∧ w'.cell? ⟨g, 1, none⟩ = some (.int .i64 ss) ∧ w'.cell? ⟨g, 2, none⟩ = some (.int .i64 nd) ∧ w'.cell? ⟨g, 3, none⟩ = some (.int .i64 qa) ∧ w'.cell? ⟨g, 4, none⟩ = some (.int .i64 ek) ∧ w'.cell? ⟨g, 5, none⟩ = some (.int .i64 en) ∧ w'.cell? ⟨g, 6, none⟩ = some (.int .i64 ea) ∧ w'.cell? ⟨g, 7, none⟩ = some (.int .i64 eb) ∧ w'.cell? ⟨g, 8, none⟩ = some (.string et)) (ds := []) #[false, false, false, false, false, false] (by kernel_rfl) rfl rfl ⟨z0, z1, z2, z3, z4, z5, z6, z7, z8⟩ (fun hHeld => ?_)
  refine pure_ (i := 1) (N := some 5) (v := ?_) (a' := ?_) #[false, true, false, false, false, false] rfl rfl (by kernel_rfl) (fun _ _ _ h => h) (Or.inl ⟨by rfl, ?_⟩) ?_ ?_
  rotate_left
  · intro w'
    go_simp
    with_reducible rfl
  rotate_left
  · simp only [Act.put, List.setIfInBounds_toArray, List.set_cons_zero, List.set_cons_succ, i64_w, i32_w]
    rfl
  refine take_ (i := 2) (N := some 6) (v := ?_) (a' := ?_) #[false, true, true, false, false, false] rfl rfl (by kernel_rfl) (fun _ _ _ h => h) (Or.inl ⟨by rfl, ?_⟩) hHeld ?_ ?_
  rotate_left
  · rintro w' ⟨s0, s1, s2, s3, s4, s5, s6, s7, s8⟩
    go_simp
    with_reducible rfl
  rotate_left
  · simp only [Act.put, List.setIfInBounds_toArray, List.set_cons_zero, List.set_cons_succ, i64_w, i32_w]
    rfl
  refine one_ (i := 0) (N := some 4) #[true, true, true, false, false, false] rfl rfl (by kernel_rfl) (by decide) (fun K hK => ?_)
  refine goes_ Tryd.func23 (by kernel_rfl) rfl #[] (by rfl) rfl rfl (by simp only [List.map_toArray, List.map_cons, List.map_nil]) ?_
  with_reducible refine (impl_requestWords.calls rqL _ rfl).mono ?_
  rintro e w6 ⟨v6, rfl, hr6, hb6⟩
  refine ⟨_, rfl, ?_⟩
  have HB6 := Lib.hid (below_step (below_drew1 HB1.out) hb6)
  have BK6 := Lib.hid (blk_below (show w1.drew.heap[g]? = _ from BK1.out) hb6)
  obtain ⟨A6, c6, rfl, hc6, hC6⟩ := Kd.R_reads hr6
  obtain ⟨ad, ea_, hx6⟩ := Kd.at_string hC6 kd J01.out.1 J01.out.2
  cases ea_
  rw [HWD.out] at hx6
  refine hK.out _ _ ⟨(blk_cell BK6.out 0).trans rfl, (blk_cell BK6.out 1).trans rfl, (blk_cell BK6.out 2).trans rfl, (blk_cell BK6.out 3).trans rfl, (blk_cell BK6.out 4).trans rfl, (blk_cell BK6.out 5).trans rfl, (blk_cell BK6.out 6).trans rfl, (blk_cell BK6.out 7).trans rfl, (blk_cell BK6.out 8).trans rfl⟩ (fun hHeld => ?_)
  clear hK K
  refine norm_ (a' := ?_) ?_ ?_
  rotate_left
  · show Act.put _ (some 4) _ = _
    simp only [Act.put, List.setIfInBounds_toArray, List.set_cons_zero, List.set_cons_succ, i64_w, i32_w]
    rfl
  refine pure_ (i := 3) (N := some 7) (v := ?_) (a' := ?_) #[true, true, true, true, false, false] rfl rfl (by kernel_rfl) (fun _ _ _ h => h) (Or.inl ⟨by rfl, ?_⟩) ?_ ?_
  rotate_left
  · intro w'
    go_simp
    with_reducible rfl
  rotate_left
  · simp only [Act.put, List.setIfInBounds_toArray, List.set_cons_zero, List.set_cons_succ, i64_w, i32_w]
    rfl
  refine one_ (i := 4) (N := some 8) #[true, true, true, true, true, false] rfl rfl (by kernel_rfl) (by decide) (fun K hK => ?_)
  refine value_ (w1 := ?_) (v := ?_) (by rfl) rfl ?_ ?_
  rotate_left 2
  · go_simp
    constructor
    · rfl
    · rfl
  refine hK.out _ _ ⟨(blk_cell BK6.out 0).trans rfl, (blk_cell BK6.out 1).trans rfl, (blk_cell BK6.out 2).trans rfl, (blk_cell BK6.out 3).trans rfl, (blk_cell BK6.out 4).trans rfl, (blk_cell BK6.out 5).trans rfl, (blk_cell BK6.out 6).trans rfl, (blk_cell BK6.out 7).trans rfl, (blk_cell BK6.out 8).trans rfl⟩ (fun hHeld => ?_)
  clear hK K
  refine norm_ (a' := ?_) ?_ ?_
  rotate_left
  · show Act.put _ (some 8) _ = _
    simp only [Act.put, List.setIfInBounds_toArray, List.set_cons_zero, List.set_cons_succ, i64_w, i32_w]
    rfl
  refine pure_ (i := 5) (N := some 3) (v := ?_) (a' := ?_) #[true, true, true, true, true, true] rfl rfl (by kernel_rfl) (fun _ _ _ h => h) (Or.inl ⟨by rfl, ?_⟩) ?_ ?_
  rotate_left
  · intro w'
    go_simp
    with_reducible rfl
  rotate_left
  · simp only [Act.put, List.setIfInBounds_toArray, List.set_cons_zero, List.set_cons_succ, i64_w, i32_w]
    rfl
  refine done_ (by kernel_rfl) ?_
  
  clear hx6 hC6 hr6 hb6 p0 p1 p2 p3 p4
  clear z0 z1 z2 z3 z4 z5 z6 z7 z8
  have z0 : World.cell? w6 ⟨g, 0, none⟩ = some (.int .i64 kd) := (blk_cell BK6.out 0).trans rfl
  have z1 : World.cell? w6 ⟨g, 1, none⟩ = some (.int .i64 ss) := (blk_cell BK6.out 1).trans rfl
  have z2 : World.cell? w6 ⟨g, 2, none⟩ = some (.int .i64 nd) := (blk_cell BK6.out 2).trans rfl
  have z3 : World.cell? w6 ⟨g, 3, none⟩ = some (.int .i64 qa) := (blk_cell BK6.out 3).trans rfl
  have z4 : World.cell? w6 ⟨g, 4, none⟩ = some (.int .i64 ek) := (blk_cell BK6.out 4).trans rfl
  have z5 : World.cell? w6 ⟨g, 5, none⟩ = some (.int .i64 en) := (blk_cell BK6.out 5).trans rfl
  have z6 : World.cell? w6 ⟨g, 6, none⟩ = some (.int .i64 ea) := (blk_cell BK6.out 6).trans rfl
  have z7 : World.cell? w6 ⟨g, 7, none⟩ = some (.int .i64 eb) := (blk_cell BK6.out 7).trans rfl
  have z8 : World.cell? w6 ⟨g, 8, none⟩ = some (.string et) := (blk_cell BK6.out 8).trans rfl
  obtain ⟨⟨oa1, oa2, oa3, oa4⟩, oa5, oa6, oa7, oa8⟩ := ovB (x := wd) (y := ta) (by omega) (by omega)
  obtain ⟨⟨os1, os2, os3, os4⟩, os5, os6, os7, os8⟩ := ovB (x := wd) (y := ts) (by omega) (by omega)
  obtain ⟨⟨on1, on2, on3, on4⟩, on5, on6, on7, on8⟩ := ovB (x := wd ++ (spC ++ ts)) (y := tn) (by have := szC s5 s1; omega) (by omega)
  obtain ⟨⟨oe1, oe2, oe3, oe4⟩, oe5, oe6, oe7, oe8⟩ := ovB (x := wd ++ (spC ++ ts)) (y := te) (by have := szC s5 s1; omega) (by omega)
  obtain ⟨⟨om1, om2, om3, om4⟩, om5, om6, om7, om8⟩ := ovB (x := wd ++ (spC ++ ts) ++ (spC ++ tn)) (y := tm) (by have := szC (szC s5 s1) s2; omega) (by omega)
  obtain ⟨⟨oq1, oq2, oq3, oq4⟩, oq5, oq6, oq7, oq8⟩ := ovB (x := spC) (y := tn) (by decide) (by omega)
  obtain ⟨⟨oc1, oc2, oc3, oc4⟩, oc5, oc6⟩ := ovC (x := wd ++ (spC ++ ts)) (y := tn) (z := tm) (by have := szC s5 s1; omega) (by omega) (by omega)
  obtain ⟨of1, of2, of3, of4⟩ := ovD (a := wd.size) (b := ts.size) (c := tn.size) (d := te.size) (e := tm.size) s5 s1 s2 s4 s6
  clear s1 s2 s3 s4 s5 s6 htm
  by_cases d1 : kd = 1
  · skip
    have HJ := Lib.hid (show rqJ kd wd ts tn ta tm te = wd from by unfold rqJ; rw [if_pos d1])
    have hs := HSS.out
    have hn := HND.out
    have nss : (ss != 0) = false := bne_eq_false_iff_eq.mpr (by omega)
    have nnd : (nd != 0) = false := bne_eq_false_iff_eq.mpr (by omega)
    have ekd_1 : (kd == 1) = true := beq_iff_eq.mpr (by omega)
    have ekd_11 : (kd == 11) = false := beq_eq_false_iff_ne.mpr (by omega)
    have ekd_4 : (kd == 4) = false := beq_eq_false_iff_ne.mpr (by omega)
    have ekd_7 : (kd == 7) = false := beq_eq_false_iff_ne.mpr (by omega)
    have ekd_5 : (kd == 5) = false := beq_eq_false_iff_ne.mpr (by omega)
    have ekd_6 : (kd == 6) = false := beq_eq_false_iff_ne.mpr (by omega)
    have ekd_10 : (kd == 10) = false := beq_eq_false_iff_ne.mpr (by omega)
    clear hs hn h4
    clear d1
    go_wp2
    go_ret
    exact ⟨by (rw [HJ.out]; rfl), HB6.out⟩
  by_cases d11 : kd = 11
  · skip
    have HJ := Lib.hid (show rqJ kd wd ts tn ta tm te = wd ++ (spC ++ ta) from by unfold rqJ; rw [if_neg d1, if_pos d11])
    have hs := HSS.out
    have hn := HND.out
    have nss : (ss != 0) = false := bne_eq_false_iff_eq.mpr (by omega)
    have nnd : (nd != 0) = false := bne_eq_false_iff_eq.mpr (by omega)
    have ekd_1 : (kd == 1) = false := beq_eq_false_iff_ne.mpr (by omega)
    have ekd_11 : (kd == 11) = true := beq_iff_eq.mpr (by omega)
    have ekd_4 : (kd == 4) = false := beq_eq_false_iff_ne.mpr (by omega)
    have ekd_7 : (kd == 7) = false := beq_eq_false_iff_ne.mpr (by omega)
    have ekd_5 : (kd == 5) = false := beq_eq_false_iff_ne.mpr (by omega)
    have ekd_6 : (kd == 6) = false := beq_eq_false_iff_ne.mpr (by omega)
    have ekd_10 : (kd == 10) = false := beq_eq_false_iff_ne.mpr (by omega)
    clear hs hn h4
    clear d1 d11
    go_wp2_with fail
    refine (strconv_Itoa.calls qa ta w6 (HT.out.below HB6.out) H3.out).mono ?_
    rintro e w7 ⟨rfl, hb7⟩
    have HB7 := Lib.hid (below_step HB6.out hb7)
    have BK7 := Lib.hid (blk_below BK6.out hb7)
    clear hb7
    clear z0 z1 z2 z3 z4 z5 z6 z7 z8
    have z0 : World.cell? w7 ⟨g, 0, none⟩ = some (.int .i64 kd) := (blk_cell BK7.out 0).trans rfl
    have z1 : World.cell? w7 ⟨g, 1, none⟩ = some (.int .i64 ss) := (blk_cell BK7.out 1).trans rfl
    have z2 : World.cell? w7 ⟨g, 2, none⟩ = some (.int .i64 nd) := (blk_cell BK7.out 2).trans rfl
    have z3 : World.cell? w7 ⟨g, 3, none⟩ = some (.int .i64 qa) := (blk_cell BK7.out 3).trans rfl
    have z4 : World.cell? w7 ⟨g, 4, none⟩ = some (.int .i64 ek) := (blk_cell BK7.out 4).trans rfl
    have z5 : World.cell? w7 ⟨g, 5, none⟩ = some (.int .i64 en) := (blk_cell BK7.out 5).trans rfl
    have z6 : World.cell? w7 ⟨g, 6, none⟩ = some (.int .i64 ea) := (blk_cell BK7.out 6).trans rfl
    have z7 : World.cell? w7 ⟨g, 7, none⟩ = some (.int .i64 eb) := (blk_cell BK7.out 7).trans rfl
    have z8 : World.cell? w7 ⟨g, 8, none⟩ = some (.string et) := (blk_cell BK7.out 8).trans rfl
    go_wp2
    go_ret
    exact ⟨by (rw [HJ.out]; rfl), HB7.out⟩
  by_cases d4 : kd = 4
  · skip
    have HJ := Lib.hid (show rqJ kd wd ts tn ta tm te = wd ++ (spC ++ ts) ++ (spC ++ tn) ++ (spC ++ tm) from by unfold rqJ; rw [if_neg d1, if_neg d11, if_pos d4])
    have hs := HSS.out
    have hn := HND.out
    have nss : (ss != 0) = true := bne_iff_ne.mpr (by omega)
    have nnd : (nd != 0) = true := bne_iff_ne.mpr (by omega)
    have ekd_1 : (kd == 1) = false := beq_eq_false_iff_ne.mpr (by omega)
    have ekd_11 : (kd == 11) = false := beq_eq_false_iff_ne.mpr (by omega)
    have ekd_4 : (kd == 4) = true := beq_iff_eq.mpr (by omega)
    have ekd_7 : (kd == 7) = false := beq_eq_false_iff_ne.mpr (by omega)
    have ekd_5 : (kd == 5) = false := beq_eq_false_iff_ne.mpr (by omega)
    have ekd_6 : (kd == 6) = false := beq_eq_false_iff_ne.mpr (by omega)
    have ekd_10 : (kd == 10) = false := beq_eq_false_iff_ne.mpr (by omega)
    have hq := HQA.out d4
    have u0 : decide (0 ≤ qa) = true := decide_eq_true hq.1
    have u1 : decide (qa < 6) = true := decide_eq_true hq.2
    have u2 : decide (qa < (mdL.length : Int)) = true := decide_eq_true (show qa < ((6 : Nat) : Int) from hq.2)
    have u3 : (qa < (mdL.length : Int)) = True := eq_true (show qa < ((6 : Nat) : Int) from hq.2)
    have u4 : (0 ≤ qa) = True := eq_true hq.1
    have HQ := Lib.hid hq
    clear hs hn hq h4
    clear d1 d11 d4
    go_wp2_with fail
    refine (strconv_Itoa.calls ss ts w6 (HT.out.below HB6.out) H1.out).mono ?_
    rintro e w7 ⟨rfl, hb7⟩
    have HB7 := Lib.hid (below_step HB6.out hb7)
    have BK7 := Lib.hid (blk_below BK6.out hb7)
    clear hb7
    clear z0 z1 z2 z3 z4 z5 z6 z7 z8
    have z0 : World.cell? w7 ⟨g, 0, none⟩ = some (.int .i64 kd) := (blk_cell BK7.out 0).trans rfl
    have z1 : World.cell? w7 ⟨g, 1, none⟩ = some (.int .i64 ss) := (blk_cell BK7.out 1).trans rfl
    have z2 : World.cell? w7 ⟨g, 2, none⟩ = some (.int .i64 nd) := (blk_cell BK7.out 2).trans rfl
    have z3 : World.cell? w7 ⟨g, 3, none⟩ = some (.int .i64 qa) := (blk_cell BK7.out 3).trans rfl
    have z4 : World.cell? w7 ⟨g, 4, none⟩ = some (.int .i64 ek) := (blk_cell BK7.out 4).trans rfl
    have z5 : World.cell? w7 ⟨g, 5, none⟩ = some (.int .i64 en) := (blk_cell BK7.out 5).trans rfl
    have z6 : World.cell? w7 ⟨g, 6, none⟩ = some (.int .i64 ea) := (blk_cell BK7.out 6).trans rfl
    have z7 : World.cell? w7 ⟨g, 7, none⟩ = some (.int .i64 eb) := (blk_cell BK7.out 7).trans rfl
    have z8 : World.cell? w7 ⟨g, 8, none⟩ = some (.string et) := (blk_cell BK7.out 8).trans rfl
    go_wp2_with fail
    refine (strconv_Itoa.calls nd tn w7 (HT.out.below HB7.out) H2.out).mono ?_
    rintro e w8 ⟨rfl, hb8⟩
    have HB8 := Lib.hid (below_step HB7.out hb8)
    have BK8 := Lib.hid (blk_below BK7.out hb8)
    clear hb8
    clear z0 z1 z2 z3 z4 z5 z6 z7 z8
    have z0 : World.cell? w8 ⟨g, 0, none⟩ = some (.int .i64 kd) := (blk_cell BK8.out 0).trans rfl
    have z1 : World.cell? w8 ⟨g, 1, none⟩ = some (.int .i64 ss) := (blk_cell BK8.out 1).trans rfl
    have z2 : World.cell? w8 ⟨g, 2, none⟩ = some (.int .i64 nd) := (blk_cell BK8.out 2).trans rfl
    have z3 : World.cell? w8 ⟨g, 3, none⟩ = some (.int .i64 qa) := (blk_cell BK8.out 3).trans rfl
    have z4 : World.cell? w8 ⟨g, 4, none⟩ = some (.int .i64 ek) := (blk_cell BK8.out 4).trans rfl
    have z5 : World.cell? w8 ⟨g, 5, none⟩ = some (.int .i64 en) := (blk_cell BK8.out 5).trans rfl
    have z6 : World.cell? w8 ⟨g, 6, none⟩ = some (.int .i64 ea) := (blk_cell BK8.out 6).trans rfl
    have z7 : World.cell? w8 ⟨g, 7, none⟩ = some (.int .i64 eb) := (blk_cell BK8.out 7).trans rfl
    have z8 : World.cell? w8 ⟨g, 8, none⟩ = some (.string et) := (blk_cell BK8.out 8).trans rfl
    go_upto_region 8 with fail
    refine start_ (n := 9) (S := fun w' => w'.cell? ⟨g, 0, none⟩ = some (.int .i64 kd) ∧ w'.cell? ⟨g, 1, none⟩ = some (.int .i64 ss) ∧ w'.cell? ⟨g, 2, none⟩ = some (.int .i64 nd) ∧ w'.cell? ⟨g, 3, none⟩ = some (.int .i64 qa) ∧ w'.cell? ⟨g, 4, none⟩ = some (.int .i64 ek) ∧ w'.cell? ⟨g, 5, none⟩ = some (.int .i64 en) ∧ w'.cell? ⟨g, 6, none⟩ = some (.int .i64 ea) ∧ w'.cell? ⟨g, 7, none⟩ = some (.int .i64 eb) ∧ w'.cell? ⟨g, 8, none⟩ = some (.string et)) (ds := []) #[false, false, false, false, false, false, false, false, false] (by kernel_rfl) rfl rfl ⟨z0, z1, z2, z3, z4, z5, z6, z7, z8⟩ (fun hHeld => ?_)
    refine pure_ (i := 0) (N := some 31) (v := ?_) (a' := ?_) #[true, false, false, false, false, false, false, false, false] rfl rfl (by kernel_rfl) (fun _ _ _ h => h) (Or.inl ⟨by rfl, ?_⟩) ?_ ?_
    rotate_left
    · intro w'
      go_simp
      with_reducible rfl
    rotate_left
    · simp only [Act.put, List.setIfInBounds_toArray, List.set_cons_zero, List.set_cons_succ, i64_w, i32_w]
      rfl
    refine pure_ (i := 2) (N := some 33) (v := ?_) (a' := ?_) #[true, false, true, false, false, false, false, false, false] rfl rfl (by kernel_rfl) (fun _ _ _ h => h) (Or.inl ⟨by rfl, ?_⟩) ?_ ?_
    rotate_left
    · intro w'
      go_simp
      with_reducible rfl
    rotate_left
    · simp only [Act.put, List.setIfInBounds_toArray, List.set_cons_zero, List.set_cons_succ, i64_w, i32_w]
      rfl
    refine take_ (i := 3) (N := some 34) (v := ?_) (a' := ?_) #[true, false, true, true, false, false, false, false, false] rfl rfl (by kernel_rfl) (fun _ _ _ h => h) (Or.inl ⟨by rfl, ?_⟩) hHeld ?_ ?_
    rotate_left
    · rintro w' ⟨s0, s1, s2, s3, s4, s5, s6, s7, s8⟩
      go_simp
      with_reducible rfl
    rotate_left
    · simp only [Act.put, List.setIfInBounds_toArray, List.set_cons_zero, List.set_cons_succ, i64_w, i32_w]
      rfl
    refine one_ (i := 1) (N := some 32) #[true, true, true, true, false, false, false, false, false] rfl rfl (by kernel_rfl) (by decide) (fun K hK => ?_)
    refine goes_ Tryd.func25 (by kernel_rfl) rfl #[] (by rfl) rfl rfl (by simp only [List.map_toArray, List.map_cons, List.map_nil]) ?_
    with_reducible refine (impl_modeWords.calls mdL _ rfl).mono ?_
    rintro e w21 ⟨v21, rfl, hr21, hb21⟩
    refine ⟨_, rfl, ?_⟩
    have HB21 := Lib.hid (below_step (below_drew1 HB8.out) hb21)
    have BK21 := Lib.hid (blk_below (show w8.drew.heap[g]? = _ from BK8.out) hb21)
    obtain ⟨A21, c21, rfl, hc21, hC21⟩ := Kd.R_reads hr21
    obtain ⟨ad21, ea21, hx21⟩ := Kd.at_string hC21 qa HQ.out.1 (show qa < ((6 : Nat) : Int) from HQ.out.2)
    cases ea21
    rw [HTM.out] at hx21
    refine hK.out _ _ ⟨(blk_cell BK21.out 0).trans rfl, (blk_cell BK21.out 1).trans rfl, (blk_cell BK21.out 2).trans rfl, (blk_cell BK21.out 3).trans rfl, (blk_cell BK21.out 4).trans rfl, (blk_cell BK21.out 5).trans rfl, (blk_cell BK21.out 6).trans rfl, (blk_cell BK21.out 7).trans rfl, (blk_cell BK21.out 8).trans rfl⟩ (fun hHeld => ?_)
    clear hK K
    refine norm_ (a' := ?_) ?_ ?_
    rotate_left
    · show Act.put _ (some 32) _ = _
      simp only [Act.put, List.setIfInBounds_toArray, List.set_cons_zero, List.set_cons_succ, i64_w, i32_w]
      rfl
    refine pure_ (i := 4) (N := some 35) (v := ?_) (a' := ?_) #[true, true, true, true, true, false, false, false, false] rfl rfl (by kernel_rfl) (fun _ _ _ h => h) (Or.inl ⟨by rfl, ?_⟩) ?_ ?_
    rotate_left
    · intro w'
      go_simp
      with_reducible rfl
    rotate_left
    · simp only [Act.put, List.setIfInBounds_toArray, List.set_cons_zero, List.set_cons_succ, i64_w, i32_w]
      rfl
    refine one_ (i := 5) (N := some 36) #[true, true, true, true, true, true, false, false, false] rfl rfl (by kernel_rfl) (by decide) (fun K hK => ?_)
    refine value_ (w1 := ?_) (v := ?_) (by rfl) rfl ?_ ?_
    rotate_left 2
    · go_simp
      constructor
      · rfl
      · rfl
    refine hK.out _ _ ⟨(blk_cell BK21.out 0).trans rfl, (blk_cell BK21.out 1).trans rfl, (blk_cell BK21.out 2).trans rfl, (blk_cell BK21.out 3).trans rfl, (blk_cell BK21.out 4).trans rfl, (blk_cell BK21.out 5).trans rfl, (blk_cell BK21.out 6).trans rfl, (blk_cell BK21.out 7).trans rfl, (blk_cell BK21.out 8).trans rfl⟩ (fun hHeld => ?_)
    clear hK K
    refine norm_ (a' := ?_) ?_ ?_
    rotate_left
    · show Act.put _ (some 36) _ = _
      simp only [Act.put, List.setIfInBounds_toArray, List.set_cons_zero, List.set_cons_succ, i64_w, i32_w]
      rfl
    refine pure_ (i := 6) (N := some 37) (v := ?_) (a' := ?_) #[true, true, true, true, true, true, true, false, false] rfl rfl (by kernel_rfl) (fun _ _ _ h => h) (Or.inl ⟨by rfl, ?_⟩) ?_ ?_
    rotate_left
    · intro w'
      go_simp
      with_reducible rfl
    rotate_left
    · simp only [Act.put, List.setIfInBounds_toArray, List.set_cons_zero, List.set_cons_succ, i64_w, i32_w]
      rfl
    refine pure_ (i := 7) (N := some 38) (v := ?_) (a' := ?_) #[true, true, true, true, true, true, true, true, false] rfl rfl (by kernel_rfl) (fun _ _ _ h => h) (Or.inl ⟨by rfl, ?_⟩) ?_ ?_
    rotate_left
    · intro w'
      go_simp
      with_reducible rfl
    rotate_left
    · simp only [Act.put, List.setIfInBounds_toArray, List.set_cons_zero, List.set_cons_succ, i64_w, i32_w]
      rfl
    refine pure_ (i := 8) (N := some 3) (v := ?_) (a' := ?_) #[true, true, true, true, true, true, true, true, true] rfl rfl (by kernel_rfl) (fun _ _ _ h => h) (Or.inl ⟨by rfl, ?_⟩) ?_ ?_
    rotate_left
    · intro w'
      go_simp
      with_reducible rfl
    rotate_left
    · simp only [Act.put, List.setIfInBounds_toArray, List.set_cons_zero, List.set_cons_succ, i64_w, i32_w]
      rfl
    refine done_ (by kernel_rfl) ?_
    
    go_wp2
    go_ret
    exact ⟨by (rw [HJ.out]; rfl), HB21.out⟩
  by_cases d7 : kd = 7
  · skip
    have HJ := Lib.hid (show rqJ kd wd ts tn ta tm te = wd ++ (spC ++ ts) ++ (spC ++ te) from by unfold rqJ; rw [if_neg d1, if_neg d11, if_neg d4, if_pos d7])
    have hs := HSS.out
    have hn := HND.out
    have nss : (ss != 0) = true := bne_iff_ne.mpr (by omega)
    have nnd : (nd != 0) = false := bne_eq_false_iff_eq.mpr (by omega)
    have ekd_1 : (kd == 1) = false := beq_eq_false_iff_ne.mpr (by omega)
    have ekd_11 : (kd == 11) = false := beq_eq_false_iff_ne.mpr (by omega)
    have ekd_4 : (kd == 4) = false := beq_eq_false_iff_ne.mpr (by omega)
    have ekd_7 : (kd == 7) = true := beq_iff_eq.mpr (by omega)
    have ekd_5 : (kd == 5) = false := beq_eq_false_iff_ne.mpr (by omega)
    have ekd_6 : (kd == 6) = false := beq_eq_false_iff_ne.mpr (by omega)
    have ekd_10 : (kd == 10) = false := beq_eq_false_iff_ne.mpr (by omega)
    rw [if_pos d7] at h4
    have H4 := Lib.hid h4
    clear hs hn h4
    clear d1 d11 d4 d7
    go_wp2_with fail
    refine (strconv_Itoa.calls ss ts w6 (HT.out.below HB6.out) H1.out).mono ?_
    rintro e w7 ⟨rfl, hb7⟩
    have HB7 := Lib.hid (below_step HB6.out hb7)
    have BK7 := Lib.hid (blk_below BK6.out hb7)
    clear hb7
    clear z0 z1 z2 z3 z4 z5 z6 z7 z8
    have z0 : World.cell? w7 ⟨g, 0, none⟩ = some (.int .i64 kd) := (blk_cell BK7.out 0).trans rfl
    have z1 : World.cell? w7 ⟨g, 1, none⟩ = some (.int .i64 ss) := (blk_cell BK7.out 1).trans rfl
    have z2 : World.cell? w7 ⟨g, 2, none⟩ = some (.int .i64 nd) := (blk_cell BK7.out 2).trans rfl
    have z3 : World.cell? w7 ⟨g, 3, none⟩ = some (.int .i64 qa) := (blk_cell BK7.out 3).trans rfl
    have z4 : World.cell? w7 ⟨g, 4, none⟩ = some (.int .i64 ek) := (blk_cell BK7.out 4).trans rfl
    have z5 : World.cell? w7 ⟨g, 5, none⟩ = some (.int .i64 en) := (blk_cell BK7.out 5).trans rfl
    have z6 : World.cell? w7 ⟨g, 6, none⟩ = some (.int .i64 ea) := (blk_cell BK7.out 6).trans rfl
    have z7 : World.cell? w7 ⟨g, 7, none⟩ = some (.int .i64 eb) := (blk_cell BK7.out 7).trans rfl
    have z8 : World.cell? w7 ⟨g, 8, none⟩ = some (.string et) := (blk_cell BK7.out 8).trans rfl
    go_wp2_with fail
    refine (impl_editText.calls k ek en ea eb et te w7 (HT.out.below HB7.out) H4.out).mono ?_
    rintro e w8 ⟨rfl, hb8⟩
    have HB8 := Lib.hid (below_step HB7.out hb8)
    have BK8 := Lib.hid (blk_below BK7.out hb8)
    clear hb8
    clear z0 z1 z2 z3 z4 z5 z6 z7 z8
    have z0 : World.cell? w8 ⟨g, 0, none⟩ = some (.int .i64 kd) := (blk_cell BK8.out 0).trans rfl
    have z1 : World.cell? w8 ⟨g, 1, none⟩ = some (.int .i64 ss) := (blk_cell BK8.out 1).trans rfl
    have z2 : World.cell? w8 ⟨g, 2, none⟩ = some (.int .i64 nd) := (blk_cell BK8.out 2).trans rfl
    have z3 : World.cell? w8 ⟨g, 3, none⟩ = some (.int .i64 qa) := (blk_cell BK8.out 3).trans rfl
    have z4 : World.cell? w8 ⟨g, 4, none⟩ = some (.int .i64 ek) := (blk_cell BK8.out 4).trans rfl
    have z5 : World.cell? w8 ⟨g, 5, none⟩ = some (.int .i64 en) := (blk_cell BK8.out 5).trans rfl
    have z6 : World.cell? w8 ⟨g, 6, none⟩ = some (.int .i64 ea) := (blk_cell BK8.out 6).trans rfl
    have z7 : World.cell? w8 ⟨g, 7, none⟩ = some (.int .i64 eb) := (blk_cell BK8.out 7).trans rfl
    have z8 : World.cell? w8 ⟨g, 8, none⟩ = some (.string et) := (blk_cell BK8.out 8).trans rfl
    go_wp2
    go_ret
    exact ⟨by (rw [HJ.out]; rfl), HB8.out⟩
  by_cases d5 : kd = 5 ∨ kd = 6 ∨ kd = 10
  · skip
    have HJ := Lib.hid (show rqJ kd wd ts tn ta tm te = wd ++ (spC ++ ts) ++ (spC ++ tn) from by unfold rqJ; rw [if_neg d1, if_neg d11, if_neg d4, if_neg d7, if_pos d5])
    have hs := HSS.out
    have hn := HND.out
    have nss : (ss != 0) = true := bne_iff_ne.mpr (by omega)
    have nnd : (nd != 0) = true := bne_iff_ne.mpr (by omega)
    have ekd_1 : (kd == 1) = false := beq_eq_false_iff_ne.mpr (by omega)
    have ekd_11 : (kd == 11) = false := beq_eq_false_iff_ne.mpr (by omega)
    have ekd_4 : (kd == 4) = false := beq_eq_false_iff_ne.mpr (by omega)
    have ekd_7 : (kd == 7) = false := beq_eq_false_iff_ne.mpr (by omega)
    clear hs hn h4
    clear d1 d11 d4 d7 d5
    go_wp2_with fail
    refine (strconv_Itoa.calls ss ts w6 (HT.out.below HB6.out) H1.out).mono ?_
    rintro e w7 ⟨rfl, hb7⟩
    have HB7 := Lib.hid (below_step HB6.out hb7)
    have BK7 := Lib.hid (blk_below BK6.out hb7)
    clear hb7
    clear z0 z1 z2 z3 z4 z5 z6 z7 z8
    have z0 : World.cell? w7 ⟨g, 0, none⟩ = some (.int .i64 kd) := (blk_cell BK7.out 0).trans rfl
    have z1 : World.cell? w7 ⟨g, 1, none⟩ = some (.int .i64 ss) := (blk_cell BK7.out 1).trans rfl
    have z2 : World.cell? w7 ⟨g, 2, none⟩ = some (.int .i64 nd) := (blk_cell BK7.out 2).trans rfl
    have z3 : World.cell? w7 ⟨g, 3, none⟩ = some (.int .i64 qa) := (blk_cell BK7.out 3).trans rfl
    have z4 : World.cell? w7 ⟨g, 4, none⟩ = some (.int .i64 ek) := (blk_cell BK7.out 4).trans rfl
    have z5 : World.cell? w7 ⟨g, 5, none⟩ = some (.int .i64 en) := (blk_cell BK7.out 5).trans rfl
    have z6 : World.cell? w7 ⟨g, 6, none⟩ = some (.int .i64 ea) := (blk_cell BK7.out 6).trans rfl
    have z7 : World.cell? w7 ⟨g, 7, none⟩ = some (.int .i64 eb) := (blk_cell BK7.out 7).trans rfl
    have z8 : World.cell? w7 ⟨g, 8, none⟩ = some (.string et) := (blk_cell BK7.out 8).trans rfl
    go_wp2_with fail
    refine (strconv_Itoa.calls nd tn w7 (HT.out.below HB7.out) H2.out).mono ?_
    rintro e w8 ⟨rfl, hb8⟩
    have HB8 := Lib.hid (below_step HB7.out hb8)
    have BK8 := Lib.hid (blk_below BK7.out hb8)
    clear hb8
    clear z0 z1 z2 z3 z4 z5 z6 z7 z8
    have z0 : World.cell? w8 ⟨g, 0, none⟩ = some (.int .i64 kd) := (blk_cell BK8.out 0).trans rfl
    have z1 : World.cell? w8 ⟨g, 1, none⟩ = some (.int .i64 ss) := (blk_cell BK8.out 1).trans rfl
    have z2 : World.cell? w8 ⟨g, 2, none⟩ = some (.int .i64 nd) := (blk_cell BK8.out 2).trans rfl
    have z3 : World.cell? w8 ⟨g, 3, none⟩ = some (.int .i64 qa) := (blk_cell BK8.out 3).trans rfl
    have z4 : World.cell? w8 ⟨g, 4, none⟩ = some (.int .i64 ek) := (blk_cell BK8.out 4).trans rfl
    have z5 : World.cell? w8 ⟨g, 5, none⟩ = some (.int .i64 en) := (blk_cell BK8.out 5).trans rfl
    have z6 : World.cell? w8 ⟨g, 6, none⟩ = some (.int .i64 ea) := (blk_cell BK8.out 6).trans rfl
    have z7 : World.cell? w8 ⟨g, 7, none⟩ = some (.int .i64 eb) := (blk_cell BK8.out 7).trans rfl
    have z8 : World.cell? w8 ⟨g, 8, none⟩ = some (.string et) := (blk_cell BK8.out 8).trans rfl
    go_wp2
    go_ret
    exact ⟨by (rw [HJ.out]; rfl), HB8.out⟩
  have HJ := Lib.hid (show rqJ kd wd ts tn ta tm te = wd ++ (spC ++ ts) from by unfold rqJ; rw [if_neg d1, if_neg d11, if_neg d4, if_neg d7, if_neg d5])
  have hs := HSS.out
  have hn := HND.out
  have nss : (ss != 0) = true := bne_iff_ne.mpr (by omega)
  have nnd : (nd != 0) = false := bne_eq_false_iff_eq.mpr (by omega)
  have ekd_1 : (kd == 1) = false := beq_eq_false_iff_ne.mpr (by omega)
  have ekd_11 : (kd == 11) = false := beq_eq_false_iff_ne.mpr (by omega)
  have ekd_4 : (kd == 4) = false := beq_eq_false_iff_ne.mpr (by omega)
  have ekd_7 : (kd == 7) = false := beq_eq_false_iff_ne.mpr (by omega)
  have ekd_5 : (kd == 5) = false := beq_eq_false_iff_ne.mpr (by omega)
  have ekd_6 : (kd == 6) = false := beq_eq_false_iff_ne.mpr (by omega)
  have ekd_10 : (kd == 10) = false := beq_eq_false_iff_ne.mpr (by omega)
  clear hs hn h4
  clear d1 d11 d4 d7 d5
  go_wp2_with fail
  refine (strconv_Itoa.calls ss ts w6 (HT.out.below HB6.out) H1.out).mono ?_
  rintro e w7 ⟨rfl, hb7⟩
  have HB7 := Lib.hid (below_step HB6.out hb7)
  have BK7 := Lib.hid (blk_below BK6.out hb7)
  clear hb7
  clear z0 z1 z2 z3 z4 z5 z6 z7 z8
  have z0 : World.cell? w7 ⟨g, 0, none⟩ = some (.int .i64 kd) := (blk_cell BK7.out 0).trans rfl
  have z1 : World.cell? w7 ⟨g, 1, none⟩ = some (.int .i64 ss) := (blk_cell BK7.out 1).trans rfl
  have z2 : World.cell? w7 ⟨g, 2, none⟩ = some (.int .i64 nd) := (blk_cell BK7.out 2).trans rfl
  have z3 : World.cell? w7 ⟨g, 3, none⟩ = some (.int .i64 qa) := (blk_cell BK7.out 3).trans rfl
  have z4 : World.cell? w7 ⟨g, 4, none⟩ = some (.int .i64 ek) := (blk_cell BK7.out 4).trans rfl
  have z5 : World.cell? w7 ⟨g, 5, none⟩ = some (.int .i64 en) := (blk_cell BK7.out 5).trans rfl
  have z6 : World.cell? w7 ⟨g, 6, none⟩ = some (.int .i64 ea) := (blk_cell BK7.out 6).trans rfl
  have z7 : World.cell? w7 ⟨g, 7, none⟩ = some (.int .i64 eb) := (blk_cell BK7.out 7).trans rfl
  have z8 : World.cell? w7 ⟨g, 8, none⟩ = some (.string et) := (blk_cell BK7.out 8).trans rfl
  go_wp2
  go_ret
  exact ⟨by (rw [HJ.out]; rfl), HB7.out⟩
def spec_l12Request.f (k : Nat) (kd ss nd qa ek en ea eb : Int) (et : ByteArray) : Option ByteArray :=
  (spec_l00Digits.f k ss).bind fun ts => (spec_l00Digits.f k nd).bind fun tn => (spec_l00Digits.f k qa).bind fun ta => (if kd = 7 then spec_l06Text.f k ek en ea eb et else some ⟨#[]⟩).bind fun te =>
    if ((ts.size ≤ 9000 ∧ tn.size ≤ 9000 ∧ ta.size ≤ 9000 ∧ te.size ≤ 9000 ∧ (rqV kd).size ≤ 9000) ∧ (mdV qa).size ≤ 9000) ∧ RqS kd ss nd qa then some (rqJ kd (rqV kd) ts tn ta (mdV qa) te) else none
theorem spec_l12Request.mono : ∀ a0 a1 a2 a3 a4 a5 a6 a7 a8 k, LeO (spec_l12Request.f k a0 a1 a2 a3 a4 a5 a6 a7 a8) (spec_l12Request.f (k + 1) a0 a1 a2 a3 a4 a5 a6 a7 a8) := by
  intro a0 a1 a2 a3 a4 a5 a6 a7 a8 k
  unfold spec_l12Request.f
  exact LeO.bind (spec_l00Digits.mono _ _) (fun _ => LeO.bind (spec_l00Digits.mono _ _) (fun _ => LeO.bind (spec_l00Digits.mono _ _) (fun _ => LeO.bind (LeO.ite (spec_l06Text.mono _ _ _ _ _ _) (LeO.refl _)) (fun _ => LeO.refl _))))
set_option maxHeartbeats 8000000 in
set_option maxRecDepth 100000 in
theorem spec_l12Request.calls (k : Nat) (kd ss nd qa ek en ea eb : Int) (et : ByteArray) (r : ByteArray) (w : World) (h : spec_l12Request.f k kd ss nd qa ek en ea eb et = some r) :
    Calls Tryd.prog 10 #[.agg #[.int .i64 kd, .int .i64 ss, .int .i64 nd, .int .i64 qa, .int .i64 ek, .int .i64 en, .int .i64 ea, .int .i64 eb, .string et]] w fun e w' => e = .returned (.string r) ∧ Below w.heap.size w w' := by
  have hu := Tryd.underlying31
  have hu2 := Tryd.underlying29
  unfold spec_l12Request.f at h
  obtain ⟨ts, h1, h⟩ := Option.bind_eq_some_iff.1 h
  obtain ⟨tn, h2, h⟩ := Option.bind_eq_some_iff.1 h
  obtain ⟨ta, h3, h⟩ := Option.bind_eq_some_iff.1 h
  obtain ⟨te, h4, h⟩ := Option.bind_eq_some_iff.1 h
  by_cases c : ((ts.size ≤ 9000 ∧ tn.size ≤ 9000 ∧ ta.size ≤ 9000 ∧ te.size ≤ 9000 ∧ (rqV kd).size ≤ 9000) ∧ (mdV qa).size ≤ 9000) ∧ RqS kd ss nd qa
  case neg => rw [if_neg c] at h; cases h
  rw [if_pos c] at h
  obtain rfl := Option.some.inj h
  obtain ⟨⟨⟨s1, s2, s3, s4, s5⟩, s6⟩, ⟨m0, m1⟩, hss, hnd, hqa⟩ := c
  have H1 := Lib.hid h1
  have H2 := Lib.hid h2
  have H3 := Lib.hid h3
  have HSS := Lib.hid hss
  have HND := Lib.hid hnd
  have HQA := Lib.hid hqa
  have HM := Lib.hid (And.intro m0 m1)
  clear h h1 h2 h3 hss hnd hqa
  have wj : wrap64 (kd - 1) = kd - 1 := wid (by omega) (by omega)
  obtain ⟨j, hj⟩ : ∃ j, kd - 1 = j := ⟨_, rfl⟩
  rw [hj] at wj
  have j0 : 0 ≤ j := by omega
  have j1 : j < 11 := by omega
  have p0 : decide (0 ≤ j) = true := decide_eq_true (by omega)
  have p1 : decide (j < 11) = true := decide_eq_true (by omega)
  have p2 : decide (j < (rqS.length : Int)) = true := decide_eq_true (show j < ((11 : Nat) : Int) by omega)
  have p3 : (j < (rqS.length : Int)) = True := eq_true (show j < ((11 : Nat) : Int) by omega)
  have p4 : (0 ≤ j) = True := eq_true (by omega)
  obtain ⟨wd, hwd⟩ : ∃ wd, rqV kd = wd := ⟨_, rfl⟩
  rw [hwd] at s5 ⊢
  have HWD := Lib.hid (show rdOf ByteArray.empty rqS j = wd from by rw [← hj]; exact hwd)
  obtain ⟨tm, htm⟩ : ∃ tm, mdV qa = tm := ⟨_, rfl⟩
  rw [htm] at s6 ⊢
  have HTM := Lib.hid (show rdOf ByteArray.empty mdS qa = tm from htm)
  have J01 := Lib.hid (show 0 ≤ j ∧ j < ((11 : Nat) : Int) by omega)
  clear hwd m0 m1 j0 j1
  go_enter Tryd.func10, Tryd.ntmps10
  go_upto_region 1 with (first | ((with_reducible refine gate_dst (N := 1) rfl ?_); refine box_event ?hg (N := 1) ?hd (cs := #[.int .i64 kd, .int .i64 ss, .int .i64 nd, .int .i64 qa, .int .i64 ek, .int .i64 en, .int .i64 ea, .int .i64 eb, .string et]) (t := 31) ?hr ?_; (case hd => rfl); (case hg => rfl); (case hr => first | (go_simp; done) | (go_simp; rfl)); intro g hg w1 hb1 hB1; clear hg; have BK1 := Lib.hid hb1; have HB1 := Lib.hid hB1; clear hb1 hB1))
  have z0 : World.cell? w1 ⟨g, 0, none⟩ = some (.int .i64 kd) := (blk_cell BK1.out 0).trans rfl
  have z1 : World.cell? w1 ⟨g, 1, none⟩ = some (.int .i64 ss) := (blk_cell BK1.out 1).trans rfl
  have z2 : World.cell? w1 ⟨g, 2, none⟩ = some (.int .i64 nd) := (blk_cell BK1.out 2).trans rfl
  have z3 : World.cell? w1 ⟨g, 3, none⟩ = some (.int .i64 qa) := (blk_cell BK1.out 3).trans rfl
  have z4 : World.cell? w1 ⟨g, 4, none⟩ = some (.int .i64 ek) := (blk_cell BK1.out 4).trans rfl
  have z5 : World.cell? w1 ⟨g, 5, none⟩ = some (.int .i64 en) := (blk_cell BK1.out 5).trans rfl
  have z6 : World.cell? w1 ⟨g, 6, none⟩ = some (.int .i64 ea) := (blk_cell BK1.out 6).trans rfl
  have z7 : World.cell? w1 ⟨g, 7, none⟩ = some (.int .i64 eb) := (blk_cell BK1.out 7).trans rfl
  have z8 : World.cell? w1 ⟨g, 8, none⟩ = some (.string et) := (blk_cell BK1.out 8).trans rfl
  refine start_ (n := 7) (S := fun w' => w'.cell? ⟨g, 0, none⟩ = some (.int .i64 kd) ∧ w'.cell? ⟨g, 1, none⟩ = some (.int .i64 ss) ∧ w'.cell? ⟨g, 2, none⟩ = some (.int .i64 nd) ∧ w'.cell? ⟨g, 3, none⟩ = some (.int .i64 qa) ∧ w'.cell? ⟨g, 4, none⟩ = some (.int .i64 ek) ∧ w'.cell? ⟨g, 5, none⟩ = some (.int .i64 en) ∧ w'.cell? ⟨g, 6, none⟩ = some (.int .i64 ea) ∧ w'.cell? ⟨g, 7, none⟩ = some (.int .i64 eb) ∧ w'.cell? ⟨g, 8, none⟩ = some (.string et)) (ds := []) #[false, false, false, false, false, false, false] (by kernel_rfl) rfl rfl ⟨z0, z1, z2, z3, z4, z5, z6, z7, z8⟩ (fun hHeld => ?_)
  refine pure_ (i := 1) (N := some 5) (v := ?_) (a' := ?_) #[false, true, false, false, false, false, false] rfl rfl (by kernel_rfl) (fun _ _ _ h => h) (Or.inl ⟨by rfl, ?_⟩) ?_ ?_
  rotate_left
  · intro w'
    go_simp
    with_reducible rfl
  rotate_left
  · simp only [Act.put, List.setIfInBounds_toArray, List.set_cons_zero, List.set_cons_succ, i64_w, i32_w]
    rfl
  refine take_ (i := 2) (N := some 6) (v := ?_) (a' := ?_) #[false, true, true, false, false, false, false] rfl rfl (by kernel_rfl) (fun _ _ _ h => h) (Or.inl ⟨by rfl, ?_⟩) hHeld ?_ ?_
  rotate_left
  · rintro w' ⟨s0, s1, s2, s3, s4, s5, s6, s7, s8⟩
    go_simp
    with_reducible rfl
  rotate_left
  · simp only [Act.put, List.setIfInBounds_toArray, List.set_cons_zero, List.set_cons_succ, i64_w, i32_w]
    rfl
  refine pure_ (i := 3) (N := some 7) (v := ?_) (a' := ?_) #[false, true, true, true, false, false, false] rfl rfl (by kernel_rfl) (fun _ _ _ h => h) (Or.inl ⟨by rfl, ?_⟩) ?_ ?_
  rotate_left
  · intro w'
    go_simp
    with_reducible rfl
  rotate_left
  · simp only [Act.put, List.setIfInBounds_toArray, List.set_cons_zero, List.set_cons_succ, i64_w, i32_w]
    rfl
  refine one_ (i := 0) (N := some 4) #[true, true, true, true, false, false, false] rfl rfl (by kernel_rfl) (by decide) (fun K hK => ?_)
  refine goes_ Tryd.func17 (by kernel_rfl) rfl #[] (by rfl) rfl rfl (by simp only [List.map_toArray, List.map_cons, List.map_nil]) ?_
  with_reducible refine (spec_l12Words.calls rqS _ rfl).mono ?_
  rintro e w6 ⟨v6, rfl, hr6, hb6⟩
  refine ⟨_, rfl, ?_⟩
  have HB6 := Lib.hid (below_step (below_drew1 HB1.out) hb6)
  have BK6 := Lib.hid (blk_below (show w1.drew.heap[g]? = _ from BK1.out) hb6)
  obtain ⟨A6, c6, rfl, hc6, hC6⟩ := Kd.R_reads hr6
  obtain ⟨ad, ea_, hx6⟩ := Kd.at_string hC6 j J01.out.1 J01.out.2
  cases ea_
  rw [HWD.out] at hx6
  refine hK.out _ _ ⟨(blk_cell BK6.out 0).trans rfl, (blk_cell BK6.out 1).trans rfl, (blk_cell BK6.out 2).trans rfl, (blk_cell BK6.out 3).trans rfl, (blk_cell BK6.out 4).trans rfl, (blk_cell BK6.out 5).trans rfl, (blk_cell BK6.out 6).trans rfl, (blk_cell BK6.out 7).trans rfl, (blk_cell BK6.out 8).trans rfl⟩ (fun hHeld => ?_)
  clear hK K
  refine norm_ (a' := ?_) ?_ ?_
  rotate_left
  · show Act.put _ (some 4) _ = _
    simp only [Act.put, List.setIfInBounds_toArray, List.set_cons_zero, List.set_cons_succ, i64_w, i32_w]
    rfl
  refine pure_ (i := 4) (N := some 8) (v := ?_) (a' := ?_) #[true, true, true, true, true, false, false] rfl rfl (by kernel_rfl) (fun _ _ _ h => h) (Or.inl ⟨by rfl, ?_⟩) ?_ ?_
  rotate_left
  · intro w'
    go_simp
    with_reducible rfl
  rotate_left
  · simp only [Act.put, List.setIfInBounds_toArray, List.set_cons_zero, List.set_cons_succ, i64_w, i32_w]
    rfl
  refine one_ (i := 5) (N := some 9) #[true, true, true, true, true, true, false] rfl rfl (by kernel_rfl) (by decide) (fun K hK => ?_)
  refine value_ (w1 := ?_) (v := ?_) (by rfl) rfl ?_ ?_
  rotate_left 2
  · go_simp
    constructor
    · rfl
    · rfl
  refine hK.out _ _ ⟨(blk_cell BK6.out 0).trans rfl, (blk_cell BK6.out 1).trans rfl, (blk_cell BK6.out 2).trans rfl, (blk_cell BK6.out 3).trans rfl, (blk_cell BK6.out 4).trans rfl, (blk_cell BK6.out 5).trans rfl, (blk_cell BK6.out 6).trans rfl, (blk_cell BK6.out 7).trans rfl, (blk_cell BK6.out 8).trans rfl⟩ (fun hHeld => ?_)
  clear hK K
  refine norm_ (a' := ?_) ?_ ?_
  rotate_left
  · show Act.put _ (some 9) _ = _
    simp only [Act.put, List.setIfInBounds_toArray, List.set_cons_zero, List.set_cons_succ, i64_w, i32_w]
    rfl
  refine pure_ (i := 6) (N := some 3) (v := ?_) (a' := ?_) #[true, true, true, true, true, true, true] rfl rfl (by kernel_rfl) (fun _ _ _ h => h) (Or.inl ⟨by rfl, ?_⟩) ?_ ?_
  rotate_left
  · intro w'
    go_simp
    with_reducible rfl
  rotate_left
  · simp only [Act.put, List.setIfInBounds_toArray, List.set_cons_zero, List.set_cons_succ, i64_w, i32_w]
    rfl
  refine done_ (by kernel_rfl) ?_
  
  clear hx6 hC6 hr6 hb6 p0 p1 p2 p3 p4
  clear z0 z1 z2 z3 z4 z5 z6 z7 z8
  have z0 : World.cell? w6 ⟨g, 0, none⟩ = some (.int .i64 kd) := (blk_cell BK6.out 0).trans rfl
  have z1 : World.cell? w6 ⟨g, 1, none⟩ = some (.int .i64 ss) := (blk_cell BK6.out 1).trans rfl
  have z2 : World.cell? w6 ⟨g, 2, none⟩ = some (.int .i64 nd) := (blk_cell BK6.out 2).trans rfl
  have z3 : World.cell? w6 ⟨g, 3, none⟩ = some (.int .i64 qa) := (blk_cell BK6.out 3).trans rfl
  have z4 : World.cell? w6 ⟨g, 4, none⟩ = some (.int .i64 ek) := (blk_cell BK6.out 4).trans rfl
  have z5 : World.cell? w6 ⟨g, 5, none⟩ = some (.int .i64 en) := (blk_cell BK6.out 5).trans rfl
  have z6 : World.cell? w6 ⟨g, 6, none⟩ = some (.int .i64 ea) := (blk_cell BK6.out 6).trans rfl
  have z7 : World.cell? w6 ⟨g, 7, none⟩ = some (.int .i64 eb) := (blk_cell BK6.out 7).trans rfl
  have z8 : World.cell? w6 ⟨g, 8, none⟩ = some (.string et) := (blk_cell BK6.out 8).trans rfl
  obtain ⟨⟨oa1, oa2, oa3, oa4⟩, oa5, oa6, oa7, oa8⟩ := ovB (x := wd) (y := ta) (by omega) (by omega)
  obtain ⟨⟨os1, os2, os3, os4⟩, os5, os6, os7, os8⟩ := ovB (x := wd) (y := ts) (by omega) (by omega)
  obtain ⟨⟨on1, on2, on3, on4⟩, on5, on6, on7, on8⟩ := ovB (x := wd ++ (spC ++ ts)) (y := tn) (by have := szC s5 s1; omega) (by omega)
  obtain ⟨⟨oe1, oe2, oe3, oe4⟩, oe5, oe6, oe7, oe8⟩ := ovB (x := wd ++ (spC ++ ts)) (y := te) (by have := szC s5 s1; omega) (by omega)
  obtain ⟨⟨om1, om2, om3, om4⟩, om5, om6, om7, om8⟩ := ovB (x := wd ++ (spC ++ ts) ++ (spC ++ tn)) (y := tm) (by have := szC (szC s5 s1) s2; omega) (by omega)
  obtain ⟨⟨oq1, oq2, oq3, oq4⟩, oq5, oq6, oq7, oq8⟩ := ovB (x := spC) (y := tn) (by decide) (by omega)
  obtain ⟨⟨oc1, oc2, oc3, oc4⟩, oc5, oc6⟩ := ovC (x := wd ++ (spC ++ ts)) (y := tn) (z := tm) (by have := szC s5 s1; omega) (by omega) (by omega)
  obtain ⟨of1, of2, of3, of4⟩ := ovD (a := wd.size) (b := ts.size) (c := tn.size) (d := te.size) (e := tm.size) s5 s1 s2 s4 s6
  clear s1 s2 s3 s4 s5 s6 htm
  by_cases d1 : kd = 1
  · skip
    have HJ := Lib.hid (show rqJ kd wd ts tn ta tm te = wd from by unfold rqJ; rw [if_pos d1])
    have hs := HSS.out
    have hn := HND.out
    have nss : (ss != 0) = false := bne_eq_false_iff_eq.mpr (by omega)
    have nnd : (nd != 0) = false := bne_eq_false_iff_eq.mpr (by omega)
    have ekd_1 : (kd == 1) = true := beq_iff_eq.mpr (by omega)
    have ekd_11 : (kd == 11) = false := beq_eq_false_iff_ne.mpr (by omega)
    have ekd_4 : (kd == 4) = false := beq_eq_false_iff_ne.mpr (by omega)
    have ekd_7 : (kd == 7) = false := beq_eq_false_iff_ne.mpr (by omega)
    have ekd_5 : (kd == 5) = false := beq_eq_false_iff_ne.mpr (by omega)
    have ekd_6 : (kd == 6) = false := beq_eq_false_iff_ne.mpr (by omega)
    have ekd_10 : (kd == 10) = false := beq_eq_false_iff_ne.mpr (by omega)
    clear hs hn h4
    clear d1
    go_wp2
    go_ret
    exact ⟨by (rw [HJ.out]; rfl), HB6.out⟩
  by_cases d11 : kd = 11
  · skip
    have HJ := Lib.hid (show rqJ kd wd ts tn ta tm te = wd ++ spC ++ ta from by unfold rqJ; rw [if_neg d1, if_pos d11, ByteArray.append_assoc])
    have hs := HSS.out
    have hn := HND.out
    have nss : (ss != 0) = false := bne_eq_false_iff_eq.mpr (by omega)
    have nnd : (nd != 0) = false := bne_eq_false_iff_eq.mpr (by omega)
    have ekd_1 : (kd == 1) = false := beq_eq_false_iff_ne.mpr (by omega)
    have ekd_11 : (kd == 11) = true := beq_iff_eq.mpr (by omega)
    have ekd_4 : (kd == 4) = false := beq_eq_false_iff_ne.mpr (by omega)
    have ekd_7 : (kd == 7) = false := beq_eq_false_iff_ne.mpr (by omega)
    have ekd_5 : (kd == 5) = false := beq_eq_false_iff_ne.mpr (by omega)
    have ekd_6 : (kd == 6) = false := beq_eq_false_iff_ne.mpr (by omega)
    have ekd_10 : (kd == 10) = false := beq_eq_false_iff_ne.mpr (by omega)
    clear hs hn h4
    clear d1 d11
    go_wp2_with fail
    refine (spec_l00Digits.calls k qa ta w6 H3.out).mono ?_
    rintro e w7 ⟨rfl, hb7⟩
    have HB7 := Lib.hid (below_step HB6.out hb7)
    have BK7 := Lib.hid (blk_below BK6.out hb7)
    clear hb7
    clear z0 z1 z2 z3 z4 z5 z6 z7 z8
    have z0 : World.cell? w7 ⟨g, 0, none⟩ = some (.int .i64 kd) := (blk_cell BK7.out 0).trans rfl
    have z1 : World.cell? w7 ⟨g, 1, none⟩ = some (.int .i64 ss) := (blk_cell BK7.out 1).trans rfl
    have z2 : World.cell? w7 ⟨g, 2, none⟩ = some (.int .i64 nd) := (blk_cell BK7.out 2).trans rfl
    have z3 : World.cell? w7 ⟨g, 3, none⟩ = some (.int .i64 qa) := (blk_cell BK7.out 3).trans rfl
    have z4 : World.cell? w7 ⟨g, 4, none⟩ = some (.int .i64 ek) := (blk_cell BK7.out 4).trans rfl
    have z5 : World.cell? w7 ⟨g, 5, none⟩ = some (.int .i64 en) := (blk_cell BK7.out 5).trans rfl
    have z6 : World.cell? w7 ⟨g, 6, none⟩ = some (.int .i64 ea) := (blk_cell BK7.out 6).trans rfl
    have z7 : World.cell? w7 ⟨g, 7, none⟩ = some (.int .i64 eb) := (blk_cell BK7.out 7).trans rfl
    have z8 : World.cell? w7 ⟨g, 8, none⟩ = some (.string et) := (blk_cell BK7.out 8).trans rfl
    go_wp2
    go_ret
    exact ⟨by (rw [HJ.out]; rfl), HB7.out⟩
  by_cases d4 : kd = 4
  · skip
    have HJ := Lib.hid (show rqJ kd wd ts tn ta tm te = wd ++ (spC ++ ts) ++ (spC ++ tn ++ spC ++ tm) from by unfold rqJ; rw [if_neg d1, if_neg d11, if_pos d4]; simp only [ByteArray.append_assoc])
    have hs := HSS.out
    have hn := HND.out
    have nss : (ss != 0) = true := bne_iff_ne.mpr (by omega)
    have nnd : (nd != 0) = true := bne_iff_ne.mpr (by omega)
    have ekd_1 : (kd == 1) = false := beq_eq_false_iff_ne.mpr (by omega)
    have ekd_11 : (kd == 11) = false := beq_eq_false_iff_ne.mpr (by omega)
    have ekd_4 : (kd == 4) = true := beq_iff_eq.mpr (by omega)
    have ekd_7 : (kd == 7) = false := beq_eq_false_iff_ne.mpr (by omega)
    have ekd_5 : (kd == 5) = false := beq_eq_false_iff_ne.mpr (by omega)
    have ekd_6 : (kd == 6) = false := beq_eq_false_iff_ne.mpr (by omega)
    have ekd_10 : (kd == 10) = false := beq_eq_false_iff_ne.mpr (by omega)
    have hq := HQA.out d4
    have u0 : decide (0 ≤ qa) = true := decide_eq_true hq.1
    have u1 : decide (qa < 6) = true := decide_eq_true hq.2
    have u2 : decide (qa < (mdS.length : Int)) = true := decide_eq_true (show qa < ((6 : Nat) : Int) from hq.2)
    have u3 : (qa < (mdS.length : Int)) = True := eq_true (show qa < ((6 : Nat) : Int) from hq.2)
    have u4 : (0 ≤ qa) = True := eq_true hq.1
    have HQ := Lib.hid hq
    clear hs hn hq h4
    clear d1 d11 d4
    go_wp2_with fail
    refine (spec_l00Digits.calls k ss ts w6 H1.out).mono ?_
    rintro e w7 ⟨rfl, hb7⟩
    have HB7 := Lib.hid (below_step HB6.out hb7)
    have BK7 := Lib.hid (blk_below BK6.out hb7)
    clear hb7
    clear z0 z1 z2 z3 z4 z5 z6 z7 z8
    have z0 : World.cell? w7 ⟨g, 0, none⟩ = some (.int .i64 kd) := (blk_cell BK7.out 0).trans rfl
    have z1 : World.cell? w7 ⟨g, 1, none⟩ = some (.int .i64 ss) := (blk_cell BK7.out 1).trans rfl
    have z2 : World.cell? w7 ⟨g, 2, none⟩ = some (.int .i64 nd) := (blk_cell BK7.out 2).trans rfl
    have z3 : World.cell? w7 ⟨g, 3, none⟩ = some (.int .i64 qa) := (blk_cell BK7.out 3).trans rfl
    have z4 : World.cell? w7 ⟨g, 4, none⟩ = some (.int .i64 ek) := (blk_cell BK7.out 4).trans rfl
    have z5 : World.cell? w7 ⟨g, 5, none⟩ = some (.int .i64 en) := (blk_cell BK7.out 5).trans rfl
    have z6 : World.cell? w7 ⟨g, 6, none⟩ = some (.int .i64 ea) := (blk_cell BK7.out 6).trans rfl
    have z7 : World.cell? w7 ⟨g, 7, none⟩ = some (.int .i64 eb) := (blk_cell BK7.out 7).trans rfl
    have z8 : World.cell? w7 ⟨g, 8, none⟩ = some (.string et) := (blk_cell BK7.out 8).trans rfl
    go_upto_region 10 with fail
    refine start_ (n := 14) (S := fun w' => w'.cell? ⟨g, 0, none⟩ = some (.int .i64 kd) ∧ w'.cell? ⟨g, 1, none⟩ = some (.int .i64 ss) ∧ w'.cell? ⟨g, 2, none⟩ = some (.int .i64 nd) ∧ w'.cell? ⟨g, 3, none⟩ = some (.int .i64 qa) ∧ w'.cell? ⟨g, 4, none⟩ = some (.int .i64 ek) ∧ w'.cell? ⟨g, 5, none⟩ = some (.int .i64 en) ∧ w'.cell? ⟨g, 6, none⟩ = some (.int .i64 ea) ∧ w'.cell? ⟨g, 7, none⟩ = some (.int .i64 eb) ∧ w'.cell? ⟨g, 8, none⟩ = some (.string et)) (ds := []) #[false, false, false, false, false, false, false, false, false, false, false, false, false, false] (by kernel_rfl) rfl rfl ⟨z0, z1, z2, z3, z4, z5, z6, z7, z8⟩ (fun hHeld => ?_)
    refine pure_ (i := 0) (N := some 33) (v := ?_) (a' := ?_) #[true, false, false, false, false, false, false, false, false, false, false, false, false, false] rfl rfl (by kernel_rfl) (fun _ _ _ h => h) (Or.inl ⟨by rfl, ?_⟩) ?_ ?_
    rotate_left
    · intro w'
      go_simp
      with_reducible rfl
    rotate_left
    · simp only [Act.put, List.setIfInBounds_toArray, List.set_cons_zero, List.set_cons_succ, i64_w, i32_w]
      rfl
    refine pure_ (i := 1) (N := some 34) (v := ?_) (a' := ?_) #[true, true, false, false, false, false, false, false, false, false, false, false, false, false] rfl rfl (by kernel_rfl) (fun _ _ _ h => h) (Or.inl ⟨by rfl, ?_⟩) ?_ ?_
    rotate_left
    · intro w'
      go_simp
      with_reducible rfl
    rotate_left
    · simp only [Act.put, List.setIfInBounds_toArray, List.set_cons_zero, List.set_cons_succ, i64_w, i32_w]
      rfl
    refine pure_ (i := 7) (N := some 40) (v := ?_) (a' := ?_) #[true, true, false, false, false, false, false, true, false, false, false, false, false, false] rfl rfl (by kernel_rfl) (fun _ _ _ h => h) (Or.inl ⟨by rfl, ?_⟩) ?_ ?_
    rotate_left
    · intro w'
      go_simp
      with_reducible rfl
    rotate_left
    · simp only [Act.put, List.setIfInBounds_toArray, List.set_cons_zero, List.set_cons_succ, i64_w, i32_w]
      rfl
    refine take_ (i := 2) (N := some 35) (v := ?_) (a' := ?_) #[true, true, true, false, false, false, false, true, false, false, false, false, false, false] rfl rfl (by kernel_rfl) (fun _ _ _ h => h) (Or.inl ⟨by rfl, ?_⟩) hHeld ?_ ?_
    rotate_left
    · rintro w' ⟨s0, s1, s2, s3, s4, s5, s6, s7, s8⟩
      go_simp
      with_reducible rfl
    rotate_left
    · simp only [Act.put, List.setIfInBounds_toArray, List.set_cons_zero, List.set_cons_succ, i64_w, i32_w]
      rfl
    refine take_ (i := 8) (N := some 41) (v := ?_) (a' := ?_) #[true, true, true, false, false, false, false, true, true, false, false, false, false, false] rfl rfl (by kernel_rfl) (fun _ _ _ h => h) (Or.inl ⟨by rfl, ?_⟩) hHeld ?_ ?_
    rotate_left
    · rintro w' ⟨s0, s1, s2, s3, s4, s5, s6, s7, s8⟩
      go_simp
      with_reducible rfl
    rotate_left
    · simp only [Act.put, List.setIfInBounds_toArray, List.set_cons_zero, List.set_cons_succ, i64_w, i32_w]
      rfl
    refine one_ (i := 3) (N := some 36) #[true, true, true, true, false, false, false, true, true, false, false, false, false, false] rfl rfl (by kernel_rfl) (by decide) (fun K hK => ?_)
    refine goes_ Tryd.func18 (by kernel_rfl) rfl #[.int .i64 nd] (by rfl) rfl rfl (by simp only [List.map_toArray, List.map_cons, List.map_nil]; rfl) ?_
    with_reducible refine (spec_l00Digits.calls k nd tn _ H2.out).mono ?_
    rintro e w20 ⟨rfl, hb20⟩
    refine ⟨_, rfl, ?_⟩
    have HB20 := Lib.hid (below_step (below_drew1 HB7.out) hb20)
    have BK20 := Lib.hid (blk_below (show w7.drew.heap[g]? = _ from BK7.out) hb20)
    refine hK.out _ _ ⟨(blk_cell BK20.out 0).trans rfl, (blk_cell BK20.out 1).trans rfl, (blk_cell BK20.out 2).trans rfl, (blk_cell BK20.out 3).trans rfl, (blk_cell BK20.out 4).trans rfl, (blk_cell BK20.out 5).trans rfl, (blk_cell BK20.out 6).trans rfl, (blk_cell BK20.out 7).trans rfl, (blk_cell BK20.out 8).trans rfl⟩ (fun hHeld => ?_)
    clear hK K
    refine norm_ (a' := ?_) ?_ ?_
    rotate_left
    · show Act.put _ (some 36) _ = _
      simp only [Act.put, List.setIfInBounds_toArray, List.set_cons_zero, List.set_cons_succ, i64_w, i32_w]
      rfl
    refine pure_ (i := 4) (N := some 37) (v := ?_) (a' := ?_) #[true, true, true, true, true, false, false, true, true, false, false, false, false, false] rfl rfl (by kernel_rfl) (fun _ _ _ h => h) (Or.inl ⟨by rfl, ?_⟩) ?_ ?_
    rotate_left
    · intro w'
      go_simp
      with_reducible rfl
    rotate_left
    · simp only [Act.put, List.setIfInBounds_toArray, List.set_cons_zero, List.set_cons_succ, i64_w, i32_w]
      rfl
    refine pure_ (i := 5) (N := some 38) (v := ?_) (a' := ?_) #[true, true, true, true, true, true, false, true, true, false, false, false, false, false] rfl rfl (by kernel_rfl) (fun _ _ _ h => h) (Or.inl ⟨by rfl, ?_⟩) ?_ ?_
    rotate_left
    · intro w'
      go_simp
      with_reducible rfl
    rotate_left
    · simp only [Act.put, List.setIfInBounds_toArray, List.set_cons_zero, List.set_cons_succ, i64_w, i32_w]
      rfl
    refine one_ (i := 6) (N := some 39) #[true, true, true, true, true, true, true, true, true, false, false, false, false, false] rfl rfl (by kernel_rfl) (by decide) (fun K hK => ?_)
    refine goes_ Tryd.func19 (by kernel_rfl) rfl #[] (by rfl) rfl rfl (by simp only [List.map_toArray, List.map_cons, List.map_nil]) ?_
    with_reducible refine (spec_l12Modes.calls mdS _ rfl).mono ?_
    rintro e w21 ⟨v21, rfl, hr21, hb21⟩
    refine ⟨_, rfl, ?_⟩
    have HB21 := Lib.hid (below_step HB20.out hb21)
    have BK21 := Lib.hid (blk_below BK20.out hb21)
    obtain ⟨A21, c21, rfl, hc21, hC21⟩ := Kd.R_reads hr21
    obtain ⟨ad21, ea21, hx21⟩ := Kd.at_string hC21 qa HQ.out.1 (show qa < ((6 : Nat) : Int) from HQ.out.2)
    cases ea21
    rw [HTM.out] at hx21
    refine hK.out _ _ ⟨(blk_cell BK21.out 0).trans rfl, (blk_cell BK21.out 1).trans rfl, (blk_cell BK21.out 2).trans rfl, (blk_cell BK21.out 3).trans rfl, (blk_cell BK21.out 4).trans rfl, (blk_cell BK21.out 5).trans rfl, (blk_cell BK21.out 6).trans rfl, (blk_cell BK21.out 7).trans rfl, (blk_cell BK21.out 8).trans rfl⟩ (fun hHeld => ?_)
    clear hK K
    refine norm_ (a' := ?_) ?_ ?_
    rotate_left
    · show Act.put _ (some 39) _ = _
      simp only [Act.put, List.setIfInBounds_toArray, List.set_cons_zero, List.set_cons_succ, i64_w, i32_w]
      rfl
    refine pure_ (i := 9) (N := some 42) (v := ?_) (a' := ?_) #[true, true, true, true, true, true, true, true, true, true, false, false, false, false] rfl rfl (by kernel_rfl) (fun _ _ _ h => h) (Or.inl ⟨by rfl, ?_⟩) ?_ ?_
    rotate_left
    · intro w'
      go_simp
      with_reducible rfl
    rotate_left
    · simp only [Act.put, List.setIfInBounds_toArray, List.set_cons_zero, List.set_cons_succ, i64_w, i32_w]
      rfl
    refine one_ (i := 10) (N := some 43) #[true, true, true, true, true, true, true, true, true, true, true, false, false, false] rfl rfl (by kernel_rfl) (by decide) (fun K hK => ?_)
    refine value_ (w1 := ?_) (v := ?_) (by rfl) rfl ?_ ?_
    rotate_left 2
    · go_simp
      constructor
      · rfl
      · rfl
    refine hK.out _ _ ⟨(blk_cell BK21.out 0).trans rfl, (blk_cell BK21.out 1).trans rfl, (blk_cell BK21.out 2).trans rfl, (blk_cell BK21.out 3).trans rfl, (blk_cell BK21.out 4).trans rfl, (blk_cell BK21.out 5).trans rfl, (blk_cell BK21.out 6).trans rfl, (blk_cell BK21.out 7).trans rfl, (blk_cell BK21.out 8).trans rfl⟩ (fun hHeld => ?_)
    clear hK K
    refine norm_ (a' := ?_) ?_ ?_
    rotate_left
    · show Act.put _ (some 43) _ = _
      simp only [Act.put, List.setIfInBounds_toArray, List.set_cons_zero, List.set_cons_succ, i64_w, i32_w]
      rfl
    refine pure_ (i := 11) (N := some 44) (v := ?_) (a' := ?_) #[true, true, true, true, true, true, true, true, true, true, true, true, false, false] rfl rfl (by kernel_rfl) (fun _ _ _ h => h) (Or.inl ⟨by rfl, ?_⟩) ?_ ?_
    rotate_left
    · intro w'
      go_simp
      with_reducible rfl
    rotate_left
    · simp only [Act.put, List.setIfInBounds_toArray, List.set_cons_zero, List.set_cons_succ, i64_w, i32_w]
      rfl
    refine pure_ (i := 12) (N := some 45) (v := ?_) (a' := ?_) #[true, true, true, true, true, true, true, true, true, true, true, true, true, false] rfl rfl (by kernel_rfl) (fun _ _ _ h => h) (Or.inl ⟨by rfl, ?_⟩) ?_ ?_
    rotate_left
    · intro w'
      go_simp
      with_reducible rfl
    rotate_left
    · simp only [Act.put, List.setIfInBounds_toArray, List.set_cons_zero, List.set_cons_succ, i64_w, i32_w]
      rfl
    refine pure_ (i := 13) (N := some 3) (v := ?_) (a' := ?_) #[true, true, true, true, true, true, true, true, true, true, true, true, true, true] rfl rfl (by kernel_rfl) (fun _ _ _ h => h) (Or.inl ⟨by rfl, ?_⟩) ?_ ?_
    rotate_left
    · intro w'
      go_simp
      with_reducible rfl
    rotate_left
    · simp only [Act.put, List.setIfInBounds_toArray, List.set_cons_zero, List.set_cons_succ, i64_w, i32_w]
      rfl
    refine done_ (by kernel_rfl) ?_
    
    go_wp2
    go_ret
    exact ⟨by (rw [HJ.out]; rfl), HB21.out⟩
  by_cases d7 : kd = 7
  · skip
    have HJ := Lib.hid (show rqJ kd wd ts tn ta tm te = wd ++ (spC ++ ts) ++ (spC ++ te) from by unfold rqJ; rw [if_neg d1, if_neg d11, if_neg d4, if_pos d7])
    have hs := HSS.out
    have hn := HND.out
    have nss : (ss != 0) = true := bne_iff_ne.mpr (by omega)
    have nnd : (nd != 0) = false := bne_eq_false_iff_eq.mpr (by omega)
    have ekd_1 : (kd == 1) = false := beq_eq_false_iff_ne.mpr (by omega)
    have ekd_11 : (kd == 11) = false := beq_eq_false_iff_ne.mpr (by omega)
    have ekd_4 : (kd == 4) = false := beq_eq_false_iff_ne.mpr (by omega)
    have ekd_7 : (kd == 7) = true := beq_iff_eq.mpr (by omega)
    have ekd_5 : (kd == 5) = false := beq_eq_false_iff_ne.mpr (by omega)
    have ekd_6 : (kd == 6) = false := beq_eq_false_iff_ne.mpr (by omega)
    have ekd_10 : (kd == 10) = false := beq_eq_false_iff_ne.mpr (by omega)
    rw [if_pos d7] at h4
    have H4 := Lib.hid h4
    clear hs hn h4
    clear d1 d11 d4 d7
    go_wp2_with fail
    refine (spec_l00Digits.calls k ss ts w6 H1.out).mono ?_
    rintro e w7 ⟨rfl, hb7⟩
    have HB7 := Lib.hid (below_step HB6.out hb7)
    have BK7 := Lib.hid (blk_below BK6.out hb7)
    clear hb7
    clear z0 z1 z2 z3 z4 z5 z6 z7 z8
    have z0 : World.cell? w7 ⟨g, 0, none⟩ = some (.int .i64 kd) := (blk_cell BK7.out 0).trans rfl
    have z1 : World.cell? w7 ⟨g, 1, none⟩ = some (.int .i64 ss) := (blk_cell BK7.out 1).trans rfl
    have z2 : World.cell? w7 ⟨g, 2, none⟩ = some (.int .i64 nd) := (blk_cell BK7.out 2).trans rfl
    have z3 : World.cell? w7 ⟨g, 3, none⟩ = some (.int .i64 qa) := (blk_cell BK7.out 3).trans rfl
    have z4 : World.cell? w7 ⟨g, 4, none⟩ = some (.int .i64 ek) := (blk_cell BK7.out 4).trans rfl
    have z5 : World.cell? w7 ⟨g, 5, none⟩ = some (.int .i64 en) := (blk_cell BK7.out 5).trans rfl
    have z6 : World.cell? w7 ⟨g, 6, none⟩ = some (.int .i64 ea) := (blk_cell BK7.out 6).trans rfl
    have z7 : World.cell? w7 ⟨g, 7, none⟩ = some (.int .i64 eb) := (blk_cell BK7.out 7).trans rfl
    have z8 : World.cell? w7 ⟨g, 8, none⟩ = some (.string et) := (blk_cell BK7.out 8).trans rfl
    go_wp2_with fail
    refine (spec_l06Text.calls k ek en ea eb et te w7 H4.out).mono ?_
    rintro e w8 ⟨rfl, hb8⟩
    have HB8 := Lib.hid (below_step HB7.out hb8)
    have BK8 := Lib.hid (blk_below BK7.out hb8)
    clear hb8
    clear z0 z1 z2 z3 z4 z5 z6 z7 z8
    have z0 : World.cell? w8 ⟨g, 0, none⟩ = some (.int .i64 kd) := (blk_cell BK8.out 0).trans rfl
    have z1 : World.cell? w8 ⟨g, 1, none⟩ = some (.int .i64 ss) := (blk_cell BK8.out 1).trans rfl
    have z2 : World.cell? w8 ⟨g, 2, none⟩ = some (.int .i64 nd) := (blk_cell BK8.out 2).trans rfl
    have z3 : World.cell? w8 ⟨g, 3, none⟩ = some (.int .i64 qa) := (blk_cell BK8.out 3).trans rfl
    have z4 : World.cell? w8 ⟨g, 4, none⟩ = some (.int .i64 ek) := (blk_cell BK8.out 4).trans rfl
    have z5 : World.cell? w8 ⟨g, 5, none⟩ = some (.int .i64 en) := (blk_cell BK8.out 5).trans rfl
    have z6 : World.cell? w8 ⟨g, 6, none⟩ = some (.int .i64 ea) := (blk_cell BK8.out 6).trans rfl
    have z7 : World.cell? w8 ⟨g, 7, none⟩ = some (.int .i64 eb) := (blk_cell BK8.out 7).trans rfl
    have z8 : World.cell? w8 ⟨g, 8, none⟩ = some (.string et) := (blk_cell BK8.out 8).trans rfl
    go_wp2
    go_ret
    exact ⟨by (rw [HJ.out]; rfl), HB8.out⟩
  by_cases d5 : kd = 5 ∨ kd = 6 ∨ kd = 10
  · skip
    have HJ := Lib.hid (show rqJ kd wd ts tn ta tm te = wd ++ (spC ++ ts) ++ (spC ++ tn) from by unfold rqJ; rw [if_neg d1, if_neg d11, if_neg d4, if_neg d7, if_pos d5])
    have hs := HSS.out
    have hn := HND.out
    have nss : (ss != 0) = true := bne_iff_ne.mpr (by omega)
    have nnd : (nd != 0) = true := bne_iff_ne.mpr (by omega)
    have ekd_1 : (kd == 1) = false := beq_eq_false_iff_ne.mpr (by omega)
    have ekd_11 : (kd == 11) = false := beq_eq_false_iff_ne.mpr (by omega)
    have ekd_4 : (kd == 4) = false := beq_eq_false_iff_ne.mpr (by omega)
    have ekd_7 : (kd == 7) = false := beq_eq_false_iff_ne.mpr (by omega)
    have w5 := d5
    clear hs hn h4
    clear d1 d11 d4 d7
    go_wp2_with fail
    refine (spec_l00Digits.calls k ss ts w6 H1.out).mono ?_
    rintro e w7 ⟨rfl, hb7⟩
    have HB7 := Lib.hid (below_step HB6.out hb7)
    have BK7 := Lib.hid (blk_below BK6.out hb7)
    clear hb7
    clear z0 z1 z2 z3 z4 z5 z6 z7 z8
    have z0 : World.cell? w7 ⟨g, 0, none⟩ = some (.int .i64 kd) := (blk_cell BK7.out 0).trans rfl
    have z1 : World.cell? w7 ⟨g, 1, none⟩ = some (.int .i64 ss) := (blk_cell BK7.out 1).trans rfl
    have z2 : World.cell? w7 ⟨g, 2, none⟩ = some (.int .i64 nd) := (blk_cell BK7.out 2).trans rfl
    have z3 : World.cell? w7 ⟨g, 3, none⟩ = some (.int .i64 qa) := (blk_cell BK7.out 3).trans rfl
    have z4 : World.cell? w7 ⟨g, 4, none⟩ = some (.int .i64 ek) := (blk_cell BK7.out 4).trans rfl
    have z5 : World.cell? w7 ⟨g, 5, none⟩ = some (.int .i64 en) := (blk_cell BK7.out 5).trans rfl
    have z6 : World.cell? w7 ⟨g, 6, none⟩ = some (.int .i64 ea) := (blk_cell BK7.out 6).trans rfl
    have z7 : World.cell? w7 ⟨g, 7, none⟩ = some (.int .i64 eb) := (blk_cell BK7.out 7).trans rfl
    have z8 : World.cell? w7 ⟨g, 8, none⟩ = some (.string et) := (blk_cell BK7.out 8).trans rfl
    by_cases g5 : kd = 5
    · have e5_ : (kd == 5) = true := beq_iff_eq.mpr (by omega)
      have e6_ : (kd == 6) = false := beq_eq_false_iff_ne.mpr (by omega)
      have e10_ : (kd == 10) = false := beq_eq_false_iff_ne.mpr (by omega)
      clear d5 w5 g5
      go_wp2_with fail
      refine (spec_l00Digits.calls k nd tn w7 H2.out).mono ?_
      rintro e w8 ⟨rfl, hb8⟩
      have HB8 := Lib.hid (below_step HB7.out hb8)
      have BK8 := Lib.hid (blk_below BK7.out hb8)
      clear hb8
      clear z0 z1 z2 z3 z4 z5 z6 z7 z8
      have z0 : World.cell? w8 ⟨g, 0, none⟩ = some (.int .i64 kd) := (blk_cell BK8.out 0).trans rfl
      have z1 : World.cell? w8 ⟨g, 1, none⟩ = some (.int .i64 ss) := (blk_cell BK8.out 1).trans rfl
      have z2 : World.cell? w8 ⟨g, 2, none⟩ = some (.int .i64 nd) := (blk_cell BK8.out 2).trans rfl
      have z3 : World.cell? w8 ⟨g, 3, none⟩ = some (.int .i64 qa) := (blk_cell BK8.out 3).trans rfl
      have z4 : World.cell? w8 ⟨g, 4, none⟩ = some (.int .i64 ek) := (blk_cell BK8.out 4).trans rfl
      have z5 : World.cell? w8 ⟨g, 5, none⟩ = some (.int .i64 en) := (blk_cell BK8.out 5).trans rfl
      have z6 : World.cell? w8 ⟨g, 6, none⟩ = some (.int .i64 ea) := (blk_cell BK8.out 6).trans rfl
      have z7 : World.cell? w8 ⟨g, 7, none⟩ = some (.int .i64 eb) := (blk_cell BK8.out 7).trans rfl
      have z8 : World.cell? w8 ⟨g, 8, none⟩ = some (.string et) := (blk_cell BK8.out 8).trans rfl
      go_wp2
      go_ret
      exact ⟨by (rw [HJ.out]; rfl), HB8.out⟩
    by_cases g6 : kd = 6
    · have e5_ : (kd == 5) = false := beq_eq_false_iff_ne.mpr (by omega)
      have e6_ : (kd == 6) = true := beq_iff_eq.mpr (by omega)
      have e10_ : (kd == 10) = false := beq_eq_false_iff_ne.mpr (by omega)
      clear d5 w5 g5 g6
      go_wp2_with fail
      refine (spec_l00Digits.calls k nd tn w7 H2.out).mono ?_
      rintro e w8 ⟨rfl, hb8⟩
      have HB8 := Lib.hid (below_step HB7.out hb8)
      have BK8 := Lib.hid (blk_below BK7.out hb8)
      clear hb8
      clear z0 z1 z2 z3 z4 z5 z6 z7 z8
      have z0 : World.cell? w8 ⟨g, 0, none⟩ = some (.int .i64 kd) := (blk_cell BK8.out 0).trans rfl
      have z1 : World.cell? w8 ⟨g, 1, none⟩ = some (.int .i64 ss) := (blk_cell BK8.out 1).trans rfl
      have z2 : World.cell? w8 ⟨g, 2, none⟩ = some (.int .i64 nd) := (blk_cell BK8.out 2).trans rfl
      have z3 : World.cell? w8 ⟨g, 3, none⟩ = some (.int .i64 qa) := (blk_cell BK8.out 3).trans rfl
      have z4 : World.cell? w8 ⟨g, 4, none⟩ = some (.int .i64 ek) := (blk_cell BK8.out 4).trans rfl
      have z5 : World.cell? w8 ⟨g, 5, none⟩ = some (.int .i64 en) := (blk_cell BK8.out 5).trans rfl
      have z6 : World.cell? w8 ⟨g, 6, none⟩ = some (.int .i64 ea) := (blk_cell BK8.out 6).trans rfl
      have z7 : World.cell? w8 ⟨g, 7, none⟩ = some (.int .i64 eb) := (blk_cell BK8.out 7).trans rfl
      have z8 : World.cell? w8 ⟨g, 8, none⟩ = some (.string et) := (blk_cell BK8.out 8).trans rfl
      go_wp2
      go_ret
      exact ⟨by (rw [HJ.out]; rfl), HB8.out⟩
    by_cases g10 : kd = 10
    · have e5_ : (kd == 5) = false := beq_eq_false_iff_ne.mpr (by omega)
      have e6_ : (kd == 6) = false := beq_eq_false_iff_ne.mpr (by omega)
      have e10_ : (kd == 10) = true := beq_iff_eq.mpr (by omega)
      clear d5 w5 g5 g6 g10
      go_wp2_with fail
      refine (spec_l00Digits.calls k nd tn w7 H2.out).mono ?_
      rintro e w8 ⟨rfl, hb8⟩
      have HB8 := Lib.hid (below_step HB7.out hb8)
      have BK8 := Lib.hid (blk_below BK7.out hb8)
      clear hb8
      clear z0 z1 z2 z3 z4 z5 z6 z7 z8
      have z0 : World.cell? w8 ⟨g, 0, none⟩ = some (.int .i64 kd) := (blk_cell BK8.out 0).trans rfl
      have z1 : World.cell? w8 ⟨g, 1, none⟩ = some (.int .i64 ss) := (blk_cell BK8.out 1).trans rfl
      have z2 : World.cell? w8 ⟨g, 2, none⟩ = some (.int .i64 nd) := (blk_cell BK8.out 2).trans rfl
      have z3 : World.cell? w8 ⟨g, 3, none⟩ = some (.int .i64 qa) := (blk_cell BK8.out 3).trans rfl
      have z4 : World.cell? w8 ⟨g, 4, none⟩ = some (.int .i64 ek) := (blk_cell BK8.out 4).trans rfl
      have z5 : World.cell? w8 ⟨g, 5, none⟩ = some (.int .i64 en) := (blk_cell BK8.out 5).trans rfl
      have z6 : World.cell? w8 ⟨g, 6, none⟩ = some (.int .i64 ea) := (blk_cell BK8.out 6).trans rfl
      have z7 : World.cell? w8 ⟨g, 7, none⟩ = some (.int .i64 eb) := (blk_cell BK8.out 7).trans rfl
      have z8 : World.cell? w8 ⟨g, 8, none⟩ = some (.string et) := (blk_cell BK8.out 8).trans rfl
      go_wp2
      go_ret
      exact ⟨by (rw [HJ.out]; rfl), HB8.out⟩
    omega
  have HJ := Lib.hid (show rqJ kd wd ts tn ta tm te = wd ++ (spC ++ ts) from by unfold rqJ; rw [if_neg d1, if_neg d11, if_neg d4, if_neg d7, if_neg d5])
  have hs := HSS.out
  have hn := HND.out
  have nss : (ss != 0) = true := bne_iff_ne.mpr (by omega)
  have nnd : (nd != 0) = false := bne_eq_false_iff_eq.mpr (by omega)
  have ekd_1 : (kd == 1) = false := beq_eq_false_iff_ne.mpr (by omega)
  have ekd_11 : (kd == 11) = false := beq_eq_false_iff_ne.mpr (by omega)
  have ekd_4 : (kd == 4) = false := beq_eq_false_iff_ne.mpr (by omega)
  have ekd_7 : (kd == 7) = false := beq_eq_false_iff_ne.mpr (by omega)
  have ekd_5 : (kd == 5) = false := beq_eq_false_iff_ne.mpr (by omega)
  have ekd_6 : (kd == 6) = false := beq_eq_false_iff_ne.mpr (by omega)
  have ekd_10 : (kd == 10) = false := beq_eq_false_iff_ne.mpr (by omega)
  clear hs hn h4
  clear d1 d11 d4 d7 d5
  go_wp2_with fail
  refine (spec_l00Digits.calls k ss ts w6 H1.out).mono ?_
  rintro e w7 ⟨rfl, hb7⟩
  have HB7 := Lib.hid (below_step HB6.out hb7)
  have BK7 := Lib.hid (blk_below BK6.out hb7)
  clear hb7
  clear z0 z1 z2 z3 z4 z5 z6 z7 z8
  have z0 : World.cell? w7 ⟨g, 0, none⟩ = some (.int .i64 kd) := (blk_cell BK7.out 0).trans rfl
  have z1 : World.cell? w7 ⟨g, 1, none⟩ = some (.int .i64 ss) := (blk_cell BK7.out 1).trans rfl
  have z2 : World.cell? w7 ⟨g, 2, none⟩ = some (.int .i64 nd) := (blk_cell BK7.out 2).trans rfl
  have z3 : World.cell? w7 ⟨g, 3, none⟩ = some (.int .i64 qa) := (blk_cell BK7.out 3).trans rfl
  have z4 : World.cell? w7 ⟨g, 4, none⟩ = some (.int .i64 ek) := (blk_cell BK7.out 4).trans rfl
  have z5 : World.cell? w7 ⟨g, 5, none⟩ = some (.int .i64 en) := (blk_cell BK7.out 5).trans rfl
  have z6 : World.cell? w7 ⟨g, 6, none⟩ = some (.int .i64 ea) := (blk_cell BK7.out 6).trans rfl
  have z7 : World.cell? w7 ⟨g, 7, none⟩ = some (.int .i64 eb) := (blk_cell BK7.out 7).trans rfl
  have z8 : World.cell? w7 ⟨g, 8, none⟩ = some (.string et) := (blk_cell BK7.out 8).trans rfl
  go_wp2
  go_ret
  exact ⟨by (rw [HJ.out]; rfl), HB7.out⟩
end Go.Proofs.YtfafehhallbjiaaDoor.H
namespace Go.Proofs.YtfafehhallbjiaaDoor.Q
open Go.RowKit Go.Proofs.YtfafehhallbjiaaDoorW.PrintWords Go.Proofs.YtfafehhallbjiaaDoorW.PrintLast Go.Proofs.YtfafehhallbjiaaDoorW.PrintMore
open Go.Proofs.YtfafehhallbjiaaDoor.H
attribute [local go_sem] max2_int min2_int max_two min_two max_three min_three max_four min_four
set_option linter.unusedVariables false
set_option linter.unusedSimpArgs false
def impl_RequestLine.f (k : Nat) (a0_0 : Int) (a0_1 : Int) (a0_2 : Int) (a0_3 : Int) (a0_4 : Int) (a0_5 : Int) (a0_6 : Int) (a0_7 : Int) (a0_8 : ByteArray) : Option (ByteArray × Int) := (impl_RequestOK.f k a0_0 a0_1 a0_2 a0_3 a0_4 a0_5 a0_6 a0_7 a0_8).bind fun t102 => (if t102 = true then ((impl_requestLine.f k a0_0 a0_1 a0_2 a0_3 a0_4 a0_5 a0_6 a0_7 a0_8).bind fun t103 => (some (t103, 0))) else (some ((⟨#[]⟩ : ByteArray), 1)))
theorem impl_RequestLine.mono : ∀ a0 a1 a2 a3 a4 a5 a6 a7 a8 k, LeO (impl_RequestLine.f k a0 a1 a2 a3 a4 a5 a6 a7 a8) (impl_RequestLine.f (k + 1) a0 a1 a2 a3 a4 a5 a6 a7 a8) := by
 intro a0 a1 a2 a3 a4 a5 a6 a7 a8 k
 unfold impl_RequestLine.f
 repeat' first
   | (with_reducible exact impl_RequestOK.mono _ _ _ _ _ _ _ _ _ _)
   | (with_reducible exact impl_requestLine.mono _ _ _ _ _ _ _ _ _ _)
   | (with_reducible exact LeO.refl _)
   | (with_reducible exact LeO.none _)
   | (with_reducible refine LeO.ite ?_ ?_)
   | (with_reducible refine LeO.bind ?_ (fun _ => ?_))
   | exact impl_RequestOK.mono _ _ _ _ _ _ _ _ _ _
   | exact impl_requestLine.mono _ _ _ _ _ _ _ _ _ _
   | exact LeO.none _
   | refine LeO.ite ?_ ?_
   | refine LeO.bind ?_ (fun _ => ?_)
set_option maxHeartbeats 8000000 in
set_option maxRecDepth 100000 in
theorem impl_RequestLine.calls (k : Nat) (a0_0 : Int) (a0_1 : Int) (a0_2 : Int) (a0_3 : Int) (a0_4 : Int) (a0_5 : Int) (a0_6 : Int) (a0_7 : Int) (a0_8 : ByteArray) (r1 : ByteArray) (r2 : Int) (w : World) (hT : TabW w) (h : impl_RequestLine.f k a0_0 a0_1 a0_2 a0_3 a0_4 a0_5 a0_6 a0_7 a0_8 = some (r1, r2)) :
  Calls Tryd.prog 7 #[.agg #[.int .i64 a0_0, .int .i64 a0_1, .int .i64 a0_2, .int .i64 a0_3, .int .i64 a0_4, .int .i64 a0_5, .int .i64 a0_6, .int .i64 a0_7, .string a0_8]] w fun e w' => e = .returned (.tuple #[.string r1, .int .i64 r2]) ∧ Below w.heap.size w w' := by
 have hu31 := Tryd.underlying31
 have HB := Aside0.mk (Below.refl w.heap.size w)
 have H : ((impl_RequestOK.f k a0_0 a0_1 a0_2 a0_3 a0_4 a0_5 a0_6 a0_7 a0_8).bind fun t102 => (if t102 = true then ((impl_requestLine.f k a0_0 a0_1 a0_2 a0_3 a0_4 a0_5 a0_6 a0_7 a0_8).bind fun t103 => (some (t103, 0))) else (some ((⟨#[]⟩ : ByteArray), 1)))) = some (r1, r2) := h
 clear h
 replace H := Option.bind_eq_some_iff.mp H
 obtain ⟨t102, A20, H⟩ := H
 replace H : (if t102 = true then ((impl_requestLine.f k a0_0 a0_1 a0_2 a0_3 a0_4 a0_5 a0_6 a0_7 a0_8).bind fun t103 => (some (t103, 0))) else (some ((⟨#[]⟩ : ByteArray), 1))) = some (r1, r2) := H
 have A2 := Aside0.mk A20
 clear A20
 by_cases c3 : t102 = true
 ·subst c3
  have H1 : ((impl_requestLine.f k a0_0 a0_1 a0_2 a0_3 a0_4 a0_5 a0_6 a0_7 a0_8).bind fun t103 => (some (t103, 0))) = some (r1, r2) := by rw [if_pos rfl] at H; exact H
  clear H
  have H := H1
  clear H1
  replace H := Option.bind_eq_some_iff.mp H
  obtain ⟨t103, A40, H⟩ := H
  replace H : (some (t103, 0)) = some (r1, r2) := H
  have A4 := Aside0.mk A40
  clear A40
  simp only [Option.some.injEq, Prod.mk.injEq] at H
  obtain ⟨rfl, rfl⟩ := H
  go_enter Tryd.func7, Tryd.ntmps7
  go_wp2_with (first | ((with_reducible refine gate_dst (N := 1) rfl ?_); refine box_event ?hg (N := 1) ?hd (cs := #[.int .i64 a0_0, .int .i64 a0_1, .int .i64 a0_2, .int .i64 a0_3, .int .i64 a0_4, .int .i64 a0_5, .int .i64 a0_6, .int .i64 a0_7, .string a0_8]) (t := 31) ?hr ?_; (case hd => rfl); (case hg => rfl); (case hr => first | (go_simp; done) | (go_simp; rfl)); intro gb101 hg w5 hbox hb; have n0_ := Aside0.mk (below_step (by repeat (first | (with_reducible first | exact HB.out | apply below_alloc | apply pw_below_drewN | apply below_drew1) | exact HB.out)) hb); have n1_ := Aside0.mk (hbox); have n2_ := Aside0.mk ((by rw [hg]; exact (below_size (by repeat (first | (with_reducible first | exact HB.out | apply below_alloc | apply pw_below_drewN | apply below_drew1) | exact HB.out))) : w.heap.size ≤ gb101)); have n3_ := Aside0.mk ((by rw [hg]; exact (below_size (by repeat (first | (with_reducible first | exact HB.out | apply below_alloc | apply pw_below_drewN | apply below_drew1) | exact HB.out))) : w.heap.size ≤ gb101)); clear HB; have HB := n0_; have BK101 := n1_; have GW101 := n2_; have GE101 := n3_; clear n0_ n1_ n2_ n3_; clear hb hbox hg; have hcz6_0 : w5.cell? ⟨gb101, 0, none⟩ = some (.int .i64 a0_0) := (blk_cell BK101.out 0).trans rfl; have hcz6_1 : w5.cell? ⟨gb101, 1, none⟩ = some (.int .i64 a0_1) := (blk_cell BK101.out 1).trans rfl; have hcz6_2 : w5.cell? ⟨gb101, 2, none⟩ = some (.int .i64 a0_2) := (blk_cell BK101.out 2).trans rfl; have hcz6_3 : w5.cell? ⟨gb101, 3, none⟩ = some (.int .i64 a0_3) := (blk_cell BK101.out 3).trans rfl; have hcz6_4 : w5.cell? ⟨gb101, 4, none⟩ = some (.int .i64 a0_4) := (blk_cell BK101.out 4).trans rfl; have hcz6_5 : w5.cell? ⟨gb101, 5, none⟩ = some (.int .i64 a0_5) := (blk_cell BK101.out 5).trans rfl; have hcz6_6 : w5.cell? ⟨gb101, 6, none⟩ = some (.int .i64 a0_6) := (blk_cell BK101.out 6).trans rfl; have hcz6_7 : w5.cell? ⟨gb101, 7, none⟩ = some (.int .i64 a0_7) := (blk_cell BK101.out 7).trans rfl; have hcz6_8 : w5.cell? ⟨gb101, 8, none⟩ = some (.string a0_8) := (blk_cell BK101.out 8).trans rfl; have hfz6_0 := blk_frozen BK101.out 0; have hfz6_1 := blk_frozen BK101.out 1; have hfz6_2 := blk_frozen BK101.out 2; have hfz6_3 := blk_frozen BK101.out 3; have hfz6_4 := blk_frozen BK101.out 4; have hfz6_5 := blk_frozen BK101.out 5; have hfz6_6 := blk_frozen BK101.out 6; have hfz6_7 := blk_frozen BK101.out 7; have hfz6_8 := blk_frozen BK101.out 8) | ((with_reducible refine gate_callee (f := 12) rfl ?_); refine goesL_ (some 5) rfl rfl Tryd.func12 (by kernel_rfl) rfl #[.agg #[.int .i64 a0_0, .int .i64 a0_1, .int .i64 a0_2, .int .i64 a0_3, .int .i64 a0_4, .int .i64 a0_5, .int .i64 a0_6, .int .i64 a0_7, .string a0_8]] rfl (by (try simp only [List.map_toArray, List.map_cons, List.map_nil]); first | done | rfl | (simp only [List.length_drop, List.length_take]; rfl)) ?_; (with_reducible refine (impl_RequestOK.calls k a0_0 a0_1 a0_2 a0_3 a0_4 a0_5 a0_6 a0_7 a0_8 true _ A2.out).mono ?_); rintro e w7 ⟨rfl, hb⟩; refine ⟨_, rfl, ?_⟩; have n0_ := Aside0.mk (blk_below (g := gb101) (o := .cells #[.int .i64 a0_0, .int .i64 a0_1, .int .i64 a0_2, .int .i64 a0_3, .int .i64 a0_4, .int .i64 a0_5, .int .i64 a0_6, .int .i64 a0_7, .string a0_8] 31 (0, 0)) (by (with_reducible repeat (first | refine blk_drewN ?_ _ | refine blk_drew ?_ | refine blk_alloc ?_ _)); exact BK101.out) hb); have n1_ := Aside0.mk (below_step (by repeat (first | (with_reducible first | exact HB.out | apply below_alloc | apply pw_below_drewN | apply below_drew1 | refine below_set ?_ GE101.out) | exact HB.out)) hb); clear BK101; clear HB; have BK101 := n0_; have HB := n1_; clear n0_ n1_; (try clear hb); (try clear hb2); (try clear hk); (try clear hi); have hcz8_0 : w7.cell? ⟨gb101, 0, none⟩ = some (.int .i64 a0_0) := (blk_cell BK101.out 0).trans rfl; have hcz8_1 : w7.cell? ⟨gb101, 1, none⟩ = some (.int .i64 a0_1) := (blk_cell BK101.out 1).trans rfl; have hcz8_2 : w7.cell? ⟨gb101, 2, none⟩ = some (.int .i64 a0_2) := (blk_cell BK101.out 2).trans rfl; have hcz8_3 : w7.cell? ⟨gb101, 3, none⟩ = some (.int .i64 a0_3) := (blk_cell BK101.out 3).trans rfl; have hcz8_4 : w7.cell? ⟨gb101, 4, none⟩ = some (.int .i64 a0_4) := (blk_cell BK101.out 4).trans rfl; have hcz8_5 : w7.cell? ⟨gb101, 5, none⟩ = some (.int .i64 a0_5) := (blk_cell BK101.out 5).trans rfl; have hcz8_6 : w7.cell? ⟨gb101, 6, none⟩ = some (.int .i64 a0_6) := (blk_cell BK101.out 6).trans rfl; have hcz8_7 : w7.cell? ⟨gb101, 7, none⟩ = some (.int .i64 a0_7) := (blk_cell BK101.out 7).trans rfl; have hcz8_8 : w7.cell? ⟨gb101, 8, none⟩ = some (.string a0_8) := (blk_cell BK101.out 8).trans rfl; have hfz8_0 := blk_frozen BK101.out 0; have hfz8_1 := blk_frozen BK101.out 1; have hfz8_2 := blk_frozen BK101.out 2; have hfz8_3 := blk_frozen BK101.out 3; have hfz8_4 := blk_frozen BK101.out 4; have hfz8_5 := blk_frozen BK101.out 5; have hfz8_6 := blk_frozen BK101.out 6; have hfz8_7 := blk_frozen BK101.out 7; have hfz8_8 := blk_frozen BK101.out 8) | ((with_reducible refine gate_callee (f := 13) rfl ?_); refine goesL_ (some 8) rfl rfl Tryd.func13 (by kernel_rfl) rfl #[.agg #[.int .i64 a0_0, .int .i64 a0_1, .int .i64 a0_2, .int .i64 a0_3, .int .i64 a0_4, .int .i64 a0_5, .int .i64 a0_6, .int .i64 a0_7, .string a0_8]] rfl (by (try simp only [List.map_toArray, List.map_cons, List.map_nil]); first | done | rfl | (simp only [List.length_drop, List.length_take]; rfl)) ?_; (with_reducible refine (impl_requestLine.calls k a0_0 a0_1 a0_2 a0_3 a0_4 a0_5 a0_6 a0_7 a0_8 t103 _ (TabW.below hT (by repeat (first | (with_reducible first | exact HB.out | apply below_alloc | apply pw_below_drewN | apply below_drew1) | exact HB.out))) A4.out).mono ?_); rintro e w9 ⟨rfl, hb⟩; refine ⟨_, rfl, ?_⟩; have n0_ := Aside0.mk (blk_below (g := gb101) (o := .cells #[.int .i64 a0_0, .int .i64 a0_1, .int .i64 a0_2, .int .i64 a0_3, .int .i64 a0_4, .int .i64 a0_5, .int .i64 a0_6, .int .i64 a0_7, .string a0_8] 31 (0, 0)) (by (with_reducible repeat (first | refine blk_drewN ?_ _ | refine blk_drew ?_ | refine blk_alloc ?_ _)); exact BK101.out) hb); have n1_ := Aside0.mk (below_step (by repeat (first | (with_reducible first | exact HB.out | apply below_alloc | apply pw_below_drewN | apply below_drew1 | refine below_set ?_ GE101.out) | exact HB.out)) hb); clear BK101; clear HB; have BK101 := n0_; have HB := n1_; clear n0_ n1_; (try clear hb); (try clear hb2); (try clear hk); (try clear hi)))
  go_ret2
  exact ⟨by first | rfl | (simp [errW_none, errW_some] <;> rfl) | (simp [*, errW_none, errW_some] <;> rfl), by repeat (first | (with_reducible first | exact HB.out | apply below_alloc | apply pw_below_drewN | apply below_drew1 | refine below_set ?_ GE101.out) | exact HB.out)⟩
 ·replace c3 := Bool.eq_false_iff.mpr c3
  subst c3
  have H1 : (some ((⟨#[]⟩ : ByteArray), 1)) = some (r1, r2) := by rw [if_neg (show ¬ (false = true) by decide)] at H; exact H
  clear H
  have H := H1
  clear H1
  simp only [Option.some.injEq, Prod.mk.injEq] at H
  obtain ⟨rfl, rfl⟩ := H
  go_enter Tryd.func7, Tryd.ntmps7
  go_wp2_with (first | ((with_reducible refine gate_dst (N := 1) rfl ?_); refine box_event ?hg (N := 1) ?hd (cs := #[.int .i64 a0_0, .int .i64 a0_1, .int .i64 a0_2, .int .i64 a0_3, .int .i64 a0_4, .int .i64 a0_5, .int .i64 a0_6, .int .i64 a0_7, .string a0_8]) (t := 31) ?hr ?_; (case hd => rfl); (case hg => rfl); (case hr => first | (go_simp; done) | (go_simp; rfl)); intro gb101 hg w10 hbox hb; have n0_ := Aside0.mk (below_step (by repeat (first | (with_reducible first | exact HB.out | apply below_alloc | apply pw_below_drewN | apply below_drew1) | exact HB.out)) hb); have n1_ := Aside0.mk (hbox); have n2_ := Aside0.mk ((by rw [hg]; exact (below_size (by repeat (first | (with_reducible first | exact HB.out | apply below_alloc | apply pw_below_drewN | apply below_drew1) | exact HB.out))) : w.heap.size ≤ gb101)); have n3_ := Aside0.mk ((by rw [hg]; exact (below_size (by repeat (first | (with_reducible first | exact HB.out | apply below_alloc | apply pw_below_drewN | apply below_drew1) | exact HB.out))) : w.heap.size ≤ gb101)); clear HB; have HB := n0_; have BK101 := n1_; have GW101 := n2_; have GE101 := n3_; clear n0_ n1_ n2_ n3_; clear hb hbox hg; have hcz11_0 : w10.cell? ⟨gb101, 0, none⟩ = some (.int .i64 a0_0) := (blk_cell BK101.out 0).trans rfl; have hcz11_1 : w10.cell? ⟨gb101, 1, none⟩ = some (.int .i64 a0_1) := (blk_cell BK101.out 1).trans rfl; have hcz11_2 : w10.cell? ⟨gb101, 2, none⟩ = some (.int .i64 a0_2) := (blk_cell BK101.out 2).trans rfl; have hcz11_3 : w10.cell? ⟨gb101, 3, none⟩ = some (.int .i64 a0_3) := (blk_cell BK101.out 3).trans rfl; have hcz11_4 : w10.cell? ⟨gb101, 4, none⟩ = some (.int .i64 a0_4) := (blk_cell BK101.out 4).trans rfl; have hcz11_5 : w10.cell? ⟨gb101, 5, none⟩ = some (.int .i64 a0_5) := (blk_cell BK101.out 5).trans rfl; have hcz11_6 : w10.cell? ⟨gb101, 6, none⟩ = some (.int .i64 a0_6) := (blk_cell BK101.out 6).trans rfl; have hcz11_7 : w10.cell? ⟨gb101, 7, none⟩ = some (.int .i64 a0_7) := (blk_cell BK101.out 7).trans rfl; have hcz11_8 : w10.cell? ⟨gb101, 8, none⟩ = some (.string a0_8) := (blk_cell BK101.out 8).trans rfl; have hfz11_0 := blk_frozen BK101.out 0; have hfz11_1 := blk_frozen BK101.out 1; have hfz11_2 := blk_frozen BK101.out 2; have hfz11_3 := blk_frozen BK101.out 3; have hfz11_4 := blk_frozen BK101.out 4; have hfz11_5 := blk_frozen BK101.out 5; have hfz11_6 := blk_frozen BK101.out 6; have hfz11_7 := blk_frozen BK101.out 7; have hfz11_8 := blk_frozen BK101.out 8) | ((with_reducible refine gate_callee (f := 12) rfl ?_); refine goesL_ (some 5) rfl rfl Tryd.func12 (by kernel_rfl) rfl #[.agg #[.int .i64 a0_0, .int .i64 a0_1, .int .i64 a0_2, .int .i64 a0_3, .int .i64 a0_4, .int .i64 a0_5, .int .i64 a0_6, .int .i64 a0_7, .string a0_8]] rfl (by (try simp only [List.map_toArray, List.map_cons, List.map_nil]); first | done | rfl | (simp only [List.length_drop, List.length_take]; rfl)) ?_; (with_reducible refine (impl_RequestOK.calls k a0_0 a0_1 a0_2 a0_3 a0_4 a0_5 a0_6 a0_7 a0_8 false _ A2.out).mono ?_); rintro e w12 ⟨rfl, hb⟩; refine ⟨_, rfl, ?_⟩; have n0_ := Aside0.mk (blk_below (g := gb101) (o := .cells #[.int .i64 a0_0, .int .i64 a0_1, .int .i64 a0_2, .int .i64 a0_3, .int .i64 a0_4, .int .i64 a0_5, .int .i64 a0_6, .int .i64 a0_7, .string a0_8] 31 (0, 0)) (by (with_reducible repeat (first | refine blk_drewN ?_ _ | refine blk_drew ?_ | refine blk_alloc ?_ _)); exact BK101.out) hb); have n1_ := Aside0.mk (below_step (by repeat (first | (with_reducible first | exact HB.out | apply below_alloc | apply pw_below_drewN | apply below_drew1 | refine below_set ?_ GE101.out) | exact HB.out)) hb); clear BK101; clear HB; have BK101 := n0_; have HB := n1_; clear n0_ n1_; (try clear hb); (try clear hb2); (try clear hk); (try clear hi)))
  go_ret2
  exact ⟨by first | rfl | (simp [errW_none, errW_some] <;> rfl) | (simp [*, errW_none, errW_some] <;> rfl), by repeat (first | (with_reducible first | exact HB.out | apply below_alloc | apply pw_below_drewN | apply below_drew1 | refine below_set ?_ GE101.out) | exact HB.out)⟩
def spec_RequestLine.f (k : Nat) (a0_0 : Int) (a0_1 : Int) (a0_2 : Int) (a0_3 : Int) (a0_4 : Int) (a0_5 : Int) (a0_6 : Int) (a0_7 : Int) (a0_8 : ByteArray) : Option (ByteArray × Int) := (spec_RequestOK.f k a0_0 a0_1 a0_2 a0_3 a0_4 a0_5 a0_6 a0_7 a0_8).bind fun t105 => (if t105 = true then ((spec_l12Request.f k a0_0 a0_1 a0_2 a0_3 a0_4 a0_5 a0_6 a0_7 a0_8).bind fun t106 => (some (t106, 0))) else (some ((⟨#[]⟩ : ByteArray), 1)))
theorem spec_RequestLine.mono : ∀ a0 a1 a2 a3 a4 a5 a6 a7 a8 k, LeO (spec_RequestLine.f k a0 a1 a2 a3 a4 a5 a6 a7 a8) (spec_RequestLine.f (k + 1) a0 a1 a2 a3 a4 a5 a6 a7 a8) := by
 intro a0 a1 a2 a3 a4 a5 a6 a7 a8 k
 unfold spec_RequestLine.f
 repeat' first
   | (with_reducible exact spec_RequestOK.mono _ _ _ _ _ _ _ _ _ _)
   | (with_reducible exact spec_l12Request.mono _ _ _ _ _ _ _ _ _ _)
   | (with_reducible exact LeO.refl _)
   | (with_reducible exact LeO.none _)
   | (with_reducible refine LeO.ite ?_ ?_)
   | (with_reducible refine LeO.bind ?_ (fun _ => ?_))
   | exact spec_RequestOK.mono _ _ _ _ _ _ _ _ _ _
   | exact spec_l12Request.mono _ _ _ _ _ _ _ _ _ _
   | exact LeO.none _
   | refine LeO.ite ?_ ?_
   | refine LeO.bind ?_ (fun _ => ?_)
set_option maxHeartbeats 8000000 in
set_option maxRecDepth 100000 in
theorem spec_RequestLine.calls (k : Nat) (a0_0 : Int) (a0_1 : Int) (a0_2 : Int) (a0_3 : Int) (a0_4 : Int) (a0_5 : Int) (a0_6 : Int) (a0_7 : Int) (a0_8 : ByteArray) (r1 : ByteArray) (r2 : Int) (w : World) (h : spec_RequestLine.f k a0_0 a0_1 a0_2 a0_3 a0_4 a0_5 a0_6 a0_7 a0_8 = some (r1, r2)) :
  Calls Tryd.prog 5 #[.agg #[.int .i64 a0_0, .int .i64 a0_1, .int .i64 a0_2, .int .i64 a0_3, .int .i64 a0_4, .int .i64 a0_5, .int .i64 a0_6, .int .i64 a0_7, .string a0_8]] w fun e w' => e = .returned (.tuple #[.string r1, .int .i64 r2]) ∧ Below w.heap.size w w' := by
 have hu31 := Tryd.underlying31
 have HB := Aside0.mk (Below.refl w.heap.size w)
 have H : ((spec_RequestOK.f k a0_0 a0_1 a0_2 a0_3 a0_4 a0_5 a0_6 a0_7 a0_8).bind fun t105 => (if t105 = true then ((spec_l12Request.f k a0_0 a0_1 a0_2 a0_3 a0_4 a0_5 a0_6 a0_7 a0_8).bind fun t106 => (some (t106, 0))) else (some ((⟨#[]⟩ : ByteArray), 1)))) = some (r1, r2) := h
 clear h
 replace H := Option.bind_eq_some_iff.mp H
 obtain ⟨t105, A20, H⟩ := H
 replace H : (if t105 = true then ((spec_l12Request.f k a0_0 a0_1 a0_2 a0_3 a0_4 a0_5 a0_6 a0_7 a0_8).bind fun t106 => (some (t106, 0))) else (some ((⟨#[]⟩ : ByteArray), 1))) = some (r1, r2) := H
 have A2 := Aside0.mk A20
 clear A20
 by_cases c3 : t105 = true
 ·subst c3
  have H1 : ((spec_l12Request.f k a0_0 a0_1 a0_2 a0_3 a0_4 a0_5 a0_6 a0_7 a0_8).bind fun t106 => (some (t106, 0))) = some (r1, r2) := by rw [if_pos rfl] at H; exact H
  clear H
  have H := H1
  clear H1
  replace H := Option.bind_eq_some_iff.mp H
  obtain ⟨t106, A40, H⟩ := H
  replace H : (some (t106, 0)) = some (r1, r2) := H
  have A4 := Aside0.mk A40
  clear A40
  simp only [Option.some.injEq, Prod.mk.injEq] at H
  obtain ⟨rfl, rfl⟩ := H
  go_enter Tryd.func5, Tryd.ntmps5
  go_wp2_with (first | ((with_reducible refine gate_dst (N := 1) rfl ?_); refine box_event ?hg (N := 1) ?hd (cs := #[.int .i64 a0_0, .int .i64 a0_1, .int .i64 a0_2, .int .i64 a0_3, .int .i64 a0_4, .int .i64 a0_5, .int .i64 a0_6, .int .i64 a0_7, .string a0_8]) (t := 31) ?hr ?_; (case hd => rfl); (case hg => rfl); (case hr => first | (go_simp; done) | (go_simp; rfl)); intro gb104 hg w5 hbox hb; have n0_ := Aside0.mk (below_step (by repeat (first | (with_reducible first | exact HB.out | apply below_alloc | apply pw_below_drewN | apply below_drew1) | exact HB.out)) hb); have n1_ := Aside0.mk (hbox); have n2_ := Aside0.mk ((by rw [hg]; exact (below_size (by repeat (first | (with_reducible first | exact HB.out | apply below_alloc | apply pw_below_drewN | apply below_drew1) | exact HB.out))) : w.heap.size ≤ gb104)); have n3_ := Aside0.mk ((by rw [hg]; exact (below_size (by repeat (first | (with_reducible first | exact HB.out | apply below_alloc | apply pw_below_drewN | apply below_drew1) | exact HB.out))) : w.heap.size ≤ gb104)); clear HB; have HB := n0_; have BK104 := n1_; have GW104 := n2_; have GE104 := n3_; clear n0_ n1_ n2_ n3_; clear hb hbox hg; have hcz6_0 : w5.cell? ⟨gb104, 0, none⟩ = some (.int .i64 a0_0) := (blk_cell BK104.out 0).trans rfl; have hcz6_1 : w5.cell? ⟨gb104, 1, none⟩ = some (.int .i64 a0_1) := (blk_cell BK104.out 1).trans rfl; have hcz6_2 : w5.cell? ⟨gb104, 2, none⟩ = some (.int .i64 a0_2) := (blk_cell BK104.out 2).trans rfl; have hcz6_3 : w5.cell? ⟨gb104, 3, none⟩ = some (.int .i64 a0_3) := (blk_cell BK104.out 3).trans rfl; have hcz6_4 : w5.cell? ⟨gb104, 4, none⟩ = some (.int .i64 a0_4) := (blk_cell BK104.out 4).trans rfl; have hcz6_5 : w5.cell? ⟨gb104, 5, none⟩ = some (.int .i64 a0_5) := (blk_cell BK104.out 5).trans rfl; have hcz6_6 : w5.cell? ⟨gb104, 6, none⟩ = some (.int .i64 a0_6) := (blk_cell BK104.out 6).trans rfl; have hcz6_7 : w5.cell? ⟨gb104, 7, none⟩ = some (.int .i64 a0_7) := (blk_cell BK104.out 7).trans rfl; have hcz6_8 : w5.cell? ⟨gb104, 8, none⟩ = some (.string a0_8) := (blk_cell BK104.out 8).trans rfl; have hfz6_0 := blk_frozen BK104.out 0; have hfz6_1 := blk_frozen BK104.out 1; have hfz6_2 := blk_frozen BK104.out 2; have hfz6_3 := blk_frozen BK104.out 3; have hfz6_4 := blk_frozen BK104.out 4; have hfz6_5 := blk_frozen BK104.out 5; have hfz6_6 := blk_frozen BK104.out 6; have hfz6_7 := blk_frozen BK104.out 7; have hfz6_8 := blk_frozen BK104.out 8) | ((with_reducible refine gate_callee (f := 9) rfl ?_); refine goesL_ (some 5) rfl rfl Tryd.func9 (by kernel_rfl) rfl #[.agg #[.int .i64 a0_0, .int .i64 a0_1, .int .i64 a0_2, .int .i64 a0_3, .int .i64 a0_4, .int .i64 a0_5, .int .i64 a0_6, .int .i64 a0_7, .string a0_8]] rfl (by (try simp only [List.map_toArray, List.map_cons, List.map_nil]); first | done | rfl | (simp only [List.length_drop, List.length_take]; rfl)) ?_; (with_reducible refine (spec_RequestOK.calls k a0_0 a0_1 a0_2 a0_3 a0_4 a0_5 a0_6 a0_7 a0_8 true _ A2.out).mono ?_); rintro e w7 ⟨rfl, hb⟩; refine ⟨_, rfl, ?_⟩; have n0_ := Aside0.mk (blk_below (g := gb104) (o := .cells #[.int .i64 a0_0, .int .i64 a0_1, .int .i64 a0_2, .int .i64 a0_3, .int .i64 a0_4, .int .i64 a0_5, .int .i64 a0_6, .int .i64 a0_7, .string a0_8] 31 (0, 0)) (by (with_reducible repeat (first | refine blk_drewN ?_ _ | refine blk_drew ?_ | refine blk_alloc ?_ _)); exact BK104.out) hb); have n1_ := Aside0.mk (below_step (by repeat (first | (with_reducible first | exact HB.out | apply below_alloc | apply pw_below_drewN | apply below_drew1 | refine below_set ?_ GE104.out) | exact HB.out)) hb); clear BK104; clear HB; have BK104 := n0_; have HB := n1_; clear n0_ n1_; (try clear hb); (try clear hb2); (try clear hk); (try clear hi); have hcz8_0 : w7.cell? ⟨gb104, 0, none⟩ = some (.int .i64 a0_0) := (blk_cell BK104.out 0).trans rfl; have hcz8_1 : w7.cell? ⟨gb104, 1, none⟩ = some (.int .i64 a0_1) := (blk_cell BK104.out 1).trans rfl; have hcz8_2 : w7.cell? ⟨gb104, 2, none⟩ = some (.int .i64 a0_2) := (blk_cell BK104.out 2).trans rfl; have hcz8_3 : w7.cell? ⟨gb104, 3, none⟩ = some (.int .i64 a0_3) := (blk_cell BK104.out 3).trans rfl; have hcz8_4 : w7.cell? ⟨gb104, 4, none⟩ = some (.int .i64 a0_4) := (blk_cell BK104.out 4).trans rfl; have hcz8_5 : w7.cell? ⟨gb104, 5, none⟩ = some (.int .i64 a0_5) := (blk_cell BK104.out 5).trans rfl; have hcz8_6 : w7.cell? ⟨gb104, 6, none⟩ = some (.int .i64 a0_6) := (blk_cell BK104.out 6).trans rfl; have hcz8_7 : w7.cell? ⟨gb104, 7, none⟩ = some (.int .i64 a0_7) := (blk_cell BK104.out 7).trans rfl; have hcz8_8 : w7.cell? ⟨gb104, 8, none⟩ = some (.string a0_8) := (blk_cell BK104.out 8).trans rfl; have hfz8_0 := blk_frozen BK104.out 0; have hfz8_1 := blk_frozen BK104.out 1; have hfz8_2 := blk_frozen BK104.out 2; have hfz8_3 := blk_frozen BK104.out 3; have hfz8_4 := blk_frozen BK104.out 4; have hfz8_5 := blk_frozen BK104.out 5; have hfz8_6 := blk_frozen BK104.out 6; have hfz8_7 := blk_frozen BK104.out 7; have hfz8_8 := blk_frozen BK104.out 8) | ((with_reducible refine gate_callee (f := 10) rfl ?_); refine goesL_ (some 8) rfl rfl Tryd.func10 (by kernel_rfl) rfl #[.agg #[.int .i64 a0_0, .int .i64 a0_1, .int .i64 a0_2, .int .i64 a0_3, .int .i64 a0_4, .int .i64 a0_5, .int .i64 a0_6, .int .i64 a0_7, .string a0_8]] rfl (by (try simp only [List.map_toArray, List.map_cons, List.map_nil]); first | done | rfl | (simp only [List.length_drop, List.length_take]; rfl)) ?_; (with_reducible refine (spec_l12Request.calls k a0_0 a0_1 a0_2 a0_3 a0_4 a0_5 a0_6 a0_7 a0_8 t106 _ A4.out).mono ?_); rintro e w9 ⟨rfl, hb⟩; refine ⟨_, rfl, ?_⟩; have n0_ := Aside0.mk (blk_below (g := gb104) (o := .cells #[.int .i64 a0_0, .int .i64 a0_1, .int .i64 a0_2, .int .i64 a0_3, .int .i64 a0_4, .int .i64 a0_5, .int .i64 a0_6, .int .i64 a0_7, .string a0_8] 31 (0, 0)) (by (with_reducible repeat (first | refine blk_drewN ?_ _ | refine blk_drew ?_ | refine blk_alloc ?_ _)); exact BK104.out) hb); have n1_ := Aside0.mk (below_step (by repeat (first | (with_reducible first | exact HB.out | apply below_alloc | apply pw_below_drewN | apply below_drew1 | refine below_set ?_ GE104.out) | exact HB.out)) hb); clear BK104; clear HB; have BK104 := n0_; have HB := n1_; clear n0_ n1_; (try clear hb); (try clear hb2); (try clear hk); (try clear hi)))
  go_ret2
  exact ⟨by first | rfl | (simp [errW_none, errW_some] <;> rfl) | (simp [*, errW_none, errW_some] <;> rfl), by repeat (first | (with_reducible first | exact HB.out | apply below_alloc | apply pw_below_drewN | apply below_drew1 | refine below_set ?_ GE104.out) | exact HB.out)⟩
 ·replace c3 := Bool.eq_false_iff.mpr c3
  subst c3
  have H1 : (some ((⟨#[]⟩ : ByteArray), 1)) = some (r1, r2) := by rw [if_neg (show ¬ (false = true) by decide)] at H; exact H
  clear H
  have H := H1
  clear H1
  simp only [Option.some.injEq, Prod.mk.injEq] at H
  obtain ⟨rfl, rfl⟩ := H
  go_enter Tryd.func5, Tryd.ntmps5
  go_wp2_with (first | ((with_reducible refine gate_dst (N := 1) rfl ?_); refine box_event ?hg (N := 1) ?hd (cs := #[.int .i64 a0_0, .int .i64 a0_1, .int .i64 a0_2, .int .i64 a0_3, .int .i64 a0_4, .int .i64 a0_5, .int .i64 a0_6, .int .i64 a0_7, .string a0_8]) (t := 31) ?hr ?_; (case hd => rfl); (case hg => rfl); (case hr => first | (go_simp; done) | (go_simp; rfl)); intro gb104 hg w10 hbox hb; have n0_ := Aside0.mk (below_step (by repeat (first | (with_reducible first | exact HB.out | apply below_alloc | apply pw_below_drewN | apply below_drew1) | exact HB.out)) hb); have n1_ := Aside0.mk (hbox); have n2_ := Aside0.mk ((by rw [hg]; exact (below_size (by repeat (first | (with_reducible first | exact HB.out | apply below_alloc | apply pw_below_drewN | apply below_drew1) | exact HB.out))) : w.heap.size ≤ gb104)); have n3_ := Aside0.mk ((by rw [hg]; exact (below_size (by repeat (first | (with_reducible first | exact HB.out | apply below_alloc | apply pw_below_drewN | apply below_drew1) | exact HB.out))) : w.heap.size ≤ gb104)); clear HB; have HB := n0_; have BK104 := n1_; have GW104 := n2_; have GE104 := n3_; clear n0_ n1_ n2_ n3_; clear hb hbox hg; have hcz11_0 : w10.cell? ⟨gb104, 0, none⟩ = some (.int .i64 a0_0) := (blk_cell BK104.out 0).trans rfl; have hcz11_1 : w10.cell? ⟨gb104, 1, none⟩ = some (.int .i64 a0_1) := (blk_cell BK104.out 1).trans rfl; have hcz11_2 : w10.cell? ⟨gb104, 2, none⟩ = some (.int .i64 a0_2) := (blk_cell BK104.out 2).trans rfl; have hcz11_3 : w10.cell? ⟨gb104, 3, none⟩ = some (.int .i64 a0_3) := (blk_cell BK104.out 3).trans rfl; have hcz11_4 : w10.cell? ⟨gb104, 4, none⟩ = some (.int .i64 a0_4) := (blk_cell BK104.out 4).trans rfl; have hcz11_5 : w10.cell? ⟨gb104, 5, none⟩ = some (.int .i64 a0_5) := (blk_cell BK104.out 5).trans rfl; have hcz11_6 : w10.cell? ⟨gb104, 6, none⟩ = some (.int .i64 a0_6) := (blk_cell BK104.out 6).trans rfl; have hcz11_7 : w10.cell? ⟨gb104, 7, none⟩ = some (.int .i64 a0_7) := (blk_cell BK104.out 7).trans rfl; have hcz11_8 : w10.cell? ⟨gb104, 8, none⟩ = some (.string a0_8) := (blk_cell BK104.out 8).trans rfl; have hfz11_0 := blk_frozen BK104.out 0; have hfz11_1 := blk_frozen BK104.out 1; have hfz11_2 := blk_frozen BK104.out 2; have hfz11_3 := blk_frozen BK104.out 3; have hfz11_4 := blk_frozen BK104.out 4; have hfz11_5 := blk_frozen BK104.out 5; have hfz11_6 := blk_frozen BK104.out 6; have hfz11_7 := blk_frozen BK104.out 7; have hfz11_8 := blk_frozen BK104.out 8) | ((with_reducible refine gate_callee (f := 9) rfl ?_); refine goesL_ (some 5) rfl rfl Tryd.func9 (by kernel_rfl) rfl #[.agg #[.int .i64 a0_0, .int .i64 a0_1, .int .i64 a0_2, .int .i64 a0_3, .int .i64 a0_4, .int .i64 a0_5, .int .i64 a0_6, .int .i64 a0_7, .string a0_8]] rfl (by (try simp only [List.map_toArray, List.map_cons, List.map_nil]); first | done | rfl | (simp only [List.length_drop, List.length_take]; rfl)) ?_; (with_reducible refine (spec_RequestOK.calls k a0_0 a0_1 a0_2 a0_3 a0_4 a0_5 a0_6 a0_7 a0_8 false _ A2.out).mono ?_); rintro e w12 ⟨rfl, hb⟩; refine ⟨_, rfl, ?_⟩; have n0_ := Aside0.mk (blk_below (g := gb104) (o := .cells #[.int .i64 a0_0, .int .i64 a0_1, .int .i64 a0_2, .int .i64 a0_3, .int .i64 a0_4, .int .i64 a0_5, .int .i64 a0_6, .int .i64 a0_7, .string a0_8] 31 (0, 0)) (by (with_reducible repeat (first | refine blk_drewN ?_ _ | refine blk_drew ?_ | refine blk_alloc ?_ _)); exact BK104.out) hb); have n1_ := Aside0.mk (below_step (by repeat (first | (with_reducible first | exact HB.out | apply below_alloc | apply pw_below_drewN | apply below_drew1 | refine below_set ?_ GE104.out) | exact HB.out)) hb); clear BK104; clear HB; have BK104 := n0_; have HB := n1_; clear n0_ n1_; (try clear hb); (try clear hb2); (try clear hk); (try clear hi)))
  go_ret2
  exact ⟨by first | rfl | (simp [errW_none, errW_some] <;> rfl) | (simp [*, errW_none, errW_some] <;> rfl), by repeat (first | (with_reducible first | exact HB.out | apply below_alloc | apply pw_below_drewN | apply below_drew1 | refine below_set ?_ GE104.out) | exact HB.out)⟩
end Go.Proofs.YtfafehhallbjiaaDoor.Q
namespace Go.Proofs.YtfafehhallbjiaaDoor.Q
open Go.RowKit Go.Proofs.YtfafehhallbjiaaDoorW.PrintWords Go.Proofs.YtfafehhallbjiaaDoorW.PrintLast Go.Proofs.YtfafehhallbjiaaDoorW.PrintMore
open Go.Proofs.YtfafehhallbjiaaDoor.H
attribute [local go_sem] max2_int min2_int max_two min_two max_three min_three max_four min_four
set_option linter.unusedVariables false
set_option linter.unusedSimpArgs false
def laws_FnExactRequestLine.f (k : Nat) (a0_0 : Int) (a0_1 : Int) (a0_2 : Int) (a0_3 : Int) (a0_4 : Int) (a0_5 : Int) (a0_6 : Int) (a0_7 : Int) (a0_8 : ByteArray) : Option (Bool) := (laws_szRequest.f a0_0 a0_1 a0_2 a0_3 a0_4 a0_5 a0_6 a0_7 a0_8 1048576).bind fun t102 => (if t102 < 0 then (some true) else ((laws_toRequest.f a0_0 a0_1 a0_2 a0_3 a0_4 a0_5 a0_6 a0_7 a0_8).bind fun bt103 => ((spec_RequestLine.f k bt103.1 bt103.2.1 bt103.2.2.1 bt103.2.2.2.1 bt103.2.2.2.2.1 bt103.2.2.2.2.2.1 bt103.2.2.2.2.2.2.1 bt103.2.2.2.2.2.2.2.1 bt103.2.2.2.2.2.2.2.2).bind fun bt112 => ((laws_toRequest.f a0_0 a0_1 a0_2 a0_3 a0_4 a0_5 a0_6 a0_7 a0_8).bind fun bt114 => ((impl_RequestLine.f k bt114.1 bt114.2.1 bt114.2.2.1 bt114.2.2.2.1 bt114.2.2.2.2.1 bt114.2.2.2.2.2.1 bt114.2.2.2.2.2.2.1 bt114.2.2.2.2.2.2.2.1 bt114.2.2.2.2.2.2.2.2).bind fun bt123 => (if bt123.1.toList = bt112.1.toList then (if bt123.2 = bt112.2 then (some true) else (none)) else (none)))))))
theorem laws_FnExactRequestLine.mono : ∀ a0 a1 a2 a3 a4 a5 a6 a7 a8 k, LeO (laws_FnExactRequestLine.f k a0 a1 a2 a3 a4 a5 a6 a7 a8) (laws_FnExactRequestLine.f (k + 1) a0 a1 a2 a3 a4 a5 a6 a7 a8) := by
 intro a0 a1 a2 a3 a4 a5 a6 a7 a8 k
 unfold laws_FnExactRequestLine.f
 repeat' first
   | (with_reducible exact impl_RequestLine.mono _ _ _ _ _ _ _ _ _ _)
   | (with_reducible exact spec_RequestLine.mono _ _ _ _ _ _ _ _ _ _)
   | (with_reducible exact LeO.refl _)
   | (with_reducible exact LeO.none _)
   | (with_reducible refine LeO.ite ?_ ?_)
   | (with_reducible refine LeO.bind ?_ (fun _ => ?_))
   | exact impl_RequestLine.mono _ _ _ _ _ _ _ _ _ _
   | exact spec_RequestLine.mono _ _ _ _ _ _ _ _ _ _
   | exact LeO.none _
   | refine LeO.ite ?_ ?_
   | refine LeO.bind ?_ (fun _ => ?_)
set_option maxHeartbeats 8000000 in
set_option maxRecDepth 100000 in
theorem laws_FnExactRequestLine.calls (k : Nat) (a0_0 : Int) (a0_1 : Int) (a0_2 : Int) (a0_3 : Int) (a0_4 : Int) (a0_5 : Int) (a0_6 : Int) (a0_7 : Int) (a0_8 : ByteArray) (r : Bool) (w : World) (hT : TabW w) (h : laws_FnExactRequestLine.f k a0_0 a0_1 a0_2 a0_3 a0_4 a0_5 a0_6 a0_7 a0_8 = some r) :
  Calls Tryd.prog 3 #[.agg #[.int .i64 a0_0, .int .i64 a0_1, .int .i64 a0_2, .int .i64 a0_3, .int .i64 a0_4, .int .i64 a0_5, .int .i64 a0_6, .int .i64 a0_7, .string a0_8]] w fun e w' => e = .returned (.bool r) ∧ Below w.heap.size w w' := by
 have hu25 := Tryd.underlying25
 have HB := Aside0.mk (Below.refl w.heap.size w)
 have H : ((laws_szRequest.f a0_0 a0_1 a0_2 a0_3 a0_4 a0_5 a0_6 a0_7 a0_8 1048576).bind fun t102 => (if t102 < 0 then (some true) else ((laws_toRequest.f a0_0 a0_1 a0_2 a0_3 a0_4 a0_5 a0_6 a0_7 a0_8).bind fun bt103 => ((spec_RequestLine.f k bt103.1 bt103.2.1 bt103.2.2.1 bt103.2.2.2.1 bt103.2.2.2.2.1 bt103.2.2.2.2.2.1 bt103.2.2.2.2.2.2.1 bt103.2.2.2.2.2.2.2.1 bt103.2.2.2.2.2.2.2.2).bind fun bt112 => ((laws_toRequest.f a0_0 a0_1 a0_2 a0_3 a0_4 a0_5 a0_6 a0_7 a0_8).bind fun bt114 => ((impl_RequestLine.f k bt114.1 bt114.2.1 bt114.2.2.1 bt114.2.2.2.1 bt114.2.2.2.2.1 bt114.2.2.2.2.2.1 bt114.2.2.2.2.2.2.1 bt114.2.2.2.2.2.2.2.1 bt114.2.2.2.2.2.2.2.2).bind fun bt123 => (if bt123.1.toList = bt112.1.toList then (if bt123.2 = bt112.2 then (some true) else (none)) else (none)))))))) = some r := h
 clear h
 replace H := Option.bind_eq_some_iff.mp H
 obtain ⟨t102, A20, H⟩ := H
 replace H : (if t102 < 0 then (some true) else ((laws_toRequest.f a0_0 a0_1 a0_2 a0_3 a0_4 a0_5 a0_6 a0_7 a0_8).bind fun bt103 => ((spec_RequestLine.f k bt103.1 bt103.2.1 bt103.2.2.1 bt103.2.2.2.1 bt103.2.2.2.2.1 bt103.2.2.2.2.2.1 bt103.2.2.2.2.2.2.1 bt103.2.2.2.2.2.2.2.1 bt103.2.2.2.2.2.2.2.2).bind fun bt112 => ((laws_toRequest.f a0_0 a0_1 a0_2 a0_3 a0_4 a0_5 a0_6 a0_7 a0_8).bind fun bt114 => ((impl_RequestLine.f k bt114.1 bt114.2.1 bt114.2.2.1 bt114.2.2.2.1 bt114.2.2.2.2.1 bt114.2.2.2.2.2.1 bt114.2.2.2.2.2.2.1 bt114.2.2.2.2.2.2.2.1 bt114.2.2.2.2.2.2.2.2).bind fun bt123 => (if bt123.1.toList = bt112.1.toList then (if bt123.2 = bt112.2 then (some true) else (none)) else (none))))))) = some r := H
 have A2 := Aside0.mk A20
 clear A20
 by_cases c3 : t102 < 0
 ·rw [if_pos c3] at H
  have c3b0 : decide (t102 < 0) = true := decide_eq_true c3
  clear c3
  obtain rfl := Option.some.inj H
  go_enter Tryd.func3, Tryd.ntmps3
  go_wp2_with (first | ((with_reducible refine gate_dst (N := 1) rfl ?_); refine box_event ?hg (N := 1) ?hd (cs := #[.int .i64 a0_0, .int .i64 a0_1, .int .i64 a0_2, .int .i64 a0_3, .int .i64 a0_4, .int .i64 a0_5, .int .i64 a0_6, .int .i64 a0_7, .string a0_8]) (t := 25) ?hr ?_; (case hd => rfl); (case hg => rfl); (case hr => first | (go_simp; done) | (go_simp; rfl)); intro gb101 hg w4 hbox hb; have n0_ := Aside0.mk (below_step (by repeat (first | (with_reducible first | exact HB.out | apply below_alloc | apply pw_below_drewN | apply below_drew1) | exact HB.out)) hb); have n1_ := Aside0.mk (hbox); have n2_ := Aside0.mk ((by rw [hg]; exact (below_size (by repeat (first | (with_reducible first | exact HB.out | apply below_alloc | apply pw_below_drewN | apply below_drew1) | exact HB.out))) : w.heap.size ≤ gb101)); have n3_ := Aside0.mk ((by rw [hg]; exact (below_size (by repeat (first | (with_reducible first | exact HB.out | apply below_alloc | apply pw_below_drewN | apply below_drew1) | exact HB.out))) : w.heap.size ≤ gb101)); clear HB; have HB := n0_; have BK101 := n1_; have GW101 := n2_; have GE101 := n3_; clear n0_ n1_ n2_ n3_; clear hb hbox hg; have hcz5_0 : w4.cell? ⟨gb101, 0, none⟩ = some (.int .i64 a0_0) := (blk_cell BK101.out 0).trans rfl; have hcz5_1 : w4.cell? ⟨gb101, 1, none⟩ = some (.int .i64 a0_1) := (blk_cell BK101.out 1).trans rfl; have hcz5_2 : w4.cell? ⟨gb101, 2, none⟩ = some (.int .i64 a0_2) := (blk_cell BK101.out 2).trans rfl; have hcz5_3 : w4.cell? ⟨gb101, 3, none⟩ = some (.int .i64 a0_3) := (blk_cell BK101.out 3).trans rfl; have hcz5_4 : w4.cell? ⟨gb101, 4, none⟩ = some (.int .i64 a0_4) := (blk_cell BK101.out 4).trans rfl; have hcz5_5 : w4.cell? ⟨gb101, 5, none⟩ = some (.int .i64 a0_5) := (blk_cell BK101.out 5).trans rfl; have hcz5_6 : w4.cell? ⟨gb101, 6, none⟩ = some (.int .i64 a0_6) := (blk_cell BK101.out 6).trans rfl; have hcz5_7 : w4.cell? ⟨gb101, 7, none⟩ = some (.int .i64 a0_7) := (blk_cell BK101.out 7).trans rfl; have hcz5_8 : w4.cell? ⟨gb101, 8, none⟩ = some (.string a0_8) := (blk_cell BK101.out 8).trans rfl; have hfz5_0 := blk_frozen BK101.out 0; have hfz5_1 := blk_frozen BK101.out 1; have hfz5_2 := blk_frozen BK101.out 2; have hfz5_3 := blk_frozen BK101.out 3; have hfz5_4 := blk_frozen BK101.out 4; have hfz5_5 := blk_frozen BK101.out 5; have hfz5_6 := blk_frozen BK101.out 6; have hfz5_7 := blk_frozen BK101.out 7; have hfz5_8 := blk_frozen BK101.out 8) | ((with_reducible refine gate_callee (f := 4) rfl ?_); refine goesL_ (some 10) rfl rfl Tryd.func4 (by kernel_rfl) rfl #[.agg #[.int .i64 a0_0, .int .i64 a0_1, .int .i64 a0_2, .int .i64 a0_3, .int .i64 a0_4, .int .i64 a0_5, .int .i64 a0_6, .int .i64 a0_7, .string a0_8], .int .i64 1048576] rfl (by (try simp only [List.map_toArray, List.map_cons, List.map_nil]); first | done | rfl | (simp only [List.length_drop, List.length_take]; rfl)) ?_; (with_reducible refine (laws_szRequest.calls a0_0 a0_1 a0_2 a0_3 a0_4 a0_5 a0_6 a0_7 a0_8 1048576 t102 _ A2.out).mono ?_); rintro e w6 ⟨rfl, hb⟩; refine ⟨_, rfl, ?_⟩; have n0_ := Aside0.mk (blk_below (g := gb101) (o := .cells #[.int .i64 a0_0, .int .i64 a0_1, .int .i64 a0_2, .int .i64 a0_3, .int .i64 a0_4, .int .i64 a0_5, .int .i64 a0_6, .int .i64 a0_7, .string a0_8] 25 (0, 0)) (by (with_reducible repeat (first | refine blk_drewN ?_ _ | refine blk_drew ?_ | refine blk_alloc ?_ _)); exact BK101.out) hb); have n1_ := Aside0.mk (below_step (by repeat (first | (with_reducible first | exact HB.out | apply below_alloc | apply pw_below_drewN | apply below_drew1 | refine below_set ?_ GE101.out) | exact HB.out)) hb); clear BK101; clear HB; have BK101 := n0_; have HB := n1_; clear n0_ n1_; (try clear hb); (try clear hb2); (try clear hk); (try clear hi)))
  go_ret
  exact ⟨by first | rfl | (simp [errW_none, errW_some] <;> rfl) | (simp [*, errW_none, errW_some] <;> rfl), by repeat (first | (with_reducible first | exact HB.out | apply below_alloc | apply pw_below_drewN | apply below_drew1 | refine below_set ?_ GE101.out) | exact HB.out)⟩
 ·rw [if_neg c3] at H
  have c3b0 : decide (t102 < 0) = false := decide_eq_false c3
  clear c3
  replace H := Option.bind_eq_some_iff.mp H
  obtain ⟨⟨t103, t104, t105, t106, t107, t108, t109, t110, t111⟩, A70, H⟩ := H
  replace H : ((spec_RequestLine.f k t103 t104 t105 t106 t107 t108 t109 t110 t111).bind fun bt112 => ((laws_toRequest.f a0_0 a0_1 a0_2 a0_3 a0_4 a0_5 a0_6 a0_7 a0_8).bind fun bt114 => ((impl_RequestLine.f k bt114.1 bt114.2.1 bt114.2.2.1 bt114.2.2.2.1 bt114.2.2.2.2.1 bt114.2.2.2.2.2.1 bt114.2.2.2.2.2.2.1 bt114.2.2.2.2.2.2.2.1 bt114.2.2.2.2.2.2.2.2).bind fun bt123 => (if bt123.1.toList = bt112.1.toList then (if bt123.2 = bt112.2 then (some true) else (none)) else (none))))) = some r := H
  have A7 := Aside0.mk A70
  clear A70
  replace H := Option.bind_eq_some_iff.mp H
  obtain ⟨⟨t112, t113⟩, A80, H⟩ := H
  replace H : ((laws_toRequest.f a0_0 a0_1 a0_2 a0_3 a0_4 a0_5 a0_6 a0_7 a0_8).bind fun bt114 => ((impl_RequestLine.f k bt114.1 bt114.2.1 bt114.2.2.1 bt114.2.2.2.1 bt114.2.2.2.2.1 bt114.2.2.2.2.2.1 bt114.2.2.2.2.2.2.1 bt114.2.2.2.2.2.2.2.1 bt114.2.2.2.2.2.2.2.2).bind fun bt123 => (if bt123.1.toList = t112.toList then (if bt123.2 = t113 then (some true) else (none)) else (none)))) = some r := H
  have A8 := Aside0.mk A80
  clear A80
  replace H := Option.bind_eq_some_iff.mp H
  obtain ⟨⟨t114, t115, t116, t117, t118, t119, t120, t121, t122⟩, A90, H⟩ := H
  replace H : ((impl_RequestLine.f k t114 t115 t116 t117 t118 t119 t120 t121 t122).bind fun bt123 => (if bt123.1.toList = t112.toList then (if bt123.2 = t113 then (some true) else (none)) else (none))) = some r := H
  have A9 := Aside0.mk A90
  clear A90
  replace H := Option.bind_eq_some_iff.mp H
  obtain ⟨⟨t123, t124⟩, A100, H⟩ := H
  replace H : (if t123.toList = t112.toList then (if t124 = t113 then (some true) else (none)) else (none)) = some r := H
  have A10 := Aside0.mk A100
  clear A100
  by_cases c11 : t123.toList = t112.toList
  ·rw [if_pos c11] at H
   have c11b0 : (t123.toList == t112.toList) = true := beq_iff_eq.mpr c11
   have c11b1 : (t123.toList != t112.toList) = false := bne_eq_false_iff_eq.mpr c11
   clear c11
   by_cases c12 : t124 = t113
   ·rw [if_pos c12] at H
    have c12b0 : (t124 == t113) = true := beq_iff_eq.mpr c12
    have c12b1 : (t124 != t113) = false := bne_eq_false_iff_eq.mpr c12
    clear c12
    obtain rfl := Option.some.inj H
    go_enter Tryd.func3, Tryd.ntmps3
    go_wp2_with (first | ((with_reducible refine gate_dst (N := 1) rfl ?_); refine box_event ?hg (N := 1) ?hd (cs := #[.int .i64 a0_0, .int .i64 a0_1, .int .i64 a0_2, .int .i64 a0_3, .int .i64 a0_4, .int .i64 a0_5, .int .i64 a0_6, .int .i64 a0_7, .string a0_8]) (t := 25) ?hr ?_; (case hd => rfl); (case hg => rfl); (case hr => first | (go_simp; done) | (go_simp; rfl)); intro gb101 hg w13 hbox hb; have n0_ := Aside0.mk (below_step (by repeat (first | (with_reducible first | exact HB.out | apply below_alloc | apply pw_below_drewN | apply below_drew1) | exact HB.out)) hb); have n1_ := Aside0.mk (hbox); have n2_ := Aside0.mk ((by rw [hg]; exact (below_size (by repeat (first | (with_reducible first | exact HB.out | apply below_alloc | apply pw_below_drewN | apply below_drew1) | exact HB.out))) : w.heap.size ≤ gb101)); have n3_ := Aside0.mk ((by rw [hg]; exact (below_size (by repeat (first | (with_reducible first | exact HB.out | apply below_alloc | apply pw_below_drewN | apply below_drew1) | exact HB.out))) : w.heap.size ≤ gb101)); clear HB; have HB := n0_; have BK101 := n1_; have GW101 := n2_; have GE101 := n3_; clear n0_ n1_ n2_ n3_; clear hb hbox hg; have hcz14_0 : w13.cell? ⟨gb101, 0, none⟩ = some (.int .i64 a0_0) := (blk_cell BK101.out 0).trans rfl; have hcz14_1 : w13.cell? ⟨gb101, 1, none⟩ = some (.int .i64 a0_1) := (blk_cell BK101.out 1).trans rfl; have hcz14_2 : w13.cell? ⟨gb101, 2, none⟩ = some (.int .i64 a0_2) := (blk_cell BK101.out 2).trans rfl; have hcz14_3 : w13.cell? ⟨gb101, 3, none⟩ = some (.int .i64 a0_3) := (blk_cell BK101.out 3).trans rfl; have hcz14_4 : w13.cell? ⟨gb101, 4, none⟩ = some (.int .i64 a0_4) := (blk_cell BK101.out 4).trans rfl; have hcz14_5 : w13.cell? ⟨gb101, 5, none⟩ = some (.int .i64 a0_5) := (blk_cell BK101.out 5).trans rfl; have hcz14_6 : w13.cell? ⟨gb101, 6, none⟩ = some (.int .i64 a0_6) := (blk_cell BK101.out 6).trans rfl; have hcz14_7 : w13.cell? ⟨gb101, 7, none⟩ = some (.int .i64 a0_7) := (blk_cell BK101.out 7).trans rfl; have hcz14_8 : w13.cell? ⟨gb101, 8, none⟩ = some (.string a0_8) := (blk_cell BK101.out 8).trans rfl; have hfz14_0 := blk_frozen BK101.out 0; have hfz14_1 := blk_frozen BK101.out 1; have hfz14_2 := blk_frozen BK101.out 2; have hfz14_3 := blk_frozen BK101.out 3; have hfz14_4 := blk_frozen BK101.out 4; have hfz14_5 := blk_frozen BK101.out 5; have hfz14_6 := blk_frozen BK101.out 6; have hfz14_7 := blk_frozen BK101.out 7; have hfz14_8 := blk_frozen BK101.out 8) | ((with_reducible refine gate_callee (f := 4) rfl ?_); refine goesL_ (some 10) rfl rfl Tryd.func4 (by kernel_rfl) rfl #[.agg #[.int .i64 a0_0, .int .i64 a0_1, .int .i64 a0_2, .int .i64 a0_3, .int .i64 a0_4, .int .i64 a0_5, .int .i64 a0_6, .int .i64 a0_7, .string a0_8], .int .i64 1048576] rfl (by (try simp only [List.map_toArray, List.map_cons, List.map_nil]); first | done | rfl | (simp only [List.length_drop, List.length_take]; rfl)) ?_; (with_reducible refine (laws_szRequest.calls a0_0 a0_1 a0_2 a0_3 a0_4 a0_5 a0_6 a0_7 a0_8 1048576 t102 _ A2.out).mono ?_); rintro e w15 ⟨rfl, hb⟩; refine ⟨_, rfl, ?_⟩; have n0_ := Aside0.mk (blk_below (g := gb101) (o := .cells #[.int .i64 a0_0, .int .i64 a0_1, .int .i64 a0_2, .int .i64 a0_3, .int .i64 a0_4, .int .i64 a0_5, .int .i64 a0_6, .int .i64 a0_7, .string a0_8] 25 (0, 0)) (by (with_reducible repeat (first | refine blk_drewN ?_ _ | refine blk_drew ?_ | refine blk_alloc ?_ _)); exact BK101.out) hb); have n1_ := Aside0.mk (below_step (by repeat (first | (with_reducible first | exact HB.out | apply below_alloc | apply pw_below_drewN | apply below_drew1 | refine below_set ?_ GE101.out) | exact HB.out)) hb); clear BK101; clear HB; have BK101 := n0_; have HB := n1_; clear n0_ n1_; (try clear hb); (try clear hb2); (try clear hk); (try clear hi); have hcz16_0 : w15.cell? ⟨gb101, 0, none⟩ = some (.int .i64 a0_0) := (blk_cell BK101.out 0).trans rfl; have hcz16_1 : w15.cell? ⟨gb101, 1, none⟩ = some (.int .i64 a0_1) := (blk_cell BK101.out 1).trans rfl; have hcz16_2 : w15.cell? ⟨gb101, 2, none⟩ = some (.int .i64 a0_2) := (blk_cell BK101.out 2).trans rfl; have hcz16_3 : w15.cell? ⟨gb101, 3, none⟩ = some (.int .i64 a0_3) := (blk_cell BK101.out 3).trans rfl; have hcz16_4 : w15.cell? ⟨gb101, 4, none⟩ = some (.int .i64 a0_4) := (blk_cell BK101.out 4).trans rfl; have hcz16_5 : w15.cell? ⟨gb101, 5, none⟩ = some (.int .i64 a0_5) := (blk_cell BK101.out 5).trans rfl; have hcz16_6 : w15.cell? ⟨gb101, 6, none⟩ = some (.int .i64 a0_6) := (blk_cell BK101.out 6).trans rfl; have hcz16_7 : w15.cell? ⟨gb101, 7, none⟩ = some (.int .i64 a0_7) := (blk_cell BK101.out 7).trans rfl; have hcz16_8 : w15.cell? ⟨gb101, 8, none⟩ = some (.string a0_8) := (blk_cell BK101.out 8).trans rfl; have hfz16_0 := blk_frozen BK101.out 0; have hfz16_1 := blk_frozen BK101.out 1; have hfz16_2 := blk_frozen BK101.out 2; have hfz16_3 := blk_frozen BK101.out 3; have hfz16_4 := blk_frozen BK101.out 4; have hfz16_5 := blk_frozen BK101.out 5; have hfz16_6 := blk_frozen BK101.out 6; have hfz16_7 := blk_frozen BK101.out 7; have hfz16_8 := blk_frozen BK101.out 8) | ((with_reducible refine gate_callee (f := 6) rfl ?_); refine goesL_ (some 15) rfl rfl Tryd.func6 (by kernel_rfl) rfl #[.agg #[.int .i64 a0_0, .int .i64 a0_1, .int .i64 a0_2, .int .i64 a0_3, .int .i64 a0_4, .int .i64 a0_5, .int .i64 a0_6, .int .i64 a0_7, .string a0_8]] rfl (by (try simp only [List.map_toArray, List.map_cons, List.map_nil]); first | done | rfl | (simp only [List.length_drop, List.length_take]; rfl)) ?_; (with_reducible refine (laws_toRequest.calls a0_0 a0_1 a0_2 a0_3 a0_4 a0_5 a0_6 a0_7 a0_8 t103 t104 t105 t106 t107 t108 t109 t110 t111 _ A7.out).mono ?_); rintro e w17 ⟨rfl, hb⟩; refine ⟨_, rfl, ?_⟩; have n0_ := Aside0.mk (blk_below (g := gb101) (o := .cells #[.int .i64 a0_0, .int .i64 a0_1, .int .i64 a0_2, .int .i64 a0_3, .int .i64 a0_4, .int .i64 a0_5, .int .i64 a0_6, .int .i64 a0_7, .string a0_8] 25 (0, 0)) (by (with_reducible repeat (first | refine blk_drewN ?_ _ | refine blk_drew ?_ | refine blk_alloc ?_ _)); exact BK101.out) hb); have n1_ := Aside0.mk (below_step (by repeat (first | (with_reducible first | exact HB.out | apply below_alloc | apply pw_below_drewN | apply below_drew1 | refine below_set ?_ GE101.out) | exact HB.out)) hb); clear BK101; clear HB; have BK101 := n0_; have HB := n1_; clear n0_ n1_; (try clear hb); (try clear hb2); (try clear hk); (try clear hi)) | ((with_reducible refine gate_callee (f := 5) rfl ?_); refine goesL_ (some 16) rfl rfl Tryd.func5 (by kernel_rfl) rfl #[.agg #[.int .i64 t103, .int .i64 t104, .int .i64 t105, .int .i64 t106, .int .i64 t107, .int .i64 t108, .int .i64 t109, .int .i64 t110, .string t111]] rfl (by (try simp only [List.map_toArray, List.map_cons, List.map_nil]); first | done | rfl | (simp only [List.length_drop, List.length_take]; rfl)) ?_; (with_reducible refine (spec_RequestLine.calls k t103 t104 t105 t106 t107 t108 t109 t110 t111 t112 t113 _ A8.out).mono ?_); rintro e w18 ⟨rfl, hb⟩; refine ⟨_, rfl, ?_⟩; have n0_ := Aside0.mk (blk_below (g := gb101) (o := .cells #[.int .i64 a0_0, .int .i64 a0_1, .int .i64 a0_2, .int .i64 a0_3, .int .i64 a0_4, .int .i64 a0_5, .int .i64 a0_6, .int .i64 a0_7, .string a0_8] 25 (0, 0)) (by (with_reducible repeat (first | refine blk_drewN ?_ _ | refine blk_drew ?_ | refine blk_alloc ?_ _)); exact BK101.out) hb); have n1_ := Aside0.mk (below_step (by repeat (first | (with_reducible first | exact HB.out | apply below_alloc | apply pw_below_drewN | apply below_drew1 | refine below_set ?_ GE101.out) | exact HB.out)) hb); clear BK101; clear HB; have BK101 := n0_; have HB := n1_; clear n0_ n1_; (try clear hb); (try clear hb2); (try clear hk); (try clear hi); have hcz19_0 : w18.cell? ⟨gb101, 0, none⟩ = some (.int .i64 a0_0) := (blk_cell BK101.out 0).trans rfl; have hcz19_1 : w18.cell? ⟨gb101, 1, none⟩ = some (.int .i64 a0_1) := (blk_cell BK101.out 1).trans rfl; have hcz19_2 : w18.cell? ⟨gb101, 2, none⟩ = some (.int .i64 a0_2) := (blk_cell BK101.out 2).trans rfl; have hcz19_3 : w18.cell? ⟨gb101, 3, none⟩ = some (.int .i64 a0_3) := (blk_cell BK101.out 3).trans rfl; have hcz19_4 : w18.cell? ⟨gb101, 4, none⟩ = some (.int .i64 a0_4) := (blk_cell BK101.out 4).trans rfl; have hcz19_5 : w18.cell? ⟨gb101, 5, none⟩ = some (.int .i64 a0_5) := (blk_cell BK101.out 5).trans rfl; have hcz19_6 : w18.cell? ⟨gb101, 6, none⟩ = some (.int .i64 a0_6) := (blk_cell BK101.out 6).trans rfl; have hcz19_7 : w18.cell? ⟨gb101, 7, none⟩ = some (.int .i64 a0_7) := (blk_cell BK101.out 7).trans rfl; have hcz19_8 : w18.cell? ⟨gb101, 8, none⟩ = some (.string a0_8) := (blk_cell BK101.out 8).trans rfl; have hfz19_0 := blk_frozen BK101.out 0; have hfz19_1 := blk_frozen BK101.out 1; have hfz19_2 := blk_frozen BK101.out 2; have hfz19_3 := blk_frozen BK101.out 3; have hfz19_4 := blk_frozen BK101.out 4; have hfz19_5 := blk_frozen BK101.out 5; have hfz19_6 := blk_frozen BK101.out 6; have hfz19_7 := blk_frozen BK101.out 7; have hfz19_8 := blk_frozen BK101.out 8) | ((with_reducible refine gate_callee (f := 6) rfl ?_); refine goesL_ (some 21) rfl rfl Tryd.func6 (by kernel_rfl) rfl #[.agg #[.int .i64 a0_0, .int .i64 a0_1, .int .i64 a0_2, .int .i64 a0_3, .int .i64 a0_4, .int .i64 a0_5, .int .i64 a0_6, .int .i64 a0_7, .string a0_8]] rfl (by (try simp only [List.map_toArray, List.map_cons, List.map_nil]); first | done | rfl | (simp only [List.length_drop, List.length_take]; rfl)) ?_; (with_reducible refine (laws_toRequest.calls a0_0 a0_1 a0_2 a0_3 a0_4 a0_5 a0_6 a0_7 a0_8 t114 t115 t116 t117 t118 t119 t120 t121 t122 _ A9.out).mono ?_); rintro e w20 ⟨rfl, hb⟩; refine ⟨_, rfl, ?_⟩; have n0_ := Aside0.mk (blk_below (g := gb101) (o := .cells #[.int .i64 a0_0, .int .i64 a0_1, .int .i64 a0_2, .int .i64 a0_3, .int .i64 a0_4, .int .i64 a0_5, .int .i64 a0_6, .int .i64 a0_7, .string a0_8] 25 (0, 0)) (by (with_reducible repeat (first | refine blk_drewN ?_ _ | refine blk_drew ?_ | refine blk_alloc ?_ _)); exact BK101.out) hb); have n1_ := Aside0.mk (below_step (by repeat (first | (with_reducible first | exact HB.out | apply below_alloc | apply pw_below_drewN | apply below_drew1 | refine below_set ?_ GE101.out) | exact HB.out)) hb); clear BK101; clear HB; have BK101 := n0_; have HB := n1_; clear n0_ n1_; (try clear hb); (try clear hb2); (try clear hk); (try clear hi)) | ((with_reducible refine gate_callee (f := 7) rfl ?_); refine goesL_ (some 22) rfl rfl Tryd.func7 (by kernel_rfl) rfl #[.agg #[.int .i64 t114, .int .i64 t115, .int .i64 t116, .int .i64 t117, .int .i64 t118, .int .i64 t119, .int .i64 t120, .int .i64 t121, .string t122]] rfl (by (try simp only [List.map_toArray, List.map_cons, List.map_nil]); first | done | rfl | (simp only [List.length_drop, List.length_take]; rfl)) ?_; (with_reducible refine (impl_RequestLine.calls k t114 t115 t116 t117 t118 t119 t120 t121 t122 t123 t124 _ (TabW.below hT (by repeat (first | (with_reducible first | exact HB.out | apply below_alloc | apply pw_below_drewN | apply below_drew1) | exact HB.out))) A10.out).mono ?_); rintro e w21 ⟨rfl, hb⟩; refine ⟨_, rfl, ?_⟩; have n0_ := Aside0.mk (blk_below (g := gb101) (o := .cells #[.int .i64 a0_0, .int .i64 a0_1, .int .i64 a0_2, .int .i64 a0_3, .int .i64 a0_4, .int .i64 a0_5, .int .i64 a0_6, .int .i64 a0_7, .string a0_8] 25 (0, 0)) (by (with_reducible repeat (first | refine blk_drewN ?_ _ | refine blk_drew ?_ | refine blk_alloc ?_ _)); exact BK101.out) hb); have n1_ := Aside0.mk (below_step (by repeat (first | (with_reducible first | exact HB.out | apply below_alloc | apply pw_below_drewN | apply below_drew1 | refine below_set ?_ GE101.out) | exact HB.out)) hb); clear BK101; clear HB; have BK101 := n0_; have HB := n1_; clear n0_ n1_; (try clear hb); (try clear hb2); (try clear hk); (try clear hi)))
    go_ret
    exact ⟨by first | rfl | (simp [errW_none, errW_some] <;> rfl) | (simp [*, errW_none, errW_some] <;> rfl), by repeat (first | (with_reducible first | exact HB.out | apply below_alloc | apply pw_below_drewN | apply below_drew1 | refine below_set ?_ GE101.out) | exact HB.out)⟩
   ·rw [if_neg c12] at H
    exact absurd H (by simp)
  ·rw [if_neg c11] at H
   exact absurd H (by simp)
end Go.Proofs.YtfafehhallbjiaaDoor.Q
