/- Several of our texts, one behind the other, without what this claim does not need: PRddx1, DocF, DocG, DocH, DocI, DocS, DocJ, DocK, RdDoc, PRdlx1, WkFnExactReadDoc, StmFnExactReadDoc, WireQ. -/
import Derived.Test.YtfafehhallbjiaaProg
import Derived.Below
import Derived.Deep.Draws
import Derived.Deep.AppendLies
import Derived.Maps.AppendAt
import Derived.OwnWalk
import Derived.Laws.BytesArg
import Derived.Laws.MakeOwn
import Derived.Laws.OwnMore
import Derived.Deep.OwnRows
import Derived.Tactics
import Derived.Lib.ConvBytes
import Derived.Laws.Slices
import Derived.WalkKit
import Derived.KernelRfl
import Derived.RowKit3
import Derived.Deep.LoopGhost
import Derived.Deep.QuietTactic
import Derived.BigQuiet
import Derived.WideLaws
import Derived.Deep.DeepCutAuto
import Derived.Deep.CutBlock
import Derived.Deep.RegionHeld3
import Derived.Laws.Rows
import Derived.Lib.AppendStr
import Derived.ArgAppend
import Derived.Laws.IdiomCopy
import Derived.OrdersHeld
import Derived.Laws.BitsLemmas
import Derived.RowKit
import Derived.Test.YtfafehhallbjiaaZ3aecfc4f
import Derived.Test.YtfafehhallbjiaaZ692b6499
import Derived.Test.YtfafehhallbjiaaZ57dfb9a4
import Derived.Test.YtfafehhallbjiaaZdc52c2dd
import Derived.Test.YtfafehhallbjiaaZa06c9b0d
import Derived.Test.YtfafehhallbjiaaZ7a97af9f
import Derived.Test.YtfafehhallbjiaaZ89426d30
import Derived.Test.YtfafehhallbjiaaZ5ec9c829
import Derived.Test.YtfafehhallbjiaaZfa84605d
import Derived.Test.YtfafehhallbjiaaZ4b60ab62
import Derived.Test.YtfafehhallbjiaaZ9d156c1e
import Derived.Test.YtfafehhallbjiaaZc0e84950
import Derived.Test.YtfafehhallbjiaaZ730815c0
import Derived.Laws.StructEq
import Derived.Test.YtfafehhallbjiaaZc9563dae
import Derived.Test.YtfafehhallbjiaaZ8375cc63
import Derived.Test.YtfafehhallbjiaaZe37858b6
import Derived.Maps.OwnSet
namespace Go.Proofs.Ytfafehhallbjiaa.Q
open Go.RowKit Go.Proofs.YtfafehhallbjiaaW.PrintWords Go.Proofs.YtfafehhallbjiaaW.PrintLast Go.Proofs.YtfafehhallbjiaaW.PrintMore
open Go.Proofs.Ytfafehhallbjiaa.H
attribute [local go_sem] max2_int min2_int max_two min_two max_three min_three max_four min_four
set_option linter.unusedVariables false
set_option linter.unusedSimpArgs false
mutual
def impl_reader_doc.l0 : Nat → Int → Int → ByteArray → Int → Int → Int → Int → List (S88) → Option (Int × Int × (List (S88)) × ByteArray × Int × Int)
 | 0, _, _, _, _, _, _, _, _ => none
 | k + 1, x11, x12, x1000, x1001, x1002, x111000, x111001, x111002 => if x12 < x11 then ((impl_reader_number.f k x1000 x1001 x1002).bind fun bt115 => ((impl_reader_number.f k bt115.2.1 bt115.2.2.1 bt115.2.2.2).bind fun bt119 => ((impl_reader_number.f k bt119.2.1 bt119.2.2.1 bt119.2.2.2).bind fun bt123 => ((impl_reader_string.f k bt123.2.1 bt123.2.2.1 bt123.2.2.2).bind fun bt127 => ((impl_reader_many.f k bt127.2.1 bt127.2.2.1 bt127.2.2.2 12).bind fun bt132 => (impl_reader_doc.l1 k x11 x12 bt132.1 0 bt132.2.1 bt132.2.2.1 bt132.2.2.2 x111000 x111001 x111002 bt115.1 bt119.1 bt123.1 bt127.1 ([] : List Int))))))) else (some (x111000, x111001, x111002, x1000, x1001, x1002))
def impl_reader_doc.l1 : Nat → Int → Int → Int → Int → ByteArray → Int → Int → Int → Int → List (S88) → Int → Int → Int → ByteArray → List Int → Option (Int × Int × (List (S88)) × ByteArray × Int × Int)
 | 0, _, _, _, _, _, _, _, _, _, _, _, _, _, _, _ => none
 | k + 1, x11, x12, x24, x25, x1000, x1001, x1002, x111000, x111001, x111002, x132000, x132001, x132002, x132003, x132004 => if x25 < x24 then ((impl_reader_number.f k x1000 x1001 x1002).bind fun bt136 => (if x132004.length < 17592186044416 then (impl_reader_doc.l1 k x11 x12 x24 (wrap64 (x25 + 1)) bt136.2.1 bt136.2.2.1 bt136.2.2.2 x111000 x111001 x111002 x132000 x132001 x132002 x132003 (x132004 ++ [bt136.1])) else (none))) else (if x111002.length < 2199023255552 then (impl_reader_doc.l0 k x11 (wrap64 (x12 + 1)) x1000 x1001 x1002 x111000 x111001 (x111002 ++ [(⟨x132000, x132001, x132002, x132003, x132004⟩ : S88)])) else (none))
end
def impl_reader_doc.f (k : Nat) (s0_0 : ByteArray) (s0_1 : Int) (s0_2 : Int) : Option (Int × Int × (List (S88)) × ByteArray × Int × Int) := (impl_reader_number.f k s0_0 s0_1 s0_2).bind fun bt102 => ((impl_reader_number.f k bt102.2.1 bt102.2.2.1 bt102.2.2.2).bind fun bt106 => ((impl_reader_many.f k bt106.2.1 bt106.2.2.1 bt106.2.2.2 40).bind fun bt111 => (impl_reader_doc.l0 k bt111.1 0 bt111.2.1 bt111.2.2.1 bt111.2.2.2 bt102.1 bt106.1 ([] : List (S88)))))
theorem impl_reader_doc.mono_l : ∀ k, (∀ y0 y1 y2 y3 y4 y5 y6 y7, LeO (impl_reader_doc.l0 k y0 y1 y2 y3 y4 y5 y6 y7) (impl_reader_doc.l0 (k + 1) y0 y1 y2 y3 y4 y5 y6 y7)) ∧ (∀ y0 y1 y2 y3 y4 y5 y6 y7 y8 y9 y10 y11 y12 y13 y14, LeO (impl_reader_doc.l1 k y0 y1 y2 y3 y4 y5 y6 y7 y8 y9 y10 y11 y12 y13 y14) (impl_reader_doc.l1 (k + 1) y0 y1 y2 y3 y4 y5 y6 y7 y8 y9 y10 y11 y12 y13 y14))
 | 0 => ⟨fun _ _ _ _ _ _ _ _ r h => by simp [impl_reader_doc.l0] at h, fun _ _ _ _ _ _ _ _ _ _ _ _ _ _ _ r h => by simp [impl_reader_doc.l1] at h⟩
 | k + 1 => by
  obtain ⟨ih0, ih1⟩ := impl_reader_doc.mono_l k
  refine ⟨?_, ?_⟩
  ·intro y0 y1 y2 y3 y4 y5 y6 y7
   unfold impl_reader_doc.l0
   repeat' first
   | (with_reducible exact ih0 _ _ _ _ _ _ _ _)
   | (with_reducible exact ih1 _ _ _ _ _ _ _ _ _ _ _ _ _ _ _)
   | (with_reducible exact impl_reader_many.mono _ _ _ _ _)
   | (with_reducible exact impl_reader_number.mono _ _ _ _)
   | (with_reducible exact impl_reader_string.mono _ _ _ _)
   | (with_reducible exact LeO.refl _)
   | (with_reducible exact LeO.none _)
   | (with_reducible refine LeO.ite ?_ ?_)
   | (with_reducible refine LeO.bind ?_ (fun _ => ?_))
   | exact ih0 _ _ _ _ _ _ _ _
   | exact ih1 _ _ _ _ _ _ _ _ _ _ _ _ _ _ _
   | exact impl_reader_many.mono _ _ _ _ _
   | exact impl_reader_number.mono _ _ _ _
   | exact impl_reader_string.mono _ _ _ _
   | exact LeO.none _
   | refine LeO.ite ?_ ?_
   | refine LeO.bind ?_ (fun _ => ?_)
  ·intro y0 y1 y2 y3 y4 y5 y6 y7 y8 y9 y10 y11 y12 y13 y14
   unfold impl_reader_doc.l1
   repeat' first
   | (with_reducible exact ih0 _ _ _ _ _ _ _ _)
   | (with_reducible exact ih1 _ _ _ _ _ _ _ _ _ _ _ _ _ _ _)
   | (with_reducible exact impl_reader_many.mono _ _ _ _ _)
   | (with_reducible exact impl_reader_number.mono _ _ _ _)
   | (with_reducible exact impl_reader_string.mono _ _ _ _)
   | (with_reducible exact LeO.refl _)
   | (with_reducible exact LeO.none _)
   | (with_reducible refine LeO.ite ?_ ?_)
   | (with_reducible refine LeO.bind ?_ (fun _ => ?_))
   | exact ih0 _ _ _ _ _ _ _ _
   | exact ih1 _ _ _ _ _ _ _ _ _ _ _ _ _ _ _
   | exact impl_reader_many.mono _ _ _ _ _
   | exact impl_reader_number.mono _ _ _ _
   | exact impl_reader_string.mono _ _ _ _
   | exact LeO.none _
   | refine LeO.ite ?_ ?_
   | refine LeO.bind ?_ (fun _ => ?_)
theorem impl_reader_doc.mono : ∀ a0 a1 a2 k, LeO (impl_reader_doc.f k a0 a1 a2) (impl_reader_doc.f (k + 1) a0 a1 a2) := by
 intro a0 a1 a2 k
 obtain ⟨ih0, ih1⟩ := impl_reader_doc.mono_l k
 unfold impl_reader_doc.f
 repeat' first
   | (with_reducible exact ih0 _ _ _ _ _ _ _ _)
   | (with_reducible exact ih1 _ _ _ _ _ _ _ _ _ _ _ _ _ _ _)
   | (with_reducible exact impl_reader_many.mono _ _ _ _ _)
   | (with_reducible exact impl_reader_number.mono _ _ _ _)
   | (with_reducible exact impl_reader_string.mono _ _ _ _)
   | (with_reducible exact LeO.refl _)
   | (with_reducible exact LeO.none _)
   | (with_reducible refine LeO.ite ?_ ?_)
   | (with_reducible refine LeO.bind ?_ (fun _ => ?_))
   | exact ih0 _ _ _ _ _ _ _ _
   | exact ih1 _ _ _ _ _ _ _ _ _ _ _ _ _ _ _
   | exact impl_reader_many.mono _ _ _ _ _
   | exact impl_reader_number.mono _ _ _ _
   | exact impl_reader_string.mono _ _ _ _
   | exact LeO.none _
   | refine LeO.ite ?_ ?_
   | refine LeO.bind ?_ (fun _ => ?_)
def impl_reader_doc.T7 : Bool × List (List Nat × List Nat) := (true, [([], []), ([0], [0]), ([], []), ([2], [2]), ([3], [3]), ([1, 4, 3], [1, 4]), ([0, 1, 2, 3, 4, 5], []), ([6, 5, 5, 0, 1, 2, 3, 4, 5], [5, 6])])
def impl_reader_doc.B7 : List Nat := [0, 1, 0, 4, 12, 31, 63, 127]
theorem impl_reader_doc.tab7 : rtab .any (opsOf Try.f34 7) = impl_reader_doc.T7 := by kernel_rfl
theorem impl_reader_doc.bits7 : waitsOk impl_reader_doc.T7.2 impl_reader_doc.B7 = true := by kernel_rfl
set_option maxHeartbeats 8000000 in
set_option maxRecDepth 100000 in
theorem impl_reader_doc.calls (k : Nat) (g : Nat) (s0_0 : ByteArray) (s0_1 : Int) (s0_2 : Int) (r1 : Int) (r2 : Int) (r3 : List (S88)) (r4 : ByteArray) (r5 : Int) (r6 : Int) (w0 w : World) (hI : IsS66 w0 w g s0_0 s0_1 s0_2) (hB : Below w0.heap.size w0 w) (h : impl_reader_doc.f k s0_0 s0_1 s0_2 = some (r1, r2, r3, r4, r5, r6)) :
  Calls Try.prog 34 #[.pointer (some ⟨g, 0, none⟩)] w fun e w' => ∃ v2_ : Value, e = .returned (.agg #[.int .i64 r1, .int .i64 r2, v2_]) ∧ Kd.S k88 88 w' w.heap.size (fun _ => True) v2_ r3 ∧ IsS66 w0 w' g r4 r5 r6 ∧ Below w0.heap.size w0 w' ∧ KeepBut w w' g none := by
 have hu24 := Try.underlying24
 have hu88 := Try.underlying88
 have HI0 := Aside0.mk hI
 have HK := Aside0.mk (KeepBut.refl w g none)
 have HL := Aside0.mk hB.size
 clear hI
 have HW0 := Aside0.mk hB.size
 have HB := Aside0.mk hB
 clear hB
 have H : ((impl_reader_number.f k s0_0 s0_1 s0_2).bind fun bt102 => ((impl_reader_number.f k bt102.2.1 bt102.2.2.1 bt102.2.2.2).bind fun bt106 => ((impl_reader_many.f k bt106.2.1 bt106.2.2.1 bt106.2.2.2 40).bind fun bt111 => (impl_reader_doc.l0 k bt111.1 0 bt111.2.1 bt111.2.2.1 bt111.2.2.2 bt102.1 bt106.1 ([] : List (S88)))))) = some (r1, r2, r3, r4, r5, r6) := h
 clear h
 replace H := Option.bind_eq_some_iff.mp H
 obtain ⟨⟨t102, t103, t104, t105⟩, A20, H⟩ := H
 replace H : ((impl_reader_number.f k t103 t104 t105).bind fun bt106 => ((impl_reader_many.f k bt106.2.1 bt106.2.2.1 bt106.2.2.2 40).bind fun bt111 => (impl_reader_doc.l0 k bt111.1 0 bt111.2.1 bt111.2.2.1 bt111.2.2.2 t102 bt106.1 ([] : List (S88))))) = some (r1, r2, r3, r4, r5, r6) := H
 have A2 := Aside0.mk A20
 clear A20
 replace H := Option.bind_eq_some_iff.mp H
 obtain ⟨⟨t106, t107, t108, t109⟩, A30, H⟩ := H
 replace H : ((impl_reader_many.f k t107 t108 t109 40).bind fun bt111 => (impl_reader_doc.l0 k bt111.1 0 bt111.2.1 bt111.2.2.1 bt111.2.2.2 t102 t106 ([] : List (S88)))) = some (r1, r2, r3, r4, r5, r6) := H
 have A3 := Aside0.mk A30
 clear A30
 replace H := Option.bind_eq_some_iff.mp H
 obtain ⟨⟨t111, t112, t113, t114⟩, A40, H⟩ := H
 replace H : (impl_reader_doc.l0 k t111 0 t112 t113 t114 t102 t106 ([] : List (S88))) = some (r1, r2, r3, r4, r5, r6) := H
 have A4 := Aside0.mk A40
 clear A40
 have H' := Aside0.mk H
 clear H
 go_enter Try.func34, Try.ntmps34
 go_wp2_with (first | ((with_reducible refine gate_dst (N := 2) rfl ?_); refine box_event ?hg (N := 2) ?hd (cs := #[.int .i64 0, .int .i64 0, .slice none 0 0]) (t := 24) ?hr ?_; (case hd => rfl); (case hg => rfl); (case hr => first | (go_simp; done) | (go_simp; rfl)); intro gb101 hg w5 hbox hb; have n0_ := Aside0.mk (IsS66.below (by repeat (first | (with_reducible first | exact HI0.out | apply IsS66.alloc | apply IsS66.drewN | apply IsS66.drew | apply IsS66.set_0 | apply IsS66.set_1 | apply IsS66.set_2) | exact HI0.out)) hb); have n1_ := Aside0.mk (KeepBut.trans (by repeat (first | (with_reducible first | exact HK.out | apply KeepBut.set_ | apply keep_drewN | apply keep_drew | apply keep_alloc) | exact HK.out)) (KeepBut.of_below hb g none) (.inl rfl)); have n2_ := Aside0.mk (below_step (by repeat (first | (with_reducible first | exact HB.out | apply below_alloc | apply pw_below_drewN | apply below_drew1 | refine below_set ?_ (IsS66.ge HI0.out)) | exact HB.out)) hb); have n3_ := Aside0.mk (hbox); have n4_ := Aside0.mk ((by rw [hg]; exact (keep_size (w := w) (g := g) (row := none) (by repeat (first | (with_reducible first | exact HK.out | apply KeepBut.set_ | apply keep_drewN | apply keep_drew | apply keep_alloc) | exact HK.out))) : w.heap.size ≤ gb101)); have n5_ := Aside0.mk ((Nat.le_trans HW0.out (by rw [hg]; exact (keep_size (w := w) (g := g) (row := none) (by repeat (first | (with_reducible first | exact HK.out | apply KeepBut.set_ | apply keep_drewN | apply keep_drew | apply keep_alloc) | exact HK.out))) : w.heap.size ≤ gb101) : w0.heap.size ≤ gb101)); have n6_ := Aside0.mk ((by rw [hg]; exact Nat.ne_of_lt (IsS66.lt (show IsS66 w0 _ g s0_0 s0_1 s0_2 from by repeat (first | (with_reducible first | exact HI0.out | apply IsS66.alloc | apply IsS66.drewN | apply IsS66.drew | apply IsS66.set_0 | apply IsS66.set_1 | apply IsS66.set_2) | exact HI0.out))) : g ≠ gb101)); have n7_ := Aside0.mk ((by rw [hg]; exact Nat.ne_of_gt (IsS66.lt (show IsS66 w0 _ g s0_0 s0_1 s0_2 from by repeat (first | (with_reducible first | exact HI0.out | apply IsS66.alloc | apply IsS66.drewN | apply IsS66.drew | apply IsS66.set_0 | apply IsS66.set_1 | apply IsS66.set_2) | exact HI0.out))) : gb101 ≠ g)); clear HI0; clear HK; clear HB; have HI0 := n0_; have HK := n1_; have HB := n2_; have BK101 := n3_; have GW101 := n4_; have GE101 := n5_; have NB0_101 := n6_; have NB101_0 := n7_; clear n0_ n1_ n2_ n3_ n4_ n5_ n6_ n7_; clear hb hbox hg) | ((with_reducible refine gate_callee (f := 41) rfl ?_); refine goesL_ (some 6) rfl rfl Try.func41 (by kernel_rfl) rfl #[.pointer (some ⟨g, 0, none⟩)] rfl (by (try simp only [List.map_toArray, List.map_cons, List.map_nil]); first | done | rfl | (simp only [List.length_drop, List.length_take]; rfl)) ?_; (with_reducible refine (impl_reader_number.calls k g s0_0 s0_1 s0_2 t102 t103 t104 t105 w0 _ ?side1 ?side2 A2.out).mono ?_); (case side1 => repeat (first | (with_reducible first | exact HI0.out | apply IsS66.alloc | apply IsS66.drewN | apply IsS66.drew | apply IsS66.set_0 | apply IsS66.set_1 | apply IsS66.set_2 | refine IsS66.far ?_ NB0_101.out _) | exact HI0.out)); (case side2 => repeat (first | (with_reducible first | exact HB.out | apply below_alloc | apply pw_below_drewN | apply below_drew1 | refine below_set ?_ (IsS66.ge HI0.out) | refine below_set ?_ GE101.out) | exact HB.out)); rintro e w6 ⟨rfl, hi, hb, hk⟩; refine ⟨_, rfl, ?_⟩; have n0_ := Aside0.mk (KeepBut.blk hk (g' := gb101) (o := .cells #[.int .i64 0, .int .i64 0, .slice none 0 0] 24 (0, 0)) (by (with_reducible repeat (first | refine blk_drewN ?_ _ | refine blk_drew ?_ | refine blk_alloc ?_ _)); exact BK101.out) NB101_0.out (by simp)); have n1_ := Aside0.mk (KeepBut.trans (by repeat (first | (with_reducible first | exact HK.out | apply KeepBut.set_ | apply keep_drewN | apply keep_drew | apply keep_alloc | refine keep_far ?_ GW101.out _) | exact HK.out)) hk (.inl rfl)); have n2_ := Aside0.mk (hb); have n3_ := Aside0.mk (hi); clear BK101; clear HK; clear HB; clear HI0; have BK101 := n0_; have HK := n1_; have HB := n2_; have HI0 := n3_; clear n0_ n1_ n2_ n3_; (try clear hb); (try clear hb2); (try clear hk); (try clear hi)) | ((with_reducible refine gate_callee (f := 41) rfl ?_); refine goesL_ (some 8) rfl rfl Try.func41 (by kernel_rfl) rfl #[.pointer (some ⟨g, 0, none⟩)] rfl (by (try simp only [List.map_toArray, List.map_cons, List.map_nil]); first | done | rfl | (simp only [List.length_drop, List.length_take]; rfl)) ?_; (with_reducible refine (impl_reader_number.calls k g t103 t104 t105 t106 t107 t108 t109 w0 _ ?side1 ?side2 A3.out).mono ?_); (case side1 => repeat (first | (with_reducible first | exact HI0.out | apply IsS66.alloc | apply IsS66.drewN | apply IsS66.drew | apply IsS66.set_0 | apply IsS66.set_1 | apply IsS66.set_2 | refine IsS66.far ?_ NB0_101.out _) | exact HI0.out)); (case side2 => repeat (first | (with_reducible first | exact HB.out | apply below_alloc | apply pw_below_drewN | apply below_drew1 | refine below_set ?_ (IsS66.ge HI0.out) | refine below_set ?_ GE101.out) | exact HB.out)); rintro e w7 ⟨rfl, hi, hb, hk⟩; refine ⟨_, rfl, ?_⟩; have n0_ := Aside0.mk (KeepBut.blk hk (g' := gb101) (o := .cells #[.int .i64 0, .int .i64 0, .slice none 0 0] 24 (0, 0)) (by (with_reducible repeat (first | refine blk_drewN ?_ _ | refine blk_drew ?_ | refine blk_alloc ?_ _)); exact BK101.out) NB101_0.out (by simp)); have n1_ := Aside0.mk (KeepBut.trans (by repeat (first | (with_reducible first | exact HK.out | apply KeepBut.set_ | apply keep_drewN | apply keep_drew | apply keep_alloc | refine keep_far ?_ GW101.out _) | exact HK.out)) hk (.inl rfl)); have n2_ := Aside0.mk (hb); have n3_ := Aside0.mk (hi); clear BK101; clear HK; clear HB; clear HI0; have BK101 := n0_; have HK := n1_; have HB := n2_; have HI0 := n3_; clear n0_ n1_ n2_ n3_; (try clear hb); (try clear hb2); (try clear hk); (try clear hi)) | ((with_reducible refine gate_dst (N := 3) rfl ?_); refine box_event ?hg (N := 3) ?hd (cs := #[.int .i64 0, .int .i64 0, .slice none 0 0]) (t := 24) ?hr ?_; (case hd => rfl); (case hg => rfl); (case hr => first | (go_simp; done) | (go_simp; rfl)); intro gb110 hg w8 hbox hb; have n0_ := Aside0.mk (IsS66.below (by repeat (first | (with_reducible first | exact HI0.out | apply IsS66.alloc | apply IsS66.drewN | apply IsS66.drew | apply IsS66.set_0 | apply IsS66.set_1 | apply IsS66.set_2 | refine IsS66.far ?_ NB0_101.out _) | exact HI0.out)) hb); have n1_ := Aside0.mk (blk_below (g := gb101) (o := .cells #[.int .i64 0, .int .i64 0, .slice none 0 0] 24 (0, 0)) (by (with_reducible repeat (first | refine blk_drewN ?_ _ | refine blk_drew ?_ | refine blk_alloc ?_ _)); exact BK101.out) hb); have n2_ := Aside0.mk (KeepBut.trans (by repeat (first | (with_reducible first | exact HK.out | apply KeepBut.set_ | apply keep_drewN | apply keep_drew | apply keep_alloc | refine keep_far ?_ GW101.out _) | exact HK.out)) (KeepBut.of_below hb g none) (.inl rfl)); have n3_ := Aside0.mk (below_step (by repeat (first | (with_reducible first | exact HB.out | apply below_alloc | apply pw_below_drewN | apply below_drew1 | refine below_set ?_ (IsS66.ge HI0.out) | refine below_set ?_ GE101.out) | exact HB.out)) hb); have n4_ := Aside0.mk (hbox); have n5_ := Aside0.mk ((by rw [hg]; exact (keep_size (w := w) (g := g) (row := none) (by repeat (first | (with_reducible first | exact HK.out | apply KeepBut.set_ | apply keep_drewN | apply keep_drew | apply keep_alloc | refine keep_far ?_ GW101.out _) | exact HK.out))) : w.heap.size ≤ gb110)); have n6_ := Aside0.mk ((Nat.le_trans HW0.out (by rw [hg]; exact (keep_size (w := w) (g := g) (row := none) (by repeat (first | (with_reducible first | exact HK.out | apply KeepBut.set_ | apply keep_drewN | apply keep_drew | apply keep_alloc | refine keep_far ?_ GW101.out _) | exact HK.out))) : w.heap.size ≤ gb110) : w0.heap.size ≤ gb110)); have n7_ := Aside0.mk ((by rw [hg]; exact Nat.ne_of_lt (blk_lt (g := gb101) (o := .cells #[.int .i64 0, .int .i64 0, .slice none 0 0] 24 (0, 0)) (by (with_reducible repeat (first | refine blk_drewN ?_ _ | refine blk_drew ?_ | refine blk_alloc ?_ _)); exact BK101.out)) : gb101 ≠ gb110)); have n8_ := Aside0.mk ((by rw [hg]; exact Nat.ne_of_gt (blk_lt (g := gb101) (o := .cells #[.int .i64 0, .int .i64 0, .slice none 0 0] 24 (0, 0)) (by (with_reducible repeat (first | refine blk_drewN ?_ _ | refine blk_drew ?_ | refine blk_alloc ?_ _)); exact BK101.out)) : gb110 ≠ gb101)); have n9_ := Aside0.mk ((by rw [hg]; exact Nat.ne_of_lt (IsS66.lt (show IsS66 w0 _ g t107 t108 t109 from by repeat (first | (with_reducible first | exact HI0.out | apply IsS66.alloc | apply IsS66.drewN | apply IsS66.drew | apply IsS66.set_0 | apply IsS66.set_1 | apply IsS66.set_2 | refine IsS66.far ?_ NB0_101.out _) | exact HI0.out))) : g ≠ gb110)); have n10_ := Aside0.mk ((by rw [hg]; exact Nat.ne_of_gt (IsS66.lt (show IsS66 w0 _ g t107 t108 t109 from by repeat (first | (with_reducible first | exact HI0.out | apply IsS66.alloc | apply IsS66.drewN | apply IsS66.drew | apply IsS66.set_0 | apply IsS66.set_1 | apply IsS66.set_2 | refine IsS66.far ?_ NB0_101.out _) | exact HI0.out))) : gb110 ≠ g)); clear HI0; clear BK101; clear HK; clear HB; have HI0 := n0_; have BK101 := n1_; have HK := n2_; have HB := n3_; have BK110 := n4_; have GW110 := n5_; have GE110 := n6_; have NB101_110 := n7_; have NB110_101 := n8_; have NB0_110 := n9_; have NB110_0 := n10_; clear n0_ n1_ n2_ n3_ n4_ n5_ n6_ n7_ n8_ n9_ n10_; clear hb hbox hg; have hnb9 := NB110_101.out; have hnc9 := NB101_110.out; have hnb10 := NB110_0.out; have hnc10 := NB0_110.out; have hcz11_0 : w8.cell? ⟨gb110, 0, none⟩ = some (.int .i64 0) := (blk_cell BK110.out 0).trans rfl; have hcz11_1 : w8.cell? ⟨gb110, 1, none⟩ = some (.int .i64 0) := (blk_cell BK110.out 1).trans rfl; have hcz11_2 : w8.cell? ⟨gb110, 2, none⟩ = some (.slice none 0 0) := (blk_cell BK110.out 2).trans rfl; have hfz11_0 := blk_frozen BK110.out 0; have hfz11_1 := blk_frozen BK110.out 1; have hfz11_2 := blk_frozen BK110.out 2) | ((with_reducible refine gate_callee (f := 63) rfl ?_); refine goesL_ (some 11) rfl rfl Try.func63 (by kernel_rfl) rfl #[.pointer (some ⟨g, 0, none⟩), .int .i64 40] rfl (by (try simp only [List.map_toArray, List.map_cons, List.map_nil]); first | done | rfl | (simp only [List.length_drop, List.length_take]; rfl)) ?_; (with_reducible refine (impl_reader_many.calls k g t107 t108 t109 40 t111 t112 t113 t114 w0 _ ?side1 ?side2 A4.out).mono ?_); (case side1 => repeat (first | (with_reducible first | exact HI0.out | apply IsS66.alloc | apply IsS66.drewN | apply IsS66.drew | apply IsS66.set_0 | apply IsS66.set_1 | apply IsS66.set_2 | refine IsS66.far ?_ NB0_101.out _ | refine IsS66.far ?_ NB0_110.out _) | exact HI0.out)); (case side2 => repeat (first | (with_reducible first | exact HB.out | apply below_alloc | apply pw_below_drewN | apply below_drew1 | refine below_set ?_ (IsS66.ge HI0.out) | refine below_set ?_ GE101.out | refine below_set ?_ GE110.out) | exact HB.out)); rintro e w12 ⟨rfl, hi, hb, hk⟩; refine ⟨_, rfl, ?_⟩; have n0_ := Aside0.mk (KeepBut.blk hk (g' := gb101) (o := .cells #[.int .i64 0, .int .i64 0, .slice none 0 0] 24 (0, 0)) (by (with_reducible repeat (first | refine blk_drewN ?_ _ | refine blk_drew ?_ | refine blk_alloc ?_ _)); refine blk_far ?_ NB101_110.out _; (with_reducible repeat (first | refine blk_drewN ?_ _ | refine blk_drew ?_ | refine blk_alloc ?_ _)); refine blk_far ?_ NB101_110.out _; (with_reducible repeat (first | refine blk_drewN ?_ _ | refine blk_drew ?_ | refine blk_alloc ?_ _)); refine blk_far ?_ NB101_110.out _; (with_reducible repeat (first | refine blk_drewN ?_ _ | refine blk_drew ?_ | refine blk_alloc ?_ _)); exact BK101.out) NB101_0.out (by simp)); have n1_ := Aside0.mk (KeepBut.blk hk (g' := gb110) (o := .cells #[.int .i64 t102, .int .i64 t106, .slice none 0 0] 24 (0, 0)) (by (with_reducible repeat (first | refine blk_drewN ?_ _ | refine blk_drew ?_ | refine blk_alloc ?_ _)); refine blk_put (cs := #[.int .i64 t102, .int .i64 t106, .slice none 0 0]) ?_ 2 _ rfl; (with_reducible repeat (first | refine blk_drewN ?_ _ | refine blk_drew ?_ | refine blk_alloc ?_ _)); refine blk_put (cs := #[.int .i64 t102, .int .i64 0, .slice none 0 0]) ?_ 1 _ rfl; (with_reducible repeat (first | refine blk_drewN ?_ _ | refine blk_drew ?_ | refine blk_alloc ?_ _)); refine blk_put (cs := #[.int .i64 0, .int .i64 0, .slice none 0 0]) ?_ 0 _ rfl; (with_reducible repeat (first | refine blk_drewN ?_ _ | refine blk_drew ?_ | refine blk_alloc ?_ _)); exact BK110.out) NB110_0.out (by simp)); have n2_ := Aside0.mk (KeepBut.trans (by repeat (first | (with_reducible first | exact HK.out | apply KeepBut.set_ | apply keep_drewN | apply keep_drew | apply keep_alloc | refine keep_far ?_ GW101.out _ | refine keep_far ?_ GW110.out _) | exact HK.out)) hk (.inl rfl)); have n3_ := Aside0.mk (hb); have n4_ := Aside0.mk (hi); clear BK101; clear BK110; clear HK; clear HB; clear HI0; have BK101 := n0_; have BK110 := n1_; have HK := n2_; have HB := n3_; have HI0 := n4_; clear n0_ n1_ n2_ n3_ n4_; (try clear hb); (try clear hb2); (try clear hk); (try clear hi)))
 go_loopg [12] k (fun kq v12 w' => ∃ (x12_1 : Int) (x1000_1 : ByteArray) (x1001_1 : Int) (x1002_1 : Int) (x111002_1 : List (S88)) (u111002 : Value), v12 = .int .i64 x12_1 ∧ Aside0 (impl_reader_doc.l0 kq t111 x12_1 x1000_1 x1001_1 x1002_1 t102 t106 x111002_1 = some (r1, r2, r3, r4, r5, r6)) ∧ Aside0 (kq ≤ k) ∧ Aside0 (Kd.S k88 88 w' w.heap.size (fun _ => True) u111002 x111002_1) ∧ Aside0 (w'.heap[gb101]? = some (.cells #[.int .i64 0, .int .i64 0, (.slice none 0 0)] 24 (0, 0))) ∧ Aside0 (w'.heap[gb110]? = some (.cells #[.int .i64 t102, .int .i64 t106, u111002] 24 (0, 0))) ∧ Aside0 (IsS66 w0 w' g x1000_1 x1001_1 x1002_1) ∧ Aside0 (KeepBut w w' g none) ∧ Aside0 (Below w0.heap.size w0 w'))
 case atStart => exact ⟨(0), (t112), (t113), (t114), (([] : List (S88))), (.slice none 0 0), (by first | rfl | (simp; done) | (simp [*]; done)), H', ⟨Nat.le_refl _⟩, ⟨by first | exact Kd.S_nil _ _ _ _ _ | exact Kd.N_nil _ _ _ _ _ | exact Kd.V_nil _ _ _ _ _ | exact Kd.Q_nil _ _ _ _ _ | exact Kd.R_nil _ _ _ _ _⟩, ⟨by (with_reducible repeat (first | refine blk_drewN ?_ _ | refine blk_drew ?_ | refine blk_alloc ?_ _)); exact BK101.out⟩, ⟨by (with_reducible repeat (first | refine blk_drewN ?_ _ | refine blk_drew ?_ | refine blk_alloc ?_ _)); exact BK110.out⟩, ⟨by repeat (first | (with_reducible first | exact HI0.out | apply IsS66.alloc | apply IsS66.drewN | apply IsS66.drew | apply IsS66.set_0 | apply IsS66.set_1 | apply IsS66.set_2 | refine IsS66.far ?_ NB0_101.out _ | refine IsS66.far ?_ NB0_110.out _) | exact HI0.out)⟩, ⟨by repeat (first | (with_reducible first | exact HK.out | apply KeepBut.set_ | apply keep_drewN | apply keep_drew | apply keep_alloc | refine keep_far ?_ GW101.out _ | refine keep_far ?_ GW110.out _) | exact HK.out)⟩, ⟨by repeat (first | (with_reducible first | exact HB.out | apply below_alloc | apply pw_below_drewN | apply below_drew1 | refine below_set ?_ (IsS66.ge HI0.out) | refine below_set ?_ GE101.out | refine below_set ?_ GE110.out) | exact HB.out)⟩⟩
 case round =>
  clear H'
  try clear c1
  try clear p2
  try clear c3
  try clear c4
  try clear c6
  try clear c9
  try clear c10
  try clear hcz11_0
  try clear hcz11_1
  try clear hcz11_2
  try clear hfz11_0
  try clear hfz11_1
  try clear hfz11_2
  obtain ⟨x12_1, x1000_1, x1001_1, x1002_1, x111002_1, u111002, rfl, HA, HK1, HO_111002, BK101, BK110, HI0, HK, HB⟩ := hrel
  cases gk with
  | zero => exact absurd HA.out (by simp [impl_reader_doc.l0])
  | succ k1 =>
   have H := HA.out
   clear HA
   simp only [impl_reader_doc.l0] at H
   by_cases c13 : x12_1 < t111
   ·rw [if_pos c13] at H
    have c13b0 : decide (x12_1 < t111) = true := decide_eq_true c13
    clear c13
    replace H := Option.bind_eq_some_iff.mp H
    obtain ⟨⟨t115, t116, t117, t118⟩, A140, H⟩ := H
    replace H : ((impl_reader_number.f k1 t116 t117 t118).bind fun bt119 => ((impl_reader_number.f k1 bt119.2.1 bt119.2.2.1 bt119.2.2.2).bind fun bt123 => ((impl_reader_string.f k1 bt123.2.1 bt123.2.2.1 bt123.2.2.2).bind fun bt127 => ((impl_reader_many.f k1 bt127.2.1 bt127.2.2.1 bt127.2.2.2 12).bind fun bt132 => (impl_reader_doc.l1 k1 t111 x12_1 bt132.1 0 bt132.2.1 bt132.2.2.1 bt132.2.2.2 t102 t106 x111002_1 t115 bt119.1 bt123.1 bt127.1 ([] : List Int)))))) = some (r1, r2, r3, r4, r5, r6) := H
    have A14 := Aside0.mk A140
    clear A140
    replace H := Option.bind_eq_some_iff.mp H
    obtain ⟨⟨t119, t120, t121, t122⟩, A150, H⟩ := H
    replace H : ((impl_reader_number.f k1 t120 t121 t122).bind fun bt123 => ((impl_reader_string.f k1 bt123.2.1 bt123.2.2.1 bt123.2.2.2).bind fun bt127 => ((impl_reader_many.f k1 bt127.2.1 bt127.2.2.1 bt127.2.2.2 12).bind fun bt132 => (impl_reader_doc.l1 k1 t111 x12_1 bt132.1 0 bt132.2.1 bt132.2.2.1 bt132.2.2.2 t102 t106 x111002_1 t115 t119 bt123.1 bt127.1 ([] : List Int))))) = some (r1, r2, r3, r4, r5, r6) := H
    have A15 := Aside0.mk A150
    clear A150
    replace H := Option.bind_eq_some_iff.mp H
    obtain ⟨⟨t123, t124, t125, t126⟩, A160, H⟩ := H
    replace H : ((impl_reader_string.f k1 t124 t125 t126).bind fun bt127 => ((impl_reader_many.f k1 bt127.2.1 bt127.2.2.1 bt127.2.2.2 12).bind fun bt132 => (impl_reader_doc.l1 k1 t111 x12_1 bt132.1 0 bt132.2.1 bt132.2.2.1 bt132.2.2.2 t102 t106 x111002_1 t115 t119 t123 bt127.1 ([] : List Int)))) = some (r1, r2, r3, r4, r5, r6) := H
    have A16 := Aside0.mk A160
    clear A160
    replace H := Option.bind_eq_some_iff.mp H
    obtain ⟨⟨t127, t128, t129, t130⟩, A170, H⟩ := H
    replace H : ((impl_reader_many.f k1 t128 t129 t130 12).bind fun bt132 => (impl_reader_doc.l1 k1 t111 x12_1 bt132.1 0 bt132.2.1 bt132.2.2.1 bt132.2.2.2 t102 t106 x111002_1 t115 t119 t123 t127 ([] : List Int))) = some (r1, r2, r3, r4, r5, r6) := H
    have A17 := Aside0.mk A170
    clear A170
    replace H := Option.bind_eq_some_iff.mp H
    obtain ⟨⟨t132, t133, t134, t135⟩, A180, H⟩ := H
    replace H : (impl_reader_doc.l1 k1 t111 x12_1 t132 0 t133 t134 t135 t102 t106 x111002_1 t115 t119 t123 t127 ([] : List Int)) = some (r1, r2, r3, r4, r5, r6) := H
    have A18 := Aside0.mk A180
    clear A180
    have H' := Aside0.mk H
    clear H
    go_wp2_with (first | ((with_reducible refine gate_callee (f := 41) rfl ?_); refine goesL_ (some 15) rfl rfl Try.func41 (by kernel_rfl) rfl #[.pointer (some ⟨g, 0, none⟩)] rfl (by (try simp only [List.map_toArray, List.map_cons, List.map_nil]); first | done | rfl | (simp only [List.length_drop, List.length_take]; rfl)) ?_; (with_reducible refine (impl_reader_number.calls k1 g x1000_1 x1001_1 x1002_1 t115 t116 t117 t118 w0 _ ?side1 ?side2 A14.out).mono ?_); (case side1 => repeat (first | (with_reducible first | exact HI0.out | apply IsS66.alloc | apply IsS66.drewN | apply IsS66.drew | apply IsS66.set_0 | apply IsS66.set_1 | apply IsS66.set_2 | refine IsS66.far ?_ NB0_101.out _ | refine IsS66.far ?_ NB0_110.out _) | exact HI0.out)); (case side2 => repeat (first | (with_reducible first | exact HB.out | apply below_alloc | apply pw_below_drewN | apply below_drew1 | refine below_set ?_ (IsS66.ge HI0.out) | refine below_set ?_ GE101.out | refine below_set ?_ GE110.out) | exact HB.out)); rintro e w19 ⟨rfl, hi, hb, hk⟩; refine ⟨_, rfl, ?_⟩; have n0_ := Aside0.mk (Kd.S_mono (Kd.S_keep (IsS66.apartS (show IsS66 w0 _ g x1000_1 x1001_1 x1002_1 from by repeat (first | (with_reducible first | exact HI0.out | apply IsS66.alloc | apply IsS66.drewN | apply IsS66.drew | apply IsS66.set_0 | apply IsS66.set_1 | apply IsS66.set_2 | refine IsS66.far ?_ NB0_101.out _ | refine IsS66.far ?_ NB0_110.out _) | exact HI0.out)) (by (with_reducible repeat (first | apply Kd.S_alloc | apply Kd.S_drewN | apply Kd.S_drew)); exact HO_111002.out) (by decide)) hk (fun _ h => h.2)) (fun _ h => h.1)); have n1_ := Aside0.mk (KeepBut.blk hk (g' := gb101) (o := .cells #[.int .i64 0, .int .i64 0, .slice none 0 0] 24 (0, 0)) (by (with_reducible repeat (first | refine blk_drewN ?_ _ | refine blk_drew ?_ | refine blk_alloc ?_ _)); exact BK101.out) NB101_0.out (by simp)); have n2_ := Aside0.mk (KeepBut.blk hk (g' := gb110) (o := .cells #[.int .i64 t102, .int .i64 t106, u111002] 24 (0, 0)) (by (with_reducible repeat (first | refine blk_drewN ?_ _ | refine blk_drew ?_ | refine blk_alloc ?_ _)); exact BK110.out) NB110_0.out (by simp)); have n3_ := Aside0.mk (KeepBut.trans (by repeat (first | (with_reducible first | exact HK.out | apply KeepBut.set_ | apply keep_drewN | apply keep_drew | apply keep_alloc | refine keep_far ?_ GW101.out _ | refine keep_far ?_ GW110.out _) | exact HK.out)) hk (.inl rfl)); have n4_ := Aside0.mk (hb); have n5_ := Aside0.mk (hi); clear HO_111002; clear BK101; clear BK110; clear HK; clear HB; clear HI0; have HO_111002 := n0_; have BK101 := n1_; have BK110 := n2_; have HK := n3_; have HB := n4_; have HI0 := n5_; clear n0_ n1_ n2_ n3_ n4_ n5_; (try clear hb); (try clear hb2); (try clear hk); (try clear hi)) | ((with_reducible refine gate_callee (f := 41) rfl ?_); refine goesL_ (some 17) rfl rfl Try.func41 (by kernel_rfl) rfl #[.pointer (some ⟨g, 0, none⟩)] rfl (by (try simp only [List.map_toArray, List.map_cons, List.map_nil]); first | done | rfl | (simp only [List.length_drop, List.length_take]; rfl)) ?_; (with_reducible refine (impl_reader_number.calls k1 g t116 t117 t118 t119 t120 t121 t122 w0 _ ?side1 ?side2 A15.out).mono ?_); (case side1 => repeat (first | (with_reducible first | exact HI0.out | apply IsS66.alloc | apply IsS66.drewN | apply IsS66.drew | apply IsS66.set_0 | apply IsS66.set_1 | apply IsS66.set_2 | refine IsS66.far ?_ NB0_101.out _ | refine IsS66.far ?_ NB0_110.out _) | exact HI0.out)); (case side2 => repeat (first | (with_reducible first | exact HB.out | apply below_alloc | apply pw_below_drewN | apply below_drew1 | refine below_set ?_ (IsS66.ge HI0.out) | refine below_set ?_ GE101.out | refine below_set ?_ GE110.out) | exact HB.out)); rintro e w20 ⟨rfl, hi, hb, hk⟩; refine ⟨_, rfl, ?_⟩; have n0_ := Aside0.mk (Kd.S_mono (Kd.S_keep (IsS66.apartS (show IsS66 w0 _ g t116 t117 t118 from by repeat (first | (with_reducible first | exact HI0.out | apply IsS66.alloc | apply IsS66.drewN | apply IsS66.drew | apply IsS66.set_0 | apply IsS66.set_1 | apply IsS66.set_2 | refine IsS66.far ?_ NB0_101.out _ | refine IsS66.far ?_ NB0_110.out _) | exact HI0.out)) (by (with_reducible repeat (first | apply Kd.S_alloc | apply Kd.S_drewN | apply Kd.S_drew)); exact HO_111002.out) (by decide)) hk (fun _ h => h.2)) (fun _ h => h.1)); have n1_ := Aside0.mk (KeepBut.blk hk (g' := gb101) (o := .cells #[.int .i64 0, .int .i64 0, .slice none 0 0] 24 (0, 0)) (by (with_reducible repeat (first | refine blk_drewN ?_ _ | refine blk_drew ?_ | refine blk_alloc ?_ _)); exact BK101.out) NB101_0.out (by simp)); have n2_ := Aside0.mk (KeepBut.blk hk (g' := gb110) (o := .cells #[.int .i64 t102, .int .i64 t106, u111002] 24 (0, 0)) (by (with_reducible repeat (first | refine blk_drewN ?_ _ | refine blk_drew ?_ | refine blk_alloc ?_ _)); exact BK110.out) NB110_0.out (by simp)); have n3_ := Aside0.mk (KeepBut.trans (by repeat (first | (with_reducible first | exact HK.out | apply KeepBut.set_ | apply keep_drewN | apply keep_drew | apply keep_alloc | refine keep_far ?_ GW101.out _ | refine keep_far ?_ GW110.out _) | exact HK.out)) hk (.inl rfl)); have n4_ := Aside0.mk (hb); have n5_ := Aside0.mk (hi); clear HO_111002; clear BK101; clear BK110; clear HK; clear HB; clear HI0; have HO_111002 := n0_; have BK101 := n1_; have BK110 := n2_; have HK := n3_; have HB := n4_; have HI0 := n5_; clear n0_ n1_ n2_ n3_ n4_ n5_; (try clear hb); (try clear hb2); (try clear hk); (try clear hi)) | ((with_reducible refine gate_callee (f := 41) rfl ?_); refine goesL_ (some 19) rfl rfl Try.func41 (by kernel_rfl) rfl #[.pointer (some ⟨g, 0, none⟩)] rfl (by (try simp only [List.map_toArray, List.map_cons, List.map_nil]); first | done | rfl | (simp only [List.length_drop, List.length_take]; rfl)) ?_; (with_reducible refine (impl_reader_number.calls k1 g t120 t121 t122 t123 t124 t125 t126 w0 _ ?side1 ?side2 A16.out).mono ?_); (case side1 => repeat (first | (with_reducible first | exact HI0.out | apply IsS66.alloc | apply IsS66.drewN | apply IsS66.drew | apply IsS66.set_0 | apply IsS66.set_1 | apply IsS66.set_2 | refine IsS66.far ?_ NB0_101.out _ | refine IsS66.far ?_ NB0_110.out _) | exact HI0.out)); (case side2 => repeat (first | (with_reducible first | exact HB.out | apply below_alloc | apply pw_below_drewN | apply below_drew1 | refine below_set ?_ (IsS66.ge HI0.out) | refine below_set ?_ GE101.out | refine below_set ?_ GE110.out) | exact HB.out)); rintro e w21 ⟨rfl, hi, hb, hk⟩; refine ⟨_, rfl, ?_⟩; have n0_ := Aside0.mk (Kd.S_mono (Kd.S_keep (IsS66.apartS (show IsS66 w0 _ g t120 t121 t122 from by repeat (first | (with_reducible first | exact HI0.out | apply IsS66.alloc | apply IsS66.drewN | apply IsS66.drew | apply IsS66.set_0 | apply IsS66.set_1 | apply IsS66.set_2 | refine IsS66.far ?_ NB0_101.out _ | refine IsS66.far ?_ NB0_110.out _) | exact HI0.out)) (by (with_reducible repeat (first | apply Kd.S_alloc | apply Kd.S_drewN | apply Kd.S_drew)); exact HO_111002.out) (by decide)) hk (fun _ h => h.2)) (fun _ h => h.1)); have n1_ := Aside0.mk (KeepBut.blk hk (g' := gb101) (o := .cells #[.int .i64 0, .int .i64 0, .slice none 0 0] 24 (0, 0)) (by (with_reducible repeat (first | refine blk_drewN ?_ _ | refine blk_drew ?_ | refine blk_alloc ?_ _)); exact BK101.out) NB101_0.out (by simp)); have n2_ := Aside0.mk (KeepBut.blk hk (g' := gb110) (o := .cells #[.int .i64 t102, .int .i64 t106, u111002] 24 (0, 0)) (by (with_reducible repeat (first | refine blk_drewN ?_ _ | refine blk_drew ?_ | refine blk_alloc ?_ _)); exact BK110.out) NB110_0.out (by simp)); have n3_ := Aside0.mk (KeepBut.trans (by repeat (first | (with_reducible first | exact HK.out | apply KeepBut.set_ | apply keep_drewN | apply keep_drew | apply keep_alloc | refine keep_far ?_ GW101.out _ | refine keep_far ?_ GW110.out _) | exact HK.out)) hk (.inl rfl)); have n4_ := Aside0.mk (hb); have n5_ := Aside0.mk (hi); clear HO_111002; clear BK101; clear BK110; clear HK; clear HB; clear HI0; have HO_111002 := n0_; have BK101 := n1_; have BK110 := n2_; have HK := n3_; have HB := n4_; have HI0 := n5_; clear n0_ n1_ n2_ n3_ n4_ n5_; (try clear hb); (try clear hb2); (try clear hk); (try clear hi)) | ((with_reducible refine gate_callee (f := 64) rfl ?_); refine goesL_ (some 21) rfl rfl Try.func64 (by kernel_rfl) rfl #[.pointer (some ⟨g, 0, none⟩)] rfl (by (try simp only [List.map_toArray, List.map_cons, List.map_nil]); first | done | rfl | (simp only [List.length_drop, List.length_take]; rfl)) ?_; (with_reducible refine (impl_reader_string.calls k1 g t124 t125 t126 t127 t128 t129 t130 w0 _ ?side1 ?side2 A17.out).mono ?_); (case side1 => repeat (first | (with_reducible first | exact HI0.out | apply IsS66.alloc | apply IsS66.drewN | apply IsS66.drew | apply IsS66.set_0 | apply IsS66.set_1 | apply IsS66.set_2 | refine IsS66.far ?_ NB0_101.out _ | refine IsS66.far ?_ NB0_110.out _) | exact HI0.out)); (case side2 => repeat (first | (with_reducible first | exact HB.out | apply below_alloc | apply pw_below_drewN | apply below_drew1 | refine below_set ?_ (IsS66.ge HI0.out) | refine below_set ?_ GE101.out | refine below_set ?_ GE110.out) | exact HB.out)); rintro e w22 ⟨rfl, hi, hb, hk⟩; refine ⟨_, rfl, ?_⟩; have n0_ := Aside0.mk (Kd.S_mono (Kd.S_keep (IsS66.apartS (show IsS66 w0 _ g t124 t125 t126 from by repeat (first | (with_reducible first | exact HI0.out | apply IsS66.alloc | apply IsS66.drewN | apply IsS66.drew | apply IsS66.set_0 | apply IsS66.set_1 | apply IsS66.set_2 | refine IsS66.far ?_ NB0_101.out _ | refine IsS66.far ?_ NB0_110.out _) | exact HI0.out)) (by (with_reducible repeat (first | apply Kd.S_alloc | apply Kd.S_drewN | apply Kd.S_drew)); exact HO_111002.out) (by decide)) hk (fun _ h => h.2)) (fun _ h => h.1)); have n1_ := Aside0.mk (KeepBut.blk hk (g' := gb101) (o := .cells #[.int .i64 0, .int .i64 0, .slice none 0 0] 24 (0, 0)) (by (with_reducible repeat (first | refine blk_drewN ?_ _ | refine blk_drew ?_ | refine blk_alloc ?_ _)); exact BK101.out) NB101_0.out (by simp)); have n2_ := Aside0.mk (KeepBut.blk hk (g' := gb110) (o := .cells #[.int .i64 t102, .int .i64 t106, u111002] 24 (0, 0)) (by (with_reducible repeat (first | refine blk_drewN ?_ _ | refine blk_drew ?_ | refine blk_alloc ?_ _)); exact BK110.out) NB110_0.out (by simp)); have n3_ := Aside0.mk (KeepBut.trans (by repeat (first | (with_reducible first | exact HK.out | apply KeepBut.set_ | apply keep_drewN | apply keep_drew | apply keep_alloc | refine keep_far ?_ GW101.out _ | refine keep_far ?_ GW110.out _) | exact HK.out)) hk (.inl rfl)); have n4_ := Aside0.mk (hb); have n5_ := Aside0.mk (hi); clear HO_111002; clear BK101; clear BK110; clear HK; clear HB; clear HI0; have HO_111002 := n0_; have BK101 := n1_; have BK110 := n2_; have HK := n3_; have HB := n4_; have HI0 := n5_; clear n0_ n1_ n2_ n3_ n4_ n5_; (try clear hb); (try clear hb2); (try clear hk); (try clear hi)) | ((with_reducible refine gate_dst (N := 4) rfl ?_); refine box_event ?hg (N := 4) ?hd (cs := #[.int .i64 0, .int .i64 0, .int .i64 0, .string (⟨#[]⟩ : ByteArray), .slice none 0 0]) (t := 88) ?hr ?_; (case hd => rfl); (case hg => rfl); (case hr => first | (go_simp; done) | (go_simp; rfl)); intro gb131 hg w23 hbox hb; have n0_ := Aside0.mk (Kd.S_below (Kd.S_elderB (by (with_reducible repeat (first | apply Kd.S_alloc | apply Kd.S_drewN | apply Kd.S_drew)); exact HO_111002.out) gb131 (Nat.le_of_eq hg.symm)) hb); have n1_ := Aside0.mk (blk_below (g := gb101) (o := .cells #[.int .i64 0, .int .i64 0, .slice none 0 0] 24 (0, 0)) (by (with_reducible repeat (first | refine blk_drewN ?_ _ | refine blk_drew ?_ | refine blk_alloc ?_ _)); exact BK101.out) hb); have n2_ := Aside0.mk (blk_below (g := gb110) (o := .cells #[.int .i64 t102, .int .i64 t106, u111002] 24 (0, 0)) (by (with_reducible repeat (first | refine blk_drewN ?_ _ | refine blk_drew ?_ | refine blk_alloc ?_ _)); exact BK110.out) hb); have n3_ := Aside0.mk (IsS66.below (by repeat (first | (with_reducible first | exact HI0.out | apply IsS66.alloc | apply IsS66.drewN | apply IsS66.drew | apply IsS66.set_0 | apply IsS66.set_1 | apply IsS66.set_2 | refine IsS66.far ?_ NB0_101.out _ | refine IsS66.far ?_ NB0_110.out _) | exact HI0.out)) hb); have n4_ := Aside0.mk (KeepBut.trans (by repeat (first | (with_reducible first | exact HK.out | apply KeepBut.set_ | apply keep_drewN | apply keep_drew | apply keep_alloc | refine keep_far ?_ GW101.out _ | refine keep_far ?_ GW110.out _) | exact HK.out)) (KeepBut.of_below hb g none) (.inl rfl)); have n5_ := Aside0.mk (below_step (by repeat (first | (with_reducible first | exact HB.out | apply below_alloc | apply pw_below_drewN | apply below_drew1 | refine below_set ?_ (IsS66.ge HI0.out) | refine below_set ?_ GE101.out | refine below_set ?_ GE110.out) | exact HB.out)) hb); have n6_ := Aside0.mk (hbox); have n7_ := Aside0.mk ((by rw [hg]; exact (keep_size (w := w) (g := g) (row := none) (by repeat (first | (with_reducible first | exact HK.out | apply KeepBut.set_ | apply keep_drewN | apply keep_drew | apply keep_alloc | refine keep_far ?_ GW101.out _ | refine keep_far ?_ GW110.out _) | exact HK.out))) : w.heap.size ≤ gb131)); have n8_ := Aside0.mk ((Nat.le_trans HW0.out (by rw [hg]; exact (keep_size (w := w) (g := g) (row := none) (by repeat (first | (with_reducible first | exact HK.out | apply KeepBut.set_ | apply keep_drewN | apply keep_drew | apply keep_alloc | refine keep_far ?_ GW101.out _ | refine keep_far ?_ GW110.out _) | exact HK.out))) : w.heap.size ≤ gb131) : w0.heap.size ≤ gb131)); have n9_ := Aside0.mk ((by rw [hg]; exact Nat.ne_of_lt (blk_lt (g := gb101) (o := .cells #[.int .i64 0, .int .i64 0, .slice none 0 0] 24 (0, 0)) (by (with_reducible repeat (first | refine blk_drewN ?_ _ | refine blk_drew ?_ | refine blk_alloc ?_ _)); exact BK101.out)) : gb101 ≠ gb131)); have n10_ := Aside0.mk ((by rw [hg]; exact Nat.ne_of_gt (blk_lt (g := gb101) (o := .cells #[.int .i64 0, .int .i64 0, .slice none 0 0] 24 (0, 0)) (by (with_reducible repeat (first | refine blk_drewN ?_ _ | refine blk_drew ?_ | refine blk_alloc ?_ _)); exact BK101.out)) : gb131 ≠ gb101)); have n11_ := Aside0.mk ((by rw [hg]; exact Nat.ne_of_lt (blk_lt (g := gb110) (o := .cells #[.int .i64 t102, .int .i64 t106, u111002] 24 (0, 0)) (by (with_reducible repeat (first | refine blk_drewN ?_ _ | refine blk_drew ?_ | refine blk_alloc ?_ _)); exact BK110.out)) : gb110 ≠ gb131)); have n12_ := Aside0.mk ((by rw [hg]; exact Nat.ne_of_gt (blk_lt (g := gb110) (o := .cells #[.int .i64 t102, .int .i64 t106, u111002] 24 (0, 0)) (by (with_reducible repeat (first | refine blk_drewN ?_ _ | refine blk_drew ?_ | refine blk_alloc ?_ _)); exact BK110.out)) : gb131 ≠ gb110)); have n13_ := Aside0.mk ((by rw [hg]; exact Nat.ne_of_lt (IsS66.lt (show IsS66 w0 _ g t128 t129 t130 from by repeat (first | (with_reducible first | exact HI0.out | apply IsS66.alloc | apply IsS66.drewN | apply IsS66.drew | apply IsS66.set_0 | apply IsS66.set_1 | apply IsS66.set_2 | refine IsS66.far ?_ NB0_101.out _ | refine IsS66.far ?_ NB0_110.out _) | exact HI0.out))) : g ≠ gb131)); have n14_ := Aside0.mk ((by rw [hg]; exact Nat.ne_of_gt (IsS66.lt (show IsS66 w0 _ g t128 t129 t130 from by repeat (first | (with_reducible first | exact HI0.out | apply IsS66.alloc | apply IsS66.drewN | apply IsS66.drew | apply IsS66.set_0 | apply IsS66.set_1 | apply IsS66.set_2 | refine IsS66.far ?_ NB0_101.out _ | refine IsS66.far ?_ NB0_110.out _) | exact HI0.out))) : gb131 ≠ g)); clear HO_111002; clear BK101; clear BK110; clear HI0; clear HK; clear HB; have HO_111002 := n0_; have BK101 := n1_; have BK110 := n2_; have HI0 := n3_; have HK := n4_; have HB := n5_; have BK131 := n6_; have GW131 := n7_; have GE131 := n8_; have NB101_131 := n9_; have NB131_101 := n10_; have NB110_131 := n11_; have NB131_110 := n12_; have NB0_131 := n13_; have NB131_0 := n14_; clear n0_ n1_ n2_ n3_ n4_ n5_ n6_ n7_ n8_ n9_ n10_ n11_ n12_ n13_ n14_; clear hb hbox hg; have hnb24 := NB131_101.out; have hnc24 := NB101_131.out; have hnb25 := NB131_110.out; have hnc25 := NB110_131.out; have hnb26 := NB131_0.out; have hnc26 := NB0_131.out; have hcz27_0 : w23.cell? ⟨gb131, 0, none⟩ = some (.int .i64 0) := (blk_cell BK131.out 0).trans rfl; have hcz27_1 : w23.cell? ⟨gb131, 1, none⟩ = some (.int .i64 0) := (blk_cell BK131.out 1).trans rfl; have hcz27_2 : w23.cell? ⟨gb131, 2, none⟩ = some (.int .i64 0) := (blk_cell BK131.out 2).trans rfl; have hcz27_3 : w23.cell? ⟨gb131, 3, none⟩ = some (.string (⟨#[]⟩ : ByteArray)) := (blk_cell BK131.out 3).trans rfl; have hcz27_4 : w23.cell? ⟨gb131, 4, none⟩ = some (.slice none 0 0) := (blk_cell BK131.out 4).trans rfl; have hfz27_0 := blk_frozen BK131.out 0; have hfz27_1 := blk_frozen BK131.out 1; have hfz27_2 := blk_frozen BK131.out 2; have hfz27_3 := blk_frozen BK131.out 3; have hfz27_4 := blk_frozen BK131.out 4) | ((with_reducible refine gate_callee (f := 63) rfl ?_); refine goesL_ (some 24) rfl rfl Try.func63 (by kernel_rfl) rfl #[.pointer (some ⟨g, 0, none⟩), .int .i64 12] rfl (by (try simp only [List.map_toArray, List.map_cons, List.map_nil]); first | done | rfl | (simp only [List.length_drop, List.length_take]; rfl)) ?_; (with_reducible refine (impl_reader_many.calls k1 g t128 t129 t130 12 t132 t133 t134 t135 w0 _ ?side1 ?side2 A18.out).mono ?_); (case side1 => repeat (first | (with_reducible first | exact HI0.out | apply IsS66.alloc | apply IsS66.drewN | apply IsS66.drew | apply IsS66.set_0 | apply IsS66.set_1 | apply IsS66.set_2 | refine IsS66.far ?_ NB0_101.out _ | refine IsS66.far ?_ NB0_110.out _ | refine IsS66.far ?_ NB0_131.out _) | exact HI0.out)); (case side2 => repeat (first | (with_reducible first | exact HB.out | apply below_alloc | apply pw_below_drewN | apply below_drew1 | refine below_set ?_ (IsS66.ge HI0.out) | refine below_set ?_ GE101.out | refine below_set ?_ GE110.out | refine below_set ?_ GE131.out) | exact HB.out)); rintro e w28 ⟨rfl, hi, hb, hk⟩; refine ⟨_, rfl, ?_⟩; have n0_ := Aside0.mk (Kd.S_mono (Kd.S_keep (IsS66.apartS (show IsS66 w0 _ g t128 t129 t130 from by repeat (first | (with_reducible first | exact HI0.out | apply IsS66.alloc | apply IsS66.drewN | apply IsS66.drew | apply IsS66.set_0 | apply IsS66.set_1 | apply IsS66.set_2 | refine IsS66.far ?_ NB0_101.out _ | refine IsS66.far ?_ NB0_110.out _ | refine IsS66.far ?_ NB0_131.out _) | exact HI0.out)) (by (with_reducible repeat (first | apply Kd.S_alloc | apply Kd.S_drewN | apply Kd.S_drew)); exact (Kd.S_mono (Kd.S_far (p := ⟨gb131, 4, none⟩) (Kd.S_far (p := ⟨gb131, 3, none⟩) (Kd.S_far (p := ⟨gb131, 2, none⟩) (Kd.S_far (p := ⟨gb131, 1, none⟩) (Kd.S_far (p := ⟨gb131, 0, none⟩) (Kd.S_mono HO_111002.out (fun k_ hk => (⟨hk, hk.2⟩ : _ ∧ k_ ≠ gb131))) (fun _ hk => hk.2) (.int .i64 t115)) (fun _ hk => hk.2) (.int .i64 t119)) (fun _ hk => hk.2) (.int .i64 t123)) (fun _ hk => hk.2) (.string t127)) (fun _ hk => hk.2) (.slice none 0 0)) (fun _ h_ => h_.1))) (by decide)) hk (fun _ h => h.2)) (fun _ h => h.1)); have n1_ := Aside0.mk (KeepBut.blk hk (g' := gb101) (o := .cells #[.int .i64 0, .int .i64 0, .slice none 0 0] 24 (0, 0)) (by (with_reducible repeat (first | refine blk_drewN ?_ _ | refine blk_drew ?_ | refine blk_alloc ?_ _)); refine blk_far ?_ NB101_131.out _; (with_reducible repeat (first | refine blk_drewN ?_ _ | refine blk_drew ?_ | refine blk_alloc ?_ _)); refine blk_far ?_ NB101_131.out _; (with_reducible repeat (first | refine blk_drewN ?_ _ | refine blk_drew ?_ | refine blk_alloc ?_ _)); refine blk_far ?_ NB101_131.out _; (with_reducible repeat (first | refine blk_drewN ?_ _ | refine blk_drew ?_ | refine blk_alloc ?_ _)); refine blk_far ?_ NB101_131.out _; (with_reducible repeat (first | refine blk_drewN ?_ _ | refine blk_drew ?_ | refine blk_alloc ?_ _)); refine blk_far ?_ NB101_131.out _; (with_reducible repeat (first | refine blk_drewN ?_ _ | refine blk_drew ?_ | refine blk_alloc ?_ _)); exact BK101.out) NB101_0.out (by simp)); have n2_ := Aside0.mk (KeepBut.blk hk (g' := gb110) (o := .cells #[.int .i64 t102, .int .i64 t106, u111002] 24 (0, 0)) (by (with_reducible repeat (first | refine blk_drewN ?_ _ | refine blk_drew ?_ | refine blk_alloc ?_ _)); refine blk_far ?_ NB110_131.out _; (with_reducible repeat (first | refine blk_drewN ?_ _ | refine blk_drew ?_ | refine blk_alloc ?_ _)); refine blk_far ?_ NB110_131.out _; (with_reducible repeat (first | refine blk_drewN ?_ _ | refine blk_drew ?_ | refine blk_alloc ?_ _)); refine blk_far ?_ NB110_131.out _; (with_reducible repeat (first | refine blk_drewN ?_ _ | refine blk_drew ?_ | refine blk_alloc ?_ _)); refine blk_far ?_ NB110_131.out _; (with_reducible repeat (first | refine blk_drewN ?_ _ | refine blk_drew ?_ | refine blk_alloc ?_ _)); refine blk_far ?_ NB110_131.out _; (with_reducible repeat (first | refine blk_drewN ?_ _ | refine blk_drew ?_ | refine blk_alloc ?_ _)); exact BK110.out) NB110_0.out (by simp)); have n3_ := Aside0.mk (KeepBut.blk hk (g' := gb131) (o := .cells #[.int .i64 t115, .int .i64 t119, .int .i64 t123, .string t127, .slice none 0 0] 88 (0, 0)) (by (with_reducible repeat (first | refine blk_drewN ?_ _ | refine blk_drew ?_ | refine blk_alloc ?_ _)); refine blk_put (cs := #[.int .i64 t115, .int .i64 t119, .int .i64 t123, .string t127, .slice none 0 0]) ?_ 4 _ rfl; (with_reducible repeat (first | refine blk_drewN ?_ _ | refine blk_drew ?_ | refine blk_alloc ?_ _)); refine blk_put (cs := #[.int .i64 t115, .int .i64 t119, .int .i64 t123, .string (⟨#[]⟩ : ByteArray), .slice none 0 0]) ?_ 3 _ rfl; (with_reducible repeat (first | refine blk_drewN ?_ _ | refine blk_drew ?_ | refine blk_alloc ?_ _)); refine blk_put (cs := #[.int .i64 t115, .int .i64 t119, .int .i64 0, .string (⟨#[]⟩ : ByteArray), .slice none 0 0]) ?_ 2 _ rfl; (with_reducible repeat (first | refine blk_drewN ?_ _ | refine blk_drew ?_ | refine blk_alloc ?_ _)); refine blk_put (cs := #[.int .i64 t115, .int .i64 0, .int .i64 0, .string (⟨#[]⟩ : ByteArray), .slice none 0 0]) ?_ 1 _ rfl; (with_reducible repeat (first | refine blk_drewN ?_ _ | refine blk_drew ?_ | refine blk_alloc ?_ _)); refine blk_put (cs := #[.int .i64 0, .int .i64 0, .int .i64 0, .string (⟨#[]⟩ : ByteArray), .slice none 0 0]) ?_ 0 _ rfl; (with_reducible repeat (first | refine blk_drewN ?_ _ | refine blk_drew ?_ | refine blk_alloc ?_ _)); exact BK131.out) NB131_0.out (by simp)); have n4_ := Aside0.mk (KeepBut.trans (by repeat (first | (with_reducible first | exact HK.out | apply KeepBut.set_ | apply keep_drewN | apply keep_drew | apply keep_alloc | refine keep_far ?_ GW101.out _ | refine keep_far ?_ GW110.out _ | refine keep_far ?_ GW131.out _) | exact HK.out)) hk (.inl rfl)); have n5_ := Aside0.mk (hb); have n6_ := Aside0.mk (hi); clear HO_111002; clear BK101; clear BK110; clear BK131; clear HK; clear HB; clear HI0; have HO_111002 := n0_; have BK101 := n1_; have BK110 := n2_; have BK131 := n3_; have HK := n4_; have HB := n5_; have HI0 := n6_; clear n0_ n1_ n2_ n3_ n4_ n5_ n6_; (try clear hb); (try clear hb2); (try clear hk); (try clear hi)))
    go_loopg [25] k1 (fun kq v25 w' => ∃ (x25_2 : Int) (x1000_2 : ByteArray) (x1001_2 : Int) (x1002_2 : Int) (x132004_2 : List Int) (u132004 : Value), v25 = .int .i64 x25_2 ∧ Aside0 (impl_reader_doc.l1 kq t111 x12_1 t132 x25_2 x1000_2 x1001_2 x1002_2 t102 t106 x111002_1 t115 t119 t123 t127 x132004_2 = some (r1, r2, r3, r4, r5, r6)) ∧ Aside0 (kq ≤ k1) ∧ Aside0 (Kd.S k88 88 w' w.heap.size (fun k_ => some k_ ≠ (u132004 : Value).ownBlock ∧ k_ ≠ gb131) u111002 x111002_1) ∧ Aside0 (Kd.R (Kd.int .i64) 3 w' w.heap.size (fun _ => True) u132004 x132004_2) ∧ Aside0 (w'.heap[gb101]? = some (.cells #[.int .i64 0, .int .i64 0, (.slice none 0 0)] 24 (0, 0))) ∧ Aside0 (w'.heap[gb110]? = some (.cells #[.int .i64 t102, .int .i64 t106, u111002] 24 (0, 0))) ∧ Aside0 (w'.heap[gb131]? = some (.cells #[.int .i64 t115, .int .i64 t119, .int .i64 t123, .string t127, u132004] 88 (0, 0))) ∧ Aside0 (IsS66 w0 w' g x1000_2 x1001_2 x1002_2) ∧ Aside0 (KeepBut w w' g none) ∧ Aside0 (Below w0.heap.size w0 w'))
    case atStart => exact ⟨(0), (t133), (t134), (t135), (([] : List Int)), (.slice none 0 0), (by first | rfl | (simp; done) | (simp [*]; done)), H', ⟨Nat.le_refl _⟩, ⟨by (with_reducible repeat (first | apply Kd.S_alloc | apply Kd.S_drewN | apply Kd.S_drew)); exact Kd.S_mono HO_111002.out (fun _ hk => ⟨(by simp [Value.ownBlock]), hk.2⟩)⟩, ⟨by first | exact Kd.R_nil _ _ _ _ _ | exact Kd.N_nil _ _ _ _ _ | exact Kd.V_nil _ _ _ _ _ | exact Kd.Q_nil _ _ _ _ _ | exact Kd.S_nil _ _ _ _ _⟩, ⟨by (with_reducible repeat (first | refine blk_drewN ?_ _ | refine blk_drew ?_ | refine blk_alloc ?_ _)); exact BK101.out⟩, ⟨by (with_reducible repeat (first | refine blk_drewN ?_ _ | refine blk_drew ?_ | refine blk_alloc ?_ _)); exact BK110.out⟩, ⟨by (with_reducible repeat (first | refine blk_drewN ?_ _ | refine blk_drew ?_ | refine blk_alloc ?_ _)); exact BK131.out⟩, ⟨by repeat (first | (with_reducible first | exact HI0.out | apply IsS66.alloc | apply IsS66.drewN | apply IsS66.drew | apply IsS66.set_0 | apply IsS66.set_1 | apply IsS66.set_2 | refine IsS66.far ?_ NB0_101.out _ | refine IsS66.far ?_ NB0_110.out _ | refine IsS66.far ?_ NB0_131.out _) | exact HI0.out)⟩, ⟨by repeat (first | (with_reducible first | exact HK.out | apply KeepBut.set_ | apply keep_drewN | apply keep_drew | apply keep_alloc | refine keep_far ?_ GW101.out _ | refine keep_far ?_ GW110.out _ | refine keep_far ?_ GW131.out _) | exact HK.out)⟩, ⟨by repeat (first | (with_reducible first | exact HB.out | apply below_alloc | apply pw_below_drewN | apply below_drew1 | refine below_set ?_ (IsS66.ge HI0.out) | refine below_set ?_ GE101.out | refine below_set ?_ GE110.out | refine below_set ?_ GE131.out) | exact HB.out)⟩⟩
    case round =>
     clear H'
     try clear c1
     try clear c2
     try clear p2
     try clear c3
     try clear c4
     try clear c6
     try clear c9
     try clear c10
     try clear c13
     try clear c13b0
     try clear c24
     try clear c25
     try clear c26
     try clear hcz11_0
     try clear hcz11_1
     try clear hcz11_2
     try clear hcz27_0
     try clear hcz27_1
     try clear hcz27_2
     try clear hcz27_3
     try clear hcz27_4
     try clear hfz11_0
     try clear hfz11_1
     try clear hfz11_2
     try clear hfz27_0
     try clear hfz27_1
     try clear hfz27_2
     try clear hfz27_3
     try clear hfz27_4
     try clear p2
     obtain ⟨x25_2, x1000_2, x1001_2, x1002_2, x132004_2, u132004, rfl, HA, HK2, HO_111002, HO_132004, BK101, BK110, BK131, HI0, HK, HB⟩ := hrel
     cases gk with
     | zero => exact absurd HA.out (by simp [impl_reader_doc.l1])
     | succ k2 =>
      have H := HA.out
      clear HA
      simp only [impl_reader_doc.l1] at H
      by_cases c29 : x25_2 < t132
      ·rw [if_pos c29] at H
       have c29b0 : decide (x25_2 < t132) = true := decide_eq_true c29
       clear c29
       replace H := Option.bind_eq_some_iff.mp H
       obtain ⟨⟨t136, t137, t138, t139⟩, A300, H⟩ := H
       replace H : (if x132004_2.length < 17592186044416 then (impl_reader_doc.l1 k2 t111 x12_1 t132 (wrap64 (x25_2 + 1)) t137 t138 t139 t102 t106 x111002_1 t115 t119 t123 t127 (x132004_2 ++ [t136])) else (none)) = some (r1, r2, r3, r4, r5, r6) := H
       have A30 := Aside0.mk A300
       clear A300
       by_cases c31 : x132004_2.length < 17592186044416
       ·rw [if_pos c31] at H
        have LMc31 := Aside0.mk c31
        clear c31
        obtain ⟨y140, hy140⟩ : ∃ y_ : List Int, y_ = (x132004_2 ++ [t136]) := ⟨_, rfl⟩
        replace H : (impl_reader_doc.l1 k2 t111 x12_1 t132 (wrap64 (x25_2 + 1)) t137 t138 t139 t102 t106 x111002_1 t115 t119 t123 t127 y140) = some (r1, r2, r3, r4, r5, r6) := by first | (rw [hy140]; with_reducible exact H) | (have H2_ := (Option.bind_some _ _).symm.trans H; rw [hy140]; with_reducible exact H2_) | (have H2_ := (Option.bind_some _ _).symm.trans H; with_reducible exact H2_) | with_reducible exact H | (rw [hy140]; exact H) | exact H
        have Ny140 := Aside0.mk hy140
        clear hy140
        have H' := Aside0.mk H
        clear H
        try go_wp2
        have n0_ := Aside0.mk (Kd.S_drew HO_111002.out)
        have n1_ := Aside0.mk (Kd.R_drew HO_132004.out)
        have n2_ := Aside0.mk (blk_drew BK101.out)
        have n3_ := Aside0.mk (blk_drew BK110.out)
        have n4_ := Aside0.mk (blk_drew BK131.out)
        have n5_ := Aside0.mk (IsS66.drew HI0.out)
        have n6_ := Aside0.mk (keep_drew HK.out)
        have n7_ := Aside0.mk (below_drew1 HB.out)
        clear HO_111002
        clear HO_132004
        clear BK101
        clear BK110
        clear BK131
        clear HI0
        clear HK
        clear HB
        have HO_111002 := n0_
        have HO_132004 := n1_
        have BK101 := n2_
        have BK110 := n3_
        have BK131 := n4_
        have HI0 := n5_
        have HK := n6_
        have HB := n7_
        clear n0_ n1_ n2_ n3_ n4_ n5_ n6_ n7_
        refine start_ (n := 8) (S := fun w' => w'.cell? ⟨gb131, 0, none⟩ = some (.int .i64 t115) ∧ w'.cell? ⟨gb131, 1, none⟩ = some (.int .i64 t119) ∧ w'.cell? ⟨gb131, 2, none⟩ = some (.int .i64 t123) ∧ w'.cell? ⟨gb131, 3, none⟩ = some (.string t127) ∧ w'.cell? ⟨gb131, 4, none⟩ = some (u132004)) (ds := [7]) #[false, false, false, false, false, false, false, false] (by kernel_rfl) rfl rfl ⟨(blk_cell BK131.out 0).trans rfl, (blk_cell BK131.out 1).trans rfl, (blk_cell BK131.out 2).trans rfl, (blk_cell BK131.out 3).trans rfl, (blk_cell BK131.out 4).trans rfl⟩ (fun hHeld => ?_); refine with_tabW impl_reader_doc.tab7 impl_reader_doc.bits7 (fun HT_ HW_ => ?_)
        generalize wr.drew = w32 at HO_111002 HO_132004 BK101 BK110 BK131 HI0 HK HB hHeld ⊢
        refine pure_ (i := 0) (N := some 27) (v := ?_) (a' := ?_) #[true, false, false, false, false, false, false, false] rfl rfl (any_of HT_.out (by kernel_rfl)) (fun _ _ _ h => h) (Or.inl ⟨by rfl, ?_⟩) ?_ ?_
        rotate_left
        ·intro w'
         go_simp
         with_reducible rfl
        rotate_left
        ·simp only [Act.put, List.setIfInBounds_toArray, List.set_cons_zero, List.set_cons_succ, i64_w, i32_w]
         rfl
        refine pure_ (i := 2) (N := some 29) (v := ?_) (a' := ?_) #[true, false, true, false, false, false, false, false] rfl rfl (any_of HT_.out (by kernel_rfl)) (fun _ _ _ h => h) (Or.inl ⟨by rfl, ?_⟩) ?_ ?_
        rotate_left
        ·intro w'
         go_simp
         with_reducible rfl
        rotate_left
        ·simp only [Act.put, List.setIfInBounds_toArray, List.set_cons_zero, List.set_cons_succ, i64_w, i32_w]
         rfl
        refine take_ (i := 1) (N := some 28) (v := ?_) (a' := ?_) #[true, true, true, false, false, false, false, false] rfl rfl (take_ofW HT_.out HW_.out (by kernel_rfl)) (fun _ _ _ h => h) (Or.inl ⟨by rfl, ?_⟩) hHeld ?_ ?_
        rotate_left
        ·rintro w' ⟨s0, s1, s2, s3, s4⟩
         go_simp
         with_reducible rfl
        rotate_left
        ·simp only [Act.put, List.setIfInBounds_toArray, List.set_cons_zero, List.set_cons_succ, i64_w, i32_w]
         rfl
        refine one_ (i := 3) (N := some 30) #[true, true, true, true, false, false, false, false] rfl rfl (one_of HT_.out (by kernel_rfl)) (by decide) (fun K hK => ?_)
        refine goes_ Try.func41 (by kernel_rfl) rfl #[.pointer (some ⟨g, 0, none⟩)] (by rfl) rfl rfl (by (try simp only [List.map_toArray, List.map_cons, List.map_nil]); first | done | rfl | (simp only [List.length_drop, List.length_take]; rfl)) ?_
        with_reducible refine (impl_reader_number.calls k2 g x1000_2 x1001_2 x1002_2 t136 t137 t138 t139 w0 _ ?side1 ?side2 A30.out).mono ?_
        (case side1 => repeat (first | (with_reducible first | exact HI0.out | apply IsS66.alloc | apply IsS66.drewN | apply IsS66.drew | apply IsS66.set_0 | apply IsS66.set_1 | apply IsS66.set_2 | refine IsS66.far ?_ NB0_101.out _ | refine IsS66.far ?_ NB0_110.out _ | refine IsS66.far ?_ NB0_131.out _) | exact HI0.out))
        (case side2 => repeat (first | (with_reducible first | exact HB.out | apply below_alloc | apply pw_below_drewN | apply below_drew1 | refine below_set ?_ (IsS66.ge HI0.out) | refine below_set ?_ GE101.out | refine below_set ?_ GE110.out | refine below_set ?_ GE131.out) | exact HB.out))
        rintro e w33 ⟨rfl, hi, hb, hk⟩
        refine ⟨_, rfl, ?_⟩
        have n0_ := Aside0.mk (Kd.S_mono (Kd.S_keep (IsS66.apartS (show IsS66 w0 _ g x1000_2 x1001_2 x1002_2 from by repeat (first | (with_reducible first | exact HI0.out | apply IsS66.alloc | apply IsS66.drewN | apply IsS66.drew | apply IsS66.set_0 | apply IsS66.set_1 | apply IsS66.set_2 | refine IsS66.far ?_ NB0_101.out _ | refine IsS66.far ?_ NB0_110.out _ | refine IsS66.far ?_ NB0_131.out _) | exact HI0.out)) (by (with_reducible repeat (first | apply Kd.S_alloc | apply Kd.S_drewN | apply Kd.S_drew)); exact HO_111002.out) (by decide)) hk (fun _ h => h.2)) (fun _ h => h.1))
        have n1_ := Aside0.mk (Kd.R_mono (Kd.R_keep (IsS66.apart (show IsS66 w0 _ g x1000_2 x1001_2 x1002_2 from by repeat (first | (with_reducible first | exact HI0.out | apply IsS66.alloc | apply IsS66.drewN | apply IsS66.drew | apply IsS66.set_0 | apply IsS66.set_1 | apply IsS66.set_2 | refine IsS66.far ?_ NB0_101.out _ | refine IsS66.far ?_ NB0_110.out _ | refine IsS66.far ?_ NB0_131.out _) | exact HI0.out)) (by (with_reducible repeat (first | apply Kd.R_alloc | apply Kd.R_drewN | apply Kd.R_drew)); exact HO_132004.out) (by decide)) hk (fun _ h => h.2)) (fun _ h => h.1))
        have n2_ := Aside0.mk (KeepBut.blk hk (g' := gb101) (o := .cells #[.int .i64 0, .int .i64 0, .slice none 0 0] 24 (0, 0)) (by (with_reducible repeat (first | refine blk_drewN ?_ _ | refine blk_drew ?_ | refine blk_alloc ?_ _)); exact BK101.out) NB101_0.out (by simp))
        have n3_ := Aside0.mk (KeepBut.blk hk (g' := gb110) (o := .cells #[.int .i64 t102, .int .i64 t106, u111002] 24 (0, 0)) (by (with_reducible repeat (first | refine blk_drewN ?_ _ | refine blk_drew ?_ | refine blk_alloc ?_ _)); exact BK110.out) NB110_0.out (by simp))
        have n4_ := Aside0.mk (KeepBut.blk hk (g' := gb131) (o := .cells #[.int .i64 t115, .int .i64 t119, .int .i64 t123, .string t127, u132004] 88 (0, 0)) (by (with_reducible repeat (first | refine blk_drewN ?_ _ | refine blk_drew ?_ | refine blk_alloc ?_ _)); exact BK131.out) NB131_0.out (by simp))
        have n5_ := Aside0.mk (KeepBut.trans (by repeat (first | (with_reducible first | exact HK.out | apply KeepBut.set_ | apply keep_drewN | apply keep_drew | apply keep_alloc | refine keep_far ?_ GW101.out _ | refine keep_far ?_ GW110.out _ | refine keep_far ?_ GW131.out _) | exact HK.out)) hk (.inl rfl))
        have n6_ := Aside0.mk (hb)
        have n7_ := Aside0.mk (hi)
        clear HO_111002
        clear HO_132004
        clear BK101
        clear BK110
        clear BK131
        clear HK
        clear HB
        clear HI0
        have HO_111002 := n0_
        have HO_132004 := n1_
        have BK101 := n2_
        have BK110 := n3_
        have BK131 := n4_
        have HK := n5_
        have HB := n6_
        have HI0 := n7_
        clear n0_ n1_ n2_ n3_ n4_ n5_ n6_ n7_
        (try clear hb)
        (try clear hb2)
        (try clear hk)
        (try clear hi)
        refine hK.out _ _ ⟨(blk_cell BK131.out 0).trans rfl, (blk_cell BK131.out 1).trans rfl, (blk_cell BK131.out 2).trans rfl, (blk_cell BK131.out 3).trans rfl, (blk_cell BK131.out 4).trans rfl⟩ (fun hHeld => ?_)
        clear hK K
        refine norm_ (a' := ?_) ?_ ?_
        rotate_left
        ·show Act.put _ (some 30) _ = _
         simp only [Act.put, List.setIfInBounds_toArray, List.set_cons_zero, List.set_cons_succ, i64_w, i32_w]
         rfl
        refine one_ (i := 4) (N := some 31) #[true, true, true, true, true, false, false, false] rfl rfl (one_of HT_.out (by kernel_rfl)) (by decide) (fun K hK => ?_)
        refine value_ (w1 := ?_) (v := ?_) (by rfl) rfl ?_ ?_
        rotate_left 2
        ·go_simp
         constructor
         ·rfl
         ·rfl
        refine hK.out _ _ ⟨(blk_cell (blk_alloc BK131.out _) 0).trans rfl, (blk_cell (blk_alloc BK131.out _) 1).trans rfl, (blk_cell (blk_alloc BK131.out _) 2).trans rfl, (blk_cell (blk_alloc BK131.out _) 3).trans rfl, (blk_cell (blk_alloc BK131.out _) 4).trans rfl⟩ (fun hHeld => ?_)
        clear hK K
        refine norm_ (a' := ?_) ?_ ?_
        rotate_left
        ·show Act.put _ (some 31) _ = _
         simp only [Act.put, List.setIfInBounds_toArray, List.set_cons_zero, List.set_cons_succ, i64_w, i32_w]
         rfl
        refine one_ (i := 5) (N := some 32) #[true, true, true, true, true, true, false, false] rfl rfl (one_of HT_.out (by kernel_rfl)) (by decide) (fun K hK => ?_)
        refine Kd.R_append_step (Kd.int .i64) w.heap.size (by rfl) (.tmp 28) (.tmp 31) 40 3 (.int .i64 0) 8 rfl Try.underlying40 info3 rfl (by decide) (by omega) u132004 x132004_2 t136 [.int .i64 t136] (fun _ => True) (fun _ => False) rfl rfl ?aP (fun _ hk => hk.elim) ?aF ?aO (Below.refl _ _) ?aS ?aL ?_
        (case aP => exact rfl)
        (case aF => exact (fun _ _ => trivial))
        (case aO => exact (by (with_reducible repeat (first | apply Kd.R_alloc | apply Kd.R_drewN | apply Kd.R_drew)); exact HO_132004.out))
        (case aS => exact (keep_size (w := w) (g := g) (row := none) (by repeat (first | (with_reducible first | exact HK.out | apply KeepBut.set_ | apply keep_drewN | apply keep_drew | apply keep_alloc | refine keep_far ?_ GW101.out _ | refine keep_far ?_ GW110.out _ | refine keep_far ?_ GW131.out _) | exact HK.out))))
        (case aL => have := LMc31.out; omega)
        intro v141 w34 ho hb hg hat
        rw [← Ny140.out] at ho
        have n0_ := Aside0.mk (Kd.S_after (ok := (fun k_ => k_ ≠ gb131)) (by (with_reducible repeat (first | apply Kd.S_alloc | apply Kd.S_drewN | apply Kd.S_drew)); exact Kd.S_mono HO_111002.out (fun _ hk => ⟨hk.2, hk.1⟩)) hg hat)
        have n1_ := Aside0.mk (blk_grown (g := gb101) (o := .cells #[.int .i64 0, .int .i64 0, .slice none 0 0] 24 (0, 0)) (by (with_reducible repeat (first | refine blk_drewN ?_ _ | refine blk_drew ?_ | refine blk_alloc ?_ _)); exact BK101.out) hg (Kd.R_ne HO_132004.out BK101.out (by decide)))
        have n2_ := Aside0.mk (blk_grown (g := gb110) (o := .cells #[.int .i64 t102, .int .i64 t106, u111002] 24 (0, 0)) (by (with_reducible repeat (first | refine blk_drewN ?_ _ | refine blk_drew ?_ | refine blk_alloc ?_ _)); exact BK110.out) hg (Kd.R_ne HO_132004.out BK110.out (by decide)))
        have n3_ := Aside0.mk (blk_grown (g := gb131) (o := .cells #[.int .i64 t115, .int .i64 t119, .int .i64 t123, .string t127, u132004] 88 (0, 0)) (by (with_reducible repeat (first | refine blk_drewN ?_ _ | refine blk_drew ?_ | refine blk_alloc ?_ _)); exact BK131.out) hg (Kd.R_ne HO_132004.out BK131.out (by decide)))
        have n4_ := Aside0.mk (IsS66.grown (by repeat (first | (with_reducible first | exact HI0.out | apply IsS66.alloc | apply IsS66.drewN | apply IsS66.drew | apply IsS66.set_0 | apply IsS66.set_1 | apply IsS66.set_2 | refine IsS66.far ?_ NB0_101.out _ | refine IsS66.far ?_ NB0_110.out _ | refine IsS66.far ?_ NB0_131.out _) | exact HI0.out)) hg (IsS66.own_ne HI0.out HO_132004.out (by decide)))
        have n5_ := Aside0.mk (below_weaken (by repeat (first | (with_reducible first | exact HB.out | apply below_alloc | apply pw_below_drewN | apply below_drew1 | refine below_set ?_ (IsS66.ge HI0.out) | refine below_set ?_ GE101.out | refine below_set ?_ GE110.out | refine below_set ?_ GE131.out) | exact HB.out)) HL.out hb)
        have n6_ := Aside0.mk (KeepBut.trans (by repeat (first | (with_reducible first | exact HK.out | apply KeepBut.set_ | apply keep_drewN | apply keep_drew | apply keep_alloc | refine keep_far ?_ GW101.out _ | refine keep_far ?_ GW110.out _ | refine keep_far ?_ GW131.out _) | exact HK.out)) (KeepBut.of_grown hg g) (Kd.R_base2 HO_132004.out))
        have n7_ := Aside0.mk (ho)
        clear HO_111002
        clear BK101
        clear BK110
        clear BK131
        clear HI0
        clear HB
        clear HK
        clear HO_132004
        have HO_111002 := n0_
        have BK101 := n1_
        have BK110 := n2_
        have BK131 := n3_
        have HI0 := n4_
        have HB := n5_
        have HK := n6_
        have HO142 := n7_
        clear n0_ n1_ n2_ n3_ n4_ n5_ n6_ n7_
        clear ho hb hg hat
        obtain ⟨Ao35, co35, eo35⟩ := Kd.R_slice HO142.out
        (first | subst eo35 | (injection eo35 with f1_ f2_ f3_; have f4_ := f1_.symm; have f5_ := f3_.symm; clear f1_ f2_ f3_; subst f4_; subst f5_))
        refine hK.out _ _ ⟨(blk_cell BK131.out 0).trans rfl, (blk_cell BK131.out 1).trans rfl, (blk_cell BK131.out 2).trans rfl, (blk_cell BK131.out 3).trans rfl, (blk_cell BK131.out 4).trans rfl⟩ (fun hHeld => ?_)
        clear hK K
        refine norm_ (a' := ?_) ?_ ?_
        rotate_left
        ·show Act.put _ (some 32) _ = _
         simp only [Act.put, List.setIfInBounds_toArray, List.set_cons_zero, List.set_cons_succ, i64_w, i32_w]
         rfl
        refine pure_ (i := 6) (N := some 33) (v := ?_) (a' := ?_) #[true, true, true, true, true, true, true, false] rfl rfl (any_of HT_.out (by kernel_rfl)) (fun _ _ _ h => h) (Or.inl ⟨by rfl, ?_⟩) ?_ ?_
        rotate_left
        ·intro w'
         go_simp
         with_reducible rfl
        rotate_left
        ·simp only [Act.put, List.setIfInBounds_toArray, List.set_cons_zero, List.set_cons_succ, i64_w, i32_w]
         rfl
        refine last_ (i := 7) (N := none) #[true, true, true, true, true, true, true, true] rfl rfl (one_of HT_.out (by kernel_rfl)) (by decide) (fun K hK => ?_)
        have hs36 : w34.cell? ⟨gb131, 4, none⟩ = some (u132004) := (blk_cell BK131.out 4).trans rfl
        have hfs36 := blk_frozen BK131.out 4
        have hns36_0 := NB101_131.out
        have hns36_1 := NB110_131.out
        have hms36_0 := NB131_101.out
        have hms36_1 := NB131_110.out
        refine skip_ (w1 := ?_) (by rfl) rfl ?_ ?_
        rotate_left
        ·go_simp
         rfl
        refine hK.out _ _ ?_
        clear hK K
        refine done_ (done_of HT_.out (by kernel_rfl)) ?_
        try go_wp2
        go_roundg k2
        case measure => have := HK1.out; have := HK2.out; omega
        case rel => exact ⟨(wrap64 (x25_2 + 1)), (t137), (t138), (t139), (y140), (.slice Ao35 y140.length co35), (by first | rfl | (simp; done) | (simp [*]; done)), H', ⟨by have := HK1.out; have := HK2.out; omega⟩, ⟨by (with_reducible repeat (first | apply Kd.S_alloc | apply Kd.S_drewN | apply Kd.S_drew)); exact Kd.S_mono (Kd.S_far (p := ⟨gb131, 4, none⟩) (Kd.S_mono HO_111002.out (fun k_ hk => (⟨hk, hk.1⟩ : _ ∧ k_ ≠ gb131))) (fun _ hk => hk.2) (.slice Ao35 y140.length co35)) (fun _ hk => ⟨hk.1.2, hk.1.1⟩)⟩, ⟨by (with_reducible repeat (first | apply Kd.R_alloc | apply Kd.R_drewN | apply Kd.R_drew)); exact Kd.R_mono (Kd.R_far (p := ⟨gb131, 4, none⟩) (Kd.R_types HO142.out BK131.out (by decide)) (fun _ hk => hk.2) (.slice Ao35 y140.length co35)) (fun _ hk => trivial)⟩, ⟨by (with_reducible repeat (first | refine blk_drewN ?_ _ | refine blk_drew ?_ | refine blk_alloc ?_ _)); refine blk_far ?_ NB101_131.out _; (with_reducible repeat (first | refine blk_drewN ?_ _ | refine blk_drew ?_ | refine blk_alloc ?_ _)); exact BK101.out⟩, ⟨by (with_reducible repeat (first | refine blk_drewN ?_ _ | refine blk_drew ?_ | refine blk_alloc ?_ _)); refine blk_far ?_ NB110_131.out _; (with_reducible repeat (first | refine blk_drewN ?_ _ | refine blk_drew ?_ | refine blk_alloc ?_ _)); exact BK110.out⟩, ⟨by (with_reducible repeat (first | refine blk_drewN ?_ _ | refine blk_drew ?_ | refine blk_alloc ?_ _)); refine blk_put (cs := #[.int .i64 t115, .int .i64 t119, .int .i64 t123, .string t127, u132004]) ?_ 4 _ rfl; (with_reducible repeat (first | refine blk_drewN ?_ _ | refine blk_drew ?_ | refine blk_alloc ?_ _)); exact BK131.out⟩, ⟨by repeat (first | (with_reducible first | exact HI0.out | apply IsS66.alloc | apply IsS66.drewN | apply IsS66.drew | apply IsS66.set_0 | apply IsS66.set_1 | apply IsS66.set_2 | refine IsS66.far ?_ NB0_101.out _ | refine IsS66.far ?_ NB0_110.out _ | refine IsS66.far ?_ NB0_131.out _) | exact HI0.out)⟩, ⟨by repeat (first | (with_reducible first | exact HK.out | apply KeepBut.set_ | apply keep_drewN | apply keep_drew | apply keep_alloc | refine keep_far ?_ GW101.out _ | refine keep_far ?_ GW110.out _ | refine keep_far ?_ GW131.out _) | exact HK.out)⟩, ⟨by repeat (first | (with_reducible first | exact HB.out | apply below_alloc | apply pw_below_drewN | apply below_drew1 | refine below_set ?_ (IsS66.ge HI0.out) | refine below_set ?_ GE101.out | refine below_set ?_ GE110.out | refine below_set ?_ GE131.out) | exact HB.out)⟩⟩
       ·rw [if_neg c31] at H
        exact absurd H (by simp)
      ·rw [if_neg c29] at H
       have c29b0 : decide (x25_2 < t132) = false := decide_eq_false c29
       clear c29
       by_cases c37 : x111002_1.length < 2199023255552
       ·rw [if_pos c37] at H
        have LMc37 := Aside0.mk c37
        clear c37
        obtain ⟨y143, hy143⟩ : ∃ y_ : List (S88), y_ = (x111002_1 ++ [(⟨t115, t119, t123, t127, x132004_2⟩ : S88)]) := ⟨_, rfl⟩
        replace H : (impl_reader_doc.l0 k2 t111 (wrap64 (x12_1 + 1)) x1000_2 x1001_2 x1002_2 t102 t106 y143) = some (r1, r2, r3, r4, r5, r6) := by first | (rw [hy143]; with_reducible exact H) | (have H2_ := (Option.bind_some _ _).symm.trans H; rw [hy143]; with_reducible exact H2_) | (have H2_ := (Option.bind_some _ _).symm.trans H; with_reducible exact H2_) | with_reducible exact H | (rw [hy143]; exact H) | exact H
        have Ny143 := Aside0.mk hy143
        clear hy143
        have H' := Aside0.mk H
        clear H
        have hnb38 := NB110_101.out
        have hnc38 := NB101_110.out
        have hnb39 := NB110_131.out
        have hnc39 := NB131_110.out
        have hnb40 := NB110_0.out
        have hnc40 := NB0_110.out
        have hcz41_0 : wr.cell? ⟨gb110, 0, none⟩ = some (.int .i64 t102) := (blk_cell BK110.out 0).trans rfl
        have hcz41_1 : wr.cell? ⟨gb110, 1, none⟩ = some (.int .i64 t106) := (blk_cell BK110.out 1).trans rfl
        have hcz41_2 : wr.cell? ⟨gb110, 2, none⟩ = some (u111002) := (blk_cell BK110.out 2).trans rfl
        have hfz41_0 := blk_frozen BK110.out 0
        have hfz41_1 := blk_frozen BK110.out 1
        have hfz41_2 := blk_frozen BK110.out 2
        have hnb42 := NB131_101.out
        have hnc42 := NB101_131.out
        have hnb43 := NB131_0.out
        have hnc43 := NB0_131.out
        have hcz44_0 : wr.cell? ⟨gb131, 0, none⟩ = some (.int .i64 t115) := (blk_cell BK131.out 0).trans rfl
        have hcz44_1 : wr.cell? ⟨gb131, 1, none⟩ = some (.int .i64 t119) := (blk_cell BK131.out 1).trans rfl
        have hcz44_2 : wr.cell? ⟨gb131, 2, none⟩ = some (.int .i64 t123) := (blk_cell BK131.out 2).trans rfl
        have hcz44_3 : wr.cell? ⟨gb131, 3, none⟩ = some (.string t127) := (blk_cell BK131.out 3).trans rfl
        have hcz44_4 : wr.cell? ⟨gb131, 4, none⟩ = some (u132004) := (blk_cell BK131.out 4).trans rfl
        have hfz44_0 := blk_frozen BK131.out 0
        have hfz44_1 := blk_frozen BK131.out 1
        have hfz44_2 := blk_frozen BK131.out 2
        have hfz44_3 := blk_frozen BK131.out 3
        have hfz44_4 := blk_frozen BK131.out 4
        obtain ⟨Ao46, co46, eo46⟩ := Kd.R_slice HO_132004.out
        subst eo46
        go_wp2_with (first | ((with_reducible refine gate_builtin (b := .append) (xs := #[.tmp 36, .tmp 38]) rfl ?_); at_builtin; refine Kd.S_append k88 w.heap.size rfl (.tmp 36) (.tmp 38) 22 88 (.agg #[(.int .i64 0), (.int .i64 0), (.int .i64 0), (.string ⟨#[]⟩), (.slice none 0 0)]) 64 rfl Try.underlying22 info88 rfl (by decide) (by omega) u111002 x111002_1 (⟨t115, t119, t123, t127, x132004_2⟩ : S88) [.int .i64 t115, .int .i64 t119, .int .i64 t123, .string t127, .slice Ao46 x132004_2.length co46] (fun k_ => k_ ≠ gb131) (fun k_ => some k_ = (.slice Ao46 x132004_2.length co46 : Value).ownBlock) rfl rfl ?aP (fun k_ hk_ => ((Kd.R_mono (ok' := fun k_ => ((fun k_ => k_ ≠ gb131)) k_ ∧ some k_ ≠ (u111002 : Value).ownBlock) (Kd.R_types (Kd.R_apart' (HO_132004.out) (Kd.S_typed HO_111002.out) (by decide)) BK131.out (by decide)) (fun k_ hk => ⟨hk.2, hk.1.2⟩))).1 k_ hk_.symm) ?aF ?aO (Below.refl _ _) ?aS ?aL ?_; (case aP => exact k88_mkM _ _ _ (⟨t115, t119, t123, t127, x132004_2⟩ : S88) (Kd.R_mono (Kd.R_tight rfl (Kd.R_mono (ok' := fun k_ => ((fun k_ => k_ ≠ gb131)) k_ ∧ some k_ ≠ (u111002 : Value).ownBlock) (Kd.R_types (Kd.R_apart' (HO_132004.out) (Kd.S_typed HO_111002.out) (by decide)) BK131.out (by decide)) (fun k_ hk => ⟨hk.2, hk.1.2⟩))) (fun _ h_ => h_))); (case aF => exact (fun k_ hk => Kd.freshB (g := gb131) (o := .cells #[.int .i64 t115, .int .i64 t119, .int .i64 t123, .string t127, .slice Ao46 x132004_2.length co46] 88 (0, 0)) (by (with_reducible repeat (first | refine blk_drewN ?_ _ | refine blk_drew ?_ | refine blk_alloc ?_ _)); exact BK131.out) k_ hk)); (case aO => exact (by (with_reducible repeat (first | apply Kd.S_alloc | apply Kd.S_drewN | apply Kd.S_drew)); exact Kd.S_mono HO_111002.out (fun k_ hk => ⟨hk.2, fun e_ => hk.1 e_⟩))); (case aS => exact (keep_size (w := w) (g := g) (row := none) (by repeat (first | (with_reducible first | exact HK.out | apply KeepBut.set_ | apply keep_drewN | apply keep_drew | apply keep_alloc | refine keep_far ?_ GW101.out _ | refine keep_far ?_ GW110.out _ | refine keep_far ?_ GW131.out _) | exact HK.out)))); (case aL => have := LMc37.out; omega); intro v144 w45 ho hb hg hat; rw [← Ny143.out] at ho; have n0_ := Aside0.mk (blk_grown (g := gb101) (o := .cells #[.int .i64 0, .int .i64 0, .slice none 0 0] 24 (0, 0)) (by (with_reducible repeat (first | refine blk_drewN ?_ _ | refine blk_drew ?_ | refine blk_alloc ?_ _)); exact BK101.out) hg (Kd.S_ne HO_111002.out BK101.out (by decide))); have n1_ := Aside0.mk (blk_grown (g := gb110) (o := .cells #[.int .i64 t102, .int .i64 t106, u111002] 24 (0, 0)) (by (with_reducible repeat (first | refine blk_drewN ?_ _ | refine blk_drew ?_ | refine blk_alloc ?_ _)); exact BK110.out) hg (Kd.S_ne HO_111002.out BK110.out (by decide))); have n2_ := Aside0.mk (blk_grown (g := gb131) (o := .cells #[.int .i64 t115, .int .i64 t119, .int .i64 t123, .string t127, .slice Ao46 x132004_2.length co46] 88 (0, 0)) (by (with_reducible repeat (first | refine blk_drewN ?_ _ | refine blk_drew ?_ | refine blk_alloc ?_ _)); exact BK131.out) hg (Kd.S_away HO_111002.out (fun _ hk => hk.2))); have n3_ := Aside0.mk (IsS66.grown (by repeat (first | (with_reducible first | exact HI0.out | apply IsS66.alloc | apply IsS66.drewN | apply IsS66.drew | apply IsS66.set_0 | apply IsS66.set_1 | apply IsS66.set_2 | refine IsS66.far ?_ NB0_101.out _ | refine IsS66.far ?_ NB0_110.out _ | refine IsS66.far ?_ NB0_131.out _) | exact HI0.out)) hg (IsS66.own_neS HI0.out HO_111002.out (by decide))); have n4_ := Aside0.mk (below_weaken (by repeat (first | (with_reducible first | exact HB.out | apply below_alloc | apply pw_below_drewN | apply below_drew1 | refine below_set ?_ (IsS66.ge HI0.out) | refine below_set ?_ GE101.out | refine below_set ?_ GE110.out | refine below_set ?_ GE131.out) | exact HB.out)) HL.out hb); have n5_ := Aside0.mk (KeepBut.trans (by repeat (first | (with_reducible first | exact HK.out | apply KeepBut.set_ | apply keep_drewN | apply keep_drew | apply keep_alloc | refine keep_far ?_ GW101.out _ | refine keep_far ?_ GW110.out _ | refine keep_far ?_ GW131.out _) | exact HK.out)) (KeepBut.of_grown hg g) (Kd.S_base2 HO_111002.out)); have n6_ := Aside0.mk (ho); clear BK101; clear BK110; clear BK131; clear HI0; clear HB; clear HK; clear HO_111002; clear HO_132004; have BK101 := n0_; have BK110 := n1_; have BK131 := n2_; have HI0 := n3_; have HB := n4_; have HK := n5_; have HO145 := n6_; clear n0_ n1_ n2_ n3_ n4_ n5_ n6_; clear ho hb hg hat; obtain ⟨Ao47, co47, eo47⟩ := Kd.S_slice HO145.out; subst eo47; have hcz48_0 : w45.cell? ⟨gb110, 0, none⟩ = some (.int .i64 t102) := (blk_cell BK110.out 0).trans rfl; have hcz48_1 : w45.cell? ⟨gb110, 1, none⟩ = some (.int .i64 t106) := (blk_cell BK110.out 1).trans rfl; have hcz48_2 : w45.cell? ⟨gb110, 2, none⟩ = some (u111002) := (blk_cell BK110.out 2).trans rfl; have hfz48_0 := blk_frozen BK110.out 0; have hfz48_1 := blk_frozen BK110.out 1; have hfz48_2 := blk_frozen BK110.out 2))
        go_roundg k2
        case measure => have := HK1.out; have := HK2.out; omega
        case rel => exact ⟨(wrap64 (x12_1 + 1)), (x1000_2), (x1001_2), (x1002_2), (y143), (.slice Ao47 y143.length co47), (by first | rfl | (simp; done) | (simp [*]; done)), H', ⟨by have := HK1.out; have := HK2.out; omega⟩, ⟨by (with_reducible repeat (first | apply Kd.S_alloc | apply Kd.S_drewN | apply Kd.S_drew)); exact Kd.S_mono (Kd.S_far (p := ⟨gb110, 2, none⟩) (Kd.S_types HO145.out BK110.out (by decide)) (fun _ hk => hk.2) (.slice Ao47 y143.length co47)) (fun _ hk => trivial)⟩, ⟨by (with_reducible repeat (first | refine blk_drewN ?_ _ | refine blk_drew ?_ | refine blk_alloc ?_ _)); refine blk_far ?_ NB101_110.out _; (with_reducible repeat (first | refine blk_drewN ?_ _ | refine blk_drew ?_ | refine blk_alloc ?_ _)); exact BK101.out⟩, ⟨by (with_reducible repeat (first | refine blk_drewN ?_ _ | refine blk_drew ?_ | refine blk_alloc ?_ _)); refine blk_put (cs := #[.int .i64 t102, .int .i64 t106, u111002]) ?_ 2 _ rfl; (with_reducible repeat (first | refine blk_drewN ?_ _ | refine blk_drew ?_ | refine blk_alloc ?_ _)); exact BK110.out⟩, ⟨by repeat (first | (with_reducible first | exact HI0.out | apply IsS66.alloc | apply IsS66.drewN | apply IsS66.drew | apply IsS66.set_0 | apply IsS66.set_1 | apply IsS66.set_2 | refine IsS66.far ?_ NB0_101.out _ | refine IsS66.far ?_ NB0_110.out _ | refine IsS66.far ?_ NB0_131.out _) | exact HI0.out)⟩, ⟨by repeat (first | (with_reducible first | exact HK.out | apply KeepBut.set_ | apply keep_drewN | apply keep_drew | apply keep_alloc | refine keep_far ?_ GW101.out _ | refine keep_far ?_ GW110.out _ | refine keep_far ?_ GW131.out _) | exact HK.out)⟩, ⟨by repeat (first | (with_reducible first | exact HB.out | apply below_alloc | apply pw_below_drewN | apply below_drew1 | refine below_set ?_ (IsS66.ge HI0.out) | refine below_set ?_ GE101.out | refine below_set ?_ GE110.out | refine below_set ?_ GE131.out) | exact HB.out)⟩⟩
       ·rw [if_neg c37] at H
        exact absurd H (by simp)
   ·rw [if_neg c13] at H
    have c13b0 : decide (x12_1 < t111) = false := decide_eq_false c13
    clear c13
    simp only [Option.some.injEq, Prod.mk.injEq] at H
    obtain ⟨rfl, rfl, rfl, rfl, rfl, rfl⟩ := H
    have hnb49 := NB110_101.out
    have hnc49 := NB101_110.out
    have hnb50 := NB110_0.out
    have hnc50 := NB0_110.out
    have hcz51_0 : wr.cell? ⟨gb110, 0, none⟩ = some (.int .i64 t102) := (blk_cell BK110.out 0).trans rfl
    have hcz51_1 : wr.cell? ⟨gb110, 1, none⟩ = some (.int .i64 t106) := (blk_cell BK110.out 1).trans rfl
    have hcz51_2 : wr.cell? ⟨gb110, 2, none⟩ = some (u111002) := (blk_cell BK110.out 2).trans rfl
    have hfz51_0 := blk_frozen BK110.out 0
    have hfz51_1 := blk_frozen BK110.out 1
    have hfz51_2 := blk_frozen BK110.out 2
    have hnb52 := NB101_0.out
    have hnc52 := NB0_101.out
    have hcz53_0 : wr.cell? ⟨gb101, 0, none⟩ = some (.int .i64 0) := (blk_cell BK101.out 0).trans rfl
    have hcz53_1 : wr.cell? ⟨gb101, 1, none⟩ = some (.int .i64 0) := (blk_cell BK101.out 1).trans rfl
    have hcz53_2 : wr.cell? ⟨gb101, 2, none⟩ = some (.slice none 0 0) := (blk_cell BK101.out 2).trans rfl
    have hfz53_0 := blk_frozen BK101.out 0
    have hfz53_1 := blk_frozen BK101.out 1
    have hfz53_2 := blk_frozen BK101.out 2
    obtain ⟨Ao54, co54, eo54⟩ := Kd.S_slice HO_111002.out
    subst eo54
    go_wp2
    refine bodyPost_ret (results_cell_row rfl _ _ gb101 24 #[.int .i64 t102, .int .i64 t106, .slice Ao54 x111002_1.length co54] (0, 0) _ rfl (by (with_reducible repeat (first | refine blk_drewN ?_ _ | refine blk_drew ?_ | refine blk_alloc ?_ _)); refine blk_put (cs := #[.int .i64 t102, .int .i64 t106, .slice none 0 0]) ?_ 2 _ rfl; (with_reducible repeat (first | refine blk_drewN ?_ _ | refine blk_drew ?_ | refine blk_alloc ?_ _)); refine blk_put (cs := #[.int .i64 t102, .int .i64 0, .slice none 0 0]) ?_ 1 _ rfl; (with_reducible repeat (first | refine blk_drewN ?_ _ | refine blk_drew ?_ | refine blk_alloc ?_ _)); refine blk_put (cs := #[.int .i64 0, .int .i64 0, .slice none 0 0]) ?_ 0 _ rfl; (with_reducible repeat (first | refine blk_drewN ?_ _ | refine blk_drew ?_ | refine blk_alloc ?_ _)); exact BK101.out) Try.underlying24 rfl (by kernel_rfl)) rfl ?_
    exact ⟨_, by first | rfl | (simp [errW_none, errW_some] <;> rfl) | (simp [*, errW_none, errW_some] <;> rfl), by (with_reducible repeat (first | apply Kd.S_alloc | apply Kd.S_drewN | apply Kd.S_drew)); exact Kd.S_mono (Kd.S_far (p := ⟨gb101, 2, none⟩) (Kd.S_far (p := ⟨gb101, 1, none⟩) (Kd.S_far (p := ⟨gb101, 0, none⟩) (Kd.S_types HO_111002.out BK101.out (by decide)) (fun _ hk => hk.2) (.int .i64 t102)) (fun _ hk => hk.2) (.int .i64 t106)) (fun _ hk => hk.2) (.slice Ao54 x111002_1.length co54)) (fun _ hk => trivial), by repeat (first | (with_reducible first | exact HI0.out | apply IsS66.alloc | apply IsS66.drewN | apply IsS66.drew | apply IsS66.set_0 | apply IsS66.set_1 | apply IsS66.set_2 | refine IsS66.far ?_ NB0_101.out _ | refine IsS66.far ?_ NB0_110.out _) | exact HI0.out), by repeat (first | (with_reducible first | exact HB.out | apply below_alloc | apply pw_below_drewN | apply below_drew1 | refine below_set ?_ (IsS66.ge HI0.out) | refine below_set ?_ GE101.out | refine below_set ?_ GE110.out) | exact HB.out), by repeat (first | (with_reducible first | exact HK.out | apply KeepBut.set_ | apply keep_drewN | apply keep_drew | apply keep_alloc | refine keep_far ?_ GW101.out _ | refine keep_far ?_ GW110.out _) | exact HK.out)⟩
end Go.Proofs.Ytfafehhallbjiaa.Q
set_option linter.unusedVariables false
set_option linter.unusedSimpArgs false
namespace Go.Proofs.Ytfafehhallbjiaa.H
open Go.RowKit Go.Proofs.YtfafehhallbjiaaW.PrintWords Go.Proofs.YtfafehhallbjiaaW.PrintLast Go.Proofs.Ytfafehhallbjiaa.Q
abbrev Nd := S88
abbrev kNd : Kd Nd := k88
abbrev rdN (ns : List Nd) (i : Int) : Nd := rd_T88 ns i
set_option maxHeartbeats 4000000 in
set_option maxRecDepth 100000 in
theorem findCmp (x : Nd) (A : Option Addr) (c : Nat) (id : Int) (w : World) :
    Calls Try.prog 122 #[.agg #[.int .i64 x.f0, .int .i64 x.f1, .int .i64 x.f2, .string x.f3, .slice A x.f4.length c], .int .i64 id] w fun e w' => e = .returned (.int .i64 (wrap64 (x.f0 - id))) ∧ Below w.heap.size w w' := by
  have hu := Try.underlying88
  go_enter Try.func122, Try.ntmps122
  go_wp2_with (first | ((with_reducible refine gate_dst (N := 2) rfl ?_); refine box_event ?hg (N := 2) ?hd (cs := #[.int .i64 x.f0, .int .i64 x.f1, .int .i64 x.f2, .string x.f3, .slice A x.f4.length c]) (t := 88) ?hr ?_; (case hd => rfl); (case hg => rfl); (case hr => first | (go_simp; done) | (go_simp; rfl)); intro g hg w1 hb1 hB1; clear hg; have hz0 : w1.cell? ⟨g, 0, none⟩ = some (.int .i64 x.f0) := (blk_cell hb1 0).trans rfl))
  go_ret
  exact ⟨rfl, hB1⟩
def Found (ns : List Nd) (id : Int) (i : Nat) (b : Bool) : Prop := (b = true ∧ i < ns.length ∧ (rdN ns i).f0 = id) ∨ (b = false ∧ ∀ t : Nat, t < ns.length → (rdN ns t).f0 ≠ id)
def Sorted (ns : List Nd) : Prop := (∀ a b : Nat, a < b → b < ns.length → (rdN ns a).f0 < (rdN ns b).f0) ∧ ∀ a : Nat, a < ns.length → 1 ≤ (rdN ns a).f0 ∧ (rdN ns a).f0 ≤ 999999
theorem cmp_neg {x id : Int} (h1 : 1 ≤ x) (h2 : x ≤ 999999) (g1 : 1 ≤ id) (g2 : id ≤ 999999) : wrap64 (x - id) < 0 ↔ x < id := by unfold wrap64; omega
theorem cmp_zero {x id : Int} (h1 : 1 ≤ x) (h2 : x ≤ 999999) (g1 : -9223372036854775808 ≤ id) (g2 : id ≤ 9223372036854775807) : wrap64 (x - id) = 0 ↔ x = id := by unfold wrap64; omega
set_option maxHeartbeats 4000000 in
set_option maxRecDepth 100000 in
theorem bsearch (ns : List Nd) (A : Option Addr) (c : Nat) (id : Int) (w : World) (hr : kNd.C w A ns.length ns) (hc : ns.length ≤ c) (hn : ns.length ≤ 4096) (hs : Sorted ns) (g1 : -9223372036854775808 ≤ id) (g2 : id ≤ 9223372036854775807) :
    Calls Try.prog 121 #[.slice A ns.length c, .int .i64 id, .func (.func 122) #[] #[]] w fun e w' => (∃ i b, e = .returned (.tuple #[.int .i64 (i : Nat), .bool b]) ∧ Found ns id i b) ∧ Below w.heap.size w w' := by
  have hu := Try.underlying88
  have HR := Lib.hid hr
  have HN := Lib.hid hn
  have HS := Lib.hid hs
  have G1 := Lib.hid (And.intro g1 g2)
  clear hr hs g1 g2
  go_enter Try.func121, Try.ntmps121
  go_wp2
  go_loopg [9, 10] ns.length (fun kx s9 s10 wr => ∃ lo hi : Nat, s9 = .int .i64 lo ∧ s10 = .int .i64 hi ∧ lo ≤ hi ∧ hi ≤ ns.length ∧ hi - lo ≤ kx ∧ Aside0 (Below w.heap.size w wr) ∧
    Aside0 ((1 ≤ id ∧ id ≤ 999999) → (∀ t : Nat, t < lo → (rdN ns t).f0 < id) ∧ (∀ t : Nat, hi ≤ t → t < ns.length → id ≤ (rdN ns t).f0)))
  case atStart => exact ⟨0, ns.length, rfl, rfl, Nat.zero_le _, Nat.le_refl _, by omega, ⟨Below.refl _ _⟩, ⟨fun _ => ⟨fun t ht => absurd ht (Nat.not_lt_zero _), fun t h1 h2 => by omega⟩⟩⟩
  case round =>
    obtain ⟨lo, hi, rfl, rfl, hlh, hin, hg, HB, I⟩ := hrel
    by_cases hlt : lo < hi
    · obtain ⟨ad, A4, c4, e4, hx0, hx1, hx2, hx3, hx4, hl4, hi4⟩ := at_T88 HR.out (((lo + hi) / 2 : Nat) : Int) (by omega) (by omega)
      cases e4
      replace hx0 := (HB.out.cell (World.block_lt_of_cell? w _ hx0)).trans hx0
      replace hx1 := (HB.out.cell (World.block_lt_of_cell? w _ hx1)).trans hx1
      replace hx2 := (HB.out.cell (World.block_lt_of_cell? w _ hx2)).trans hx2
      replace hx3 := (HB.out.cell (World.block_lt_of_cell? w _ hx3)).trans hx3
      replace hx4 := (HB.out.cell (World.block_lt_of_cell? w _ hx4)).trans hx4
      rw [Int.toNat_natCast] at hx0 hx1 hx2 hx3 hx4
      have ei : ((((lo + hi) / 2 : Nat)) : Int) = ((lo : Int) + (hi : Int)) / 2 := by omega
      obtain ⟨y, hy⟩ : ∃ y, wrap64 ((rd_T88 ns (((lo : Int) + (hi : Int)) / 2)).f0 - id) = y := ⟨_, rfl⟩
      have hcl := findCmp (rd_T88 ns (((lo : Int) + (hi : Int)) / 2)) A4 c4 id wr
      rw [hy] at hcl
      have hm : (lo + hi) / 2 < ns.length := by omega
      have r0 := HS.out.2 ((lo + hi) / 2) hm
      rw [show rdN ns (((lo + hi) / 2 : Nat) : Int) = rd_T88 ns (((lo : Int) + (hi : Int)) / 2) from by rw [← ei]] at r0
      by_cases hyx : y < 0
      · have yb : decide (y < 0) = true := decide_eq_true hyx
        have I2 : Aside0 ((1 ≤ id ∧ id ≤ 999999) → (∀ t : Nat, t < (lo + hi) / 2 + 1 → (rdN ns t).f0 < id) ∧ (∀ t : Nat, hi ≤ t → t < ns.length → id ≤ (rdN ns t).f0)) := ⟨fun gi => ⟨fun t ht => by
          have h1 := (cmp_neg r0.1 r0.2 gi.1 gi.2).1 (by rw [hy]; exact hyx)
          rw [show rd_T88 ns (((lo : Int) + (hi : Int)) / 2) = rdN ns (((lo + hi) / 2 : Nat) : Int) from by rw [← ei]] at h1
          by_cases q : t < (lo + hi) / 2
          · have := HS.out.1 t _ q hm; omega
          · obtain rfl : t = (lo + hi) / 2 := by omega
            exact h1, (I.out gi).2⟩⟩
        have HCL := Lib.hid hcl
        have R0 := Lib.hid r0
        have HY := Lib.hid hy
        clear hcl r0 hy hyx
        go_wp2_with fail
        refine HCL.out.mono ?_
        rintro e w' ⟨rfl, hb⟩
        go_wp2
        go_roundg (hi - ((lo + hi) / 2 + 1))
        case measure => omega
        case rel => exact ⟨(lo + hi) / 2 + 1, hi, by rw [show ((lo : Int) + (hi : Int)) / 2 + 1 = (((lo + hi) / 2 + 1 : Nat) : Int) by omega], rfl, by omega, hin, Nat.le_refl _, ⟨below_step HB.out hb⟩, I2⟩
      · have yb : decide (y < 0) = false := decide_eq_false hyx
        have I2 : Aside0 ((1 ≤ id ∧ id ≤ 999999) → (∀ t : Nat, t < lo → (rdN ns t).f0 < id) ∧ (∀ t : Nat, (lo + hi) / 2 ≤ t → t < ns.length → id ≤ (rdN ns t).f0)) := ⟨fun gi => ⟨(I.out gi).1, fun t ht htn => by
          have h1 : ¬ _ := fun h => hyx (by rw [← hy]; exact (cmp_neg r0.1 r0.2 gi.1 gi.2).2 h)
          rw [show rd_T88 ns (((lo : Int) + (hi : Int)) / 2) = rdN ns (((lo + hi) / 2 : Nat) : Int) from by rw [← ei]] at h1
          by_cases q : (lo + hi) / 2 < t
          · have := HS.out.1 _ t q htn; omega
          · obtain rfl : t = (lo + hi) / 2 := by omega
            omega⟩⟩
        have HCL := Lib.hid hcl
        have R0 := Lib.hid r0
        have HY := Lib.hid hy
        clear hcl r0 hy hyx
        go_wp2_with fail
        refine HCL.out.mono ?_
        rintro e w' ⟨rfl, hb⟩
        go_wp2
        go_roundg ((lo + hi) / 2 - lo)
        case measure => omega
        case rel => exact ⟨lo, (lo + hi) / 2, rfl, by rw [show ((lo : Int) + (hi : Int)) / 2 = (((lo + hi) / 2 : Nat) : Int) by omega], by omega, by omega, Nat.le_refl _, ⟨below_step HB.out hb⟩, I2⟩
    · obtain rfl : hi = lo := by omega
      by_cases hn2 : hi < ns.length
      · obtain ⟨ad, A4, c4, e4, hx0, hx1, hx2, hx3, hx4, hl4, hi4⟩ := at_T88 HR.out (hi : Int) (by omega) (by omega)
        cases e4
        replace hx0 := (HB.out.cell (World.block_lt_of_cell? w _ hx0)).trans hx0
        replace hx1 := (HB.out.cell (World.block_lt_of_cell? w _ hx1)).trans hx1
        replace hx2 := (HB.out.cell (World.block_lt_of_cell? w _ hx2)).trans hx2
        replace hx3 := (HB.out.cell (World.block_lt_of_cell? w _ hx3)).trans hx3
        replace hx4 := (HB.out.cell (World.block_lt_of_cell? w _ hx4)).trans hx4
        rw [Int.toNat_natCast] at hx0 hx1 hx2 hx3 hx4
        obtain ⟨y, hy⟩ : ∃ y, wrap64 ((rd_T88 ns (hi : Int)).f0 - id) = y := ⟨_, rfl⟩
        have hcl := findCmp (rd_T88 ns (hi : Int)) A4 c4 id wr
        rw [hy] at hcl
        have r0 := HS.out.2 hi hn2
        have HCL := Lib.hid hcl
        have cz := cmp_zero r0.1 r0.2 G1.out.1 G1.out.2
        rw [show (rdN ns (hi : Int)).f0 = (rd_T88 ns (hi : Int)).f0 from rfl, hy] at cz
        by_cases hyx : y = 0
        · have yb : (y == 0) = true := beq_iff_eq.mpr hyx
          have FD := Lib.hid (show Found ns id hi true from Or.inl ⟨rfl, hn2, cz.1 hyx⟩)
          clear hcl r0 hy hyx cz
          go_wp2_with fail
          refine HCL.out.mono ?_
          rintro e w' ⟨rfl, hb⟩
          go_wp2
          go_ret2
          exact ⟨⟨hi, true, rfl, FD.out⟩, below_step HB.out hb⟩
        · have yb : (y == 0) = false := beq_eq_false_iff_ne.mpr hyx
          have FD := Lib.hid (show Found ns id hi false from Or.inr ⟨rfl, fun t ht he => by
            have r1 := HS.out.2 t ht
            have gi : 1 ≤ id ∧ id ≤ 999999 := by omega
            have hne : (rdN ns (hi : Int)).f0 ≠ id := fun h => hyx (cz.2 h)
            have i1 := (I.out gi).1
            have i2 := (I.out gi).2 hi (Nat.le_refl _) hn2
            rcases Nat.lt_trichotomy t hi with q | q | q
            · have := i1 t q; omega
            · subst q; exact hne he
            · have := HS.out.1 hi t q ht; omega⟩)
          clear hcl r0 hy hyx cz
          go_wp2_with fail
          refine HCL.out.mono ?_
          rintro e w' ⟨rfl, hb⟩
          go_wp2
          go_ret2
          exact ⟨⟨hi, false, rfl, FD.out⟩, below_step HB.out hb⟩
      · have FD := Lib.hid (show Found ns id hi false from Or.inr ⟨rfl, fun t ht he => by
          have r1 := HS.out.2 t ht
          have gi : 1 ≤ id ∧ id ≤ 999999 := by omega
          have := (I.out gi).1 t (by omega)
          omega⟩)
        go_wp2
        go_ret2
        exact ⟨⟨hi, false, rfl, FD.out⟩, HB.out⟩
end Go.Proofs.Ytfafehhallbjiaa.H
set_option linter.unusedVariables false
set_option linter.unusedSimpArgs false
namespace Go.Proofs.Ytfafehhallbjiaa.H
open Go.RowKit Go.Proofs.YtfafehhallbjiaaW.PrintWords Go.Proofs.YtfafehhallbjiaaW.PrintLast Go.Proofs.Ytfafehhallbjiaa.Q
def IsD (w : World) (g : Nat) (root next : Int) (A : Option Addr) (c : Nat) (ns : List Nd) : Prop :=
  w.heap[g]? = some (.cells #[.int .i64 root, .int .i64 next, .slice A ns.length c] 24 (0, 0)) ∧ kNd.C w A ns.length ns ∧ ns.length ≤ c
theorem IsD.below {w w' : World} {g : Nat} {root next : Int} {A : Option Addr} {c : Nat} {ns : List Nd} (h : IsD w g root next A c ns) (hb : Below w.heap.size w w') : IsD w' g root next A c ns :=
  ⟨blk_below h.1 hb, Kd.C_below h.2.1 hb, h.2.2⟩
def Good (ns : List Nd) : Prop := ns.length ≤ 4096 ∧ Sorted ns
def I64 (x : Int) : Prop := -9223372036854775808 ≤ x ∧ x ≤ 9223372036854775807
set_option maxHeartbeats 4000000 in
set_option maxRecDepth 100000 in
theorem find_calls (g : Nat) (root next : Int) (A : Option Addr) (c : Nat) (ns : List Nd) (id : Int) (w : World) (hD : IsD w g root next A c ns) (hG : Good ns) (hi : I64 id) :
    Calls Try.prog 89 #[.pointer (some ⟨g, 0, none⟩), .int .i64 id] w fun e w' =>
      ((∃ (i : Nat) (ad : Addr), A = some ad ∧ i < ns.length ∧ (rdN ns i).f0 = id ∧ e = .returned (.pointer (some (ad.add (i * 5))))) ∨ ((∀ t : Nat, t < ns.length → (rdN ns t).f0 ≠ id) ∧ e = .returned (.pointer none))) ∧ Below w.heap.size w w' := by
  have hu := Try.underlying88
  have hu2 := Try.underlying24
  have HD := Lib.hid hD
  have HG := Lib.hid hG
  have HI := Lib.hid hi
  have hc2 : w.cell? ⟨g, 2, none⟩ = some (.slice A ns.length c) := (blk_cell hD.1 2).trans rfl
  clear hD hG hi
  go_enter Try.func89, Try.ntmps89
  go_wp2_with fail
  refine (bsearch ns A c id w HD.out.2.1 HD.out.2.2 HG.out.1 HG.out.2 HI.out.1 HI.out.2).mono ?_
  rintro e w' ⟨⟨i, b, rfl, hf⟩, hb⟩
  have hD' := HD.out.below hb
  have hz2 : w'.cell? ⟨g, 2, none⟩ = some (.slice A ns.length c) := (blk_cell hD'.1 2).trans rfl
  have HDD := Lib.hid hD'
  have HB := Lib.hid hb
  clear hD' hb hc2
  rcases hf with ⟨rfl, hin, hid⟩ | ⟨rfl, hno⟩
  · obtain ⟨ad, A4, c4, e4, hx0, hx1, hx2, hx3, hx4, hl4, hi4⟩ := at_T88 HDD.out.2.1 (i : Int) (by omega) (by omega)
    have HID := Lib.hid hid
    cases e4
    clear hx0 hx1 hx2 hx3 hx4 hl4 hi4 hid
    go_wp2
    go_ret
    exact ⟨Or.inl ⟨i, ad, rfl, hin, HID.out, rfl⟩, HB.out⟩
  · have HNO := Lib.hid hno
    clear hno
    go_wp2
    go_ret
    exact ⟨Or.inr ⟨HNO.out, rfl⟩, HB.out⟩
def hasP (ns : List Nd) (id : Int) : Bool := ns.any (fun x => x.f0 == id)
theorem rdN_get {ns : List Nd} {t : Nat} (h : t < ns.length) : rdN ns (t : Int) = ns[t] := by
  show ns.getD (t : Int).toNat _ = _
  rw [Int.toNat_natCast, List.getD_eq_getElem?_getD, List.getElem?_eq_getElem h]; rfl
theorem hasP_true {ns : List Nd} {id : Int} {t : Nat} (h : t < ns.length) (h2 : (rdN ns (t : Int)).f0 = id) : hasP ns id = true := by
  rw [rdN_get h] at h2
  exact List.any_eq_true.2 ⟨ns[t], List.getElem_mem h, by simpa using h2⟩
theorem hasP_false {ns : List Nd} {id : Int} (h : ∀ t : Nat, t < ns.length → (rdN ns (t : Int)).f0 ≠ id) : hasP ns id = false := by
  refine List.any_eq_false.2 fun x hx => ?_
  obtain ⟨t, ht, rfl⟩ := List.getElem_of_mem hx
  have := h t ht
  rw [rdN_get ht] at this
  simpa using this
theorem hasP_at {ns : List Nd} {id : Int} (h : hasP ns id = true) : ∃ t : Nat, t < ns.length ∧ (rdN ns (t : Int)).f0 = id := by
  obtain ⟨x, hx, he⟩ := List.any_eq_true.1 h
  obtain ⟨t, ht, rfl⟩ := List.getElem_of_mem hx
  exact ⟨t, ht, by rw [rdN_get ht]; simpa using he⟩
set_option maxHeartbeats 4000000 in
set_option maxRecDepth 100000 in
theorem has_calls (g : Nat) (root next : Int) (A : Option Addr) (c : Nat) (ns : List Nd) (id : Int) (w : World) (hD : IsD w g root next A c ns) (hG : Good ns) (hi : I64 id) :
    Calls Try.prog 52 #[.pointer (some ⟨g, 0, none⟩), .int .i64 id] w fun e w' => e = .returned (.bool (hasP ns id)) ∧ Below w.heap.size w w' := by
  have HD := Lib.hid hD
  have HG := Lib.hid hG
  have HI := Lib.hid hi
  clear hD hG hi
  go_enter Try.func52, Try.ntmps52
  go_wp2_with fail
  refine (find_calls g root next A c ns id w HD.out HG.out HI.out).mono ?_
  rintro e w' ⟨⟨i, ad, rfl, hin, hid, rfl⟩ | ⟨hno, rfl⟩, hb⟩
  · have HF := Lib.hid (hasP_true hin hid)
    clear hin hid HD
    go_wp2
    go_ret
    exact ⟨by rw [HF.out]; rfl, hb⟩
  · have HF := Lib.hid (hasP_false hno)
    clear hno
    go_wp2
    go_ret
    exact ⟨by rw [HF.out]; rfl, hb⟩
end Go.Proofs.Ytfafehhallbjiaa.H
set_option linter.unusedVariables false
set_option linter.unusedSimpArgs false
namespace Go.Proofs.Ytfafehhallbjiaa.H
open Go.RowKit Go.Proofs.YtfafehhallbjiaaW.PrintWords Go.Proofs.YtfafehhallbjiaaW.PrintLast Go.Proofs.YtfafehhallbjiaaW.PrintMore Go.Proofs.Ytfafehhallbjiaa.Q
attribute [local go_sem] max2_int min2_int max_two min_two
def kidsOf (ns : List Nd) (id : Int) : List Int := ((ns.find? (fun x => x.f0 == id)).map (·.f4)).getD []
def KidsIn (ns : List Nd) : Prop := ∀ t : Nat, t < ns.length → (rdN ns (t : Int)).f4.length ≤ 12 ∧ ∀ k ∈ (rdN ns (t : Int)).f4, hasP ns k = true ∧ I64 k
def depP (ns : List Nd) : Nat → Int → Int
  | 0, _ => 0
  | m + 1, id => (kidsOf ns id).foldl (fun d k => mx d (depP ns m k)) 0 + 1
theorem depP_range (ns : List Nd) : ∀ (m : Nat) (id : Int), 0 ≤ depP ns m id ∧ depP ns m id ≤ m
  | 0, _ => ⟨Int.le_refl _, Int.le_refl _⟩
  | m + 1, id => by
    have h : ∀ (l : List Int) (d : Int), 0 ≤ d ∧ d ≤ m → 0 ≤ l.foldl (fun d k => mx d (depP ns m k)) d ∧ l.foldl (fun d k => mx d (depP ns m k)) d ≤ m := by
      intro l
      induction l with
      | nil => intro d hd; exact hd
      | cons k l ih =>
        intro d hd
        refine ih _ ?_
        have := depP_range ns m k
        show 0 ≤ mx d (depP ns m k) ∧ mx d (depP ns m k) ≤ m
        unfold mx
        split <;> omega
    have := h (kidsOf ns id) 0 ⟨Int.le_refl _, by omega⟩
    unfold depP
    omega
theorem kidsOf_at {ns : List Nd} (hs : Sorted ns) {t : Nat} (h : t < ns.length) {id : Int} (he : (rdN ns (t : Int)).f0 = id) : kidsOf ns id = (rdN ns (t : Int)).f4 := by
  unfold kidsOf
  have hex : ns.find? (fun x => x.f0 == id) = some ns[t] := by
    rw [List.find?_eq_some_iff_getElem]
    rw [rdN_get h] at he
    refine ⟨by simpa using he, t, h, rfl, fun j hj => ?_⟩
    have := hs.1 j t hj h
    rw [rdN_get h, rdN_get (by omega)] at this
    simp
    intro hh
    omega
  rw [hex, rdN_get h]; rfl
theorem take_foldl (ns : List Nd) (m : Nat) (l : List Int) (i : Nat) (h : i < l.length) (d : Int) : (l.take (i + 1)).foldl (fun d k => mx d (depP ns m k)) d = mx ((l.take i).foldl (fun d k => mx d (depP ns m k)) d) (depP ns m l[i]) := by
  rw [List.take_add_one, List.getElem?_eq_getElem h, List.foldl_append]; rfl
set_option maxHeartbeats 8000000 in
set_option maxRecDepth 100000 in
theorem depth_calls (g : Nat) (root next : Int) (A : Option Addr) (c : Nat) (ns : List Nd) (hG : Good ns) (hK : KidsIn ns) : ∀ (m : Nat) (id above : Int) (w : World), above = 7 - m → m ≤ 7 → hasP ns id = true → I64 id → IsD w g root next A c ns →
    Calls Try.prog 108 #[.pointer (some ⟨g, 0, none⟩), .int .i64 id, .int .i64 above] w fun e w' => e = .returned (.int .i64 (depP ns m id)) ∧ Below w.heap.size w w' := by
  intro m
  induction m with
  | zero =>
    intro id above w ha hm hh hi hD
    obtain rfl : above = 7 := by omega
    clear hD hK ha
    go_enter Try.func108, Try.ntmps108
    go_wp2
    go_ret
    exact ⟨rfl, Below.refl _ _⟩
  | succ m ih =>
    intro id above w ha hm hh hi hD
    have hu := Try.underlying88
    have ab : decide (above > 6) = false := decide_eq_false (by omega)
    have ab2 : decide (6 < above) = false := decide_eq_false (by omega)
    have ab3 : (6 < above) = False := eq_false (by omega)
    have haw : wrap64 (above + 1) = above + 1 := by unfold wrap64; omega
    have HA := Lib.hid (show above + 1 = 7 - m by omega)
    have HM := Lib.hid hm
    have HH := Lib.hid hh
    have HI := Lib.hid hi
    have HD := Lib.hid hD
    have HG := Lib.hid hG
    have HK := Lib.hid hK
    have IH := Lib.hid ih
    clear ha hm hh hi hD hG hK ih
    go_enter Try.func108, Try.ntmps108
    go_wp2_with fail
    refine (find_calls g root next A c ns id w HD.out HG.out HI.out).mono ?_
    rintro e w1 ⟨⟨t, ad, rfl, hin, hid, rfl⟩ | ⟨hno, rfl⟩, hb⟩
    case inr => exact absurd HH.out (by rw [hasP_false hno]; decide)
    have HD1 := Lib.hid (HD.out.below hb)
    have HB1 := Lib.hid hb
    obtain ⟨ad', A4, c4, e4, hx0, hx1, hx2, hx3, hx4, hl4, hi4⟩ := at_T88 HD1.out.2.1 (t : Int) (by omega) (by omega)
    cases e4
    rw [Int.toNat_natCast] at hx0 hx1 hx2 hx3 hx4
    have HKS := Lib.hid (kidsOf_at HG.out.2 hin hid)
    have HKI := Lib.hid (HK.out t hin)
    have HT : (rdN ns (t : Int)).f4.length = (rd_T88 ns (t : Int)).f4.length := rfl
    have H4 := Lib.hid hi4
    have HL4 := Lib.hid hl4
    have HDP := Lib.hid (show depP ns (m + 1) id = (rd_T88 ns (t : Int)).f4.foldl (fun d k => mx d (depP ns m k)) 0 + 1 from by
      show (kidsOf ns id).foldl _ 0 + 1 = _
      rw [HKS.out])
    have HKI2 := Lib.hid (show ∀ k ∈ (rd_T88 ns (t : Int)).f4, hasP ns k = true ∧ I64 k from HKI.out.2)
    have HK12 := Lib.hid (show (rd_T88 ns (t : Int)).f4.length ≤ 12 from HKI.out.1)
    clear hb hi4 hl4 hid HT HKS HKI
    generalize (rd_T88 ns (t : Int)).f4 = ks at *
    generalize (rd_T88 ns (t : Int)).f0 = q0 at *
    generalize (rd_T88 ns (t : Int)).f1 = q1 at *
    generalize (rd_T88 ns (t : Int)).f2 = q2 at *
    generalize (rd_T88 ns (t : Int)).f3 = q3 at *
    go_wp2
    go_loopg [7, 19] ks.length (fun kx s7 s19 wr => ∃ i : Nat, s19 = .int .i64 i ∧ s7 = .int .i64 ((ks.take i).foldl (fun d k => mx d (depP ns m k)) 0) ∧ i ≤ ks.length ∧ ks.length - i ≤ kx ∧ Aside0 (Below w1.heap.size w1 wr))
    case atStart => exact ⟨0, rfl, rfl, Nat.zero_le _, by omega, ⟨Below.refl _ _⟩⟩
    case round =>
      obtain ⟨i, rfl, rfl, hil, hg, HB⟩ := hrel
      by_cases hlt : i < ks.length
      · obtain ⟨ak, ek, hk0⟩ := Kd.at_int H4.out (i : Int) (by omega) (by omega)
        cases ek
        replace hk0 := (HB.out.cell (World.block_lt_of_cell? w1 _ hk0)).trans hk0
        rw [Int.toNat_natCast] at hk0
        have hki := HKI2.out (ks[i]) (List.getElem_mem hlt)
        have hrd : rd ks (i : Int) = ks[i] := by unfold rd; rw [Int.toNat_natCast, List.getD_eq_getElem?_getD, List.getElem?_eq_getElem hlt]; rfl
        have TF := Lib.hid (take_foldl ns m ks i hlt 0)
        rw [hrd] at hk0
        have HKI3 := Lib.hid hki
        clear hki hrd
        generalize hkk : ks[i] = kk at *
        generalize hff : (ks.take i).foldl (fun d k => mx d (depP ns m k)) 0 = ff at *
        clear hkk hff
        obtain ⟨dd, hdd⟩ : ∃ dd, depP ns m kk = dd := ⟨_, rfl⟩
        go_wp2_with fail
        refine (IH.out kk (above + 1) wr HA.out (by have := HM.out; omega) HKI3.out.1 HKI3.out.2 (HD1.out.below HB.out)).mono ?_
        rw [hdd]
        rintro e w2 ⟨rfl, hb2⟩
        obtain ⟨xx, hxx⟩ : ∃ xx, (if ff < dd then dd else ff) = xx := ⟨_, rfl⟩
        go_wp2
        go_roundg (ks.length - (i + 1))
        case measure => omega
        case rel =>
          exact ⟨i + 1, by rw [show ((i + 1 : Nat) : Int) = (i : Int) + 1 by omega, show wrap64 ((i : Int) + 1) = (i : Int) + 1 from by have := HK12.out; exact wid (by omega) (by omega)], by rw [TF.out, hdd]; exact congrArg _ hxx.symm, by omega, Nat.le_refl _, ⟨below_step HB.out hb2⟩⟩
      · obtain rfl : i = ks.length := by omega
        rw [List.take_length]
        have hr := depP_range ns (m + 1) id
        rw [HDP.out] at hr
        have HM' := HM.out
        generalize hff : ks.foldl (fun d k => mx d (depP ns m k)) 0 = ff at *
        have hw : wrap64 (ff + 1) = ff + 1 := by unfold wrap64; omega
        have HFF := Lib.hid hff
        clear hr hff
        go_wp2
        go_ret
        exact ⟨by show Ending.returned (Value.int _ (wrap64 (ff + 1))) = _; rw [hw, HDP.out], below_step HB1.out HB.out⟩
set_option maxHeartbeats 4000000 in
set_option maxRecDepth 100000 in
theorem isDeep_calls (g : Nat) (root next : Int) (A : Option Addr) (c : Nat) (ns : List Nd) (hG : Good ns) (hK : KidsIn ns) (w : World) (hh : hasP ns root = true) (hi : I64 root) (hD : IsD w g root next A c ns) :
    Calls Try.prog 66 #[.pointer (some ⟨g, 0, none⟩)] w fun e w' => e = .returned (.bool (decide (depP ns 7 root > 6))) ∧ Below w.heap.size w w' := by
  have HD := Lib.hid hD
  have hc0 : w.cell? ⟨g, 0, none⟩ = some (.int .i64 root) := (blk_cell hD.1 0).trans rfl
  have HG := Lib.hid hG
  have HK := Lib.hid hK
  have HH := Lib.hid hh
  have HI := Lib.hid hi
  clear hD hG hK hh hi
  obtain ⟨dd, hdd⟩ : ∃ dd, depP ns 7 root = dd := ⟨_, rfl⟩
  go_enter Try.func66, Try.ntmps66
  go_wp2_with fail
  refine (depth_calls g root next A c ns HG.out HK.out 7 root 0 w (by decide) (by decide) HH.out HI.out HD.out).mono ?_
  rw [hdd]
  rintro e w2 ⟨rfl, hb2⟩
  go_wp2
  go_ret
  exact ⟨by first | rfl | simp [hdd], hb2⟩
end Go.Proofs.Ytfafehhallbjiaa.H
set_option linter.unusedVariables false
set_option linter.unusedSimpArgs false
namespace Go.Proofs.Ytfafehhallbjiaa.H
open Go.RowKit Go.Proofs.YtfafehhallbjiaaW.PrintWords Go.Proofs.YtfafehhallbjiaaW.PrintLast Go.Proofs.YtfafehhallbjiaaW.PrintMore Go.Proofs.Ytfafehhallbjiaa.Q
theorem infoI : (Try.prog.info? 3).map (fun i => (i.zero, i.size, i.bytes)) = some (some (.int .i64 0), 1, 8) := by kernel_rfl
def Fits (ns : List Nd) : Nat → Int → Prop
  | 0, _ => False
  | m + 1, id => ∀ k ∈ kidsOf ns id, Fits ns m k
def ordP (ns : List Nd) : Nat → Int → List Int
  | 0, _ => []
  | m + 1, id => id :: (kidsOf ns id).flatMap (ordP ns m)
def Kids12 (ns : List Nd) : Prop := ∀ id, (kidsOf ns id).length ≤ 12
theorem kids12 {ns : List Nd} (hK : KidsIn ns) : Kids12 ns := by
  intro id
  unfold kidsOf
  cases h : ns.find? (fun x => x.f0 == id) with
  | none => simp
  | some x =>
    obtain ⟨t, ht, rfl⟩ := List.getElem_of_mem (List.mem_of_find?_eq_some h)
    have := (hK t ht).1
    rw [rdN_get ht] at this
    exact this
theorem flat_len {f : Int → List Int} {p : Nat} (hf : ∀ k, (f k).length ≤ p) : ∀ l : List Int, (l.flatMap f).length ≤ l.length * p
  | [] => by simp
  | k :: l => by
    have h1 := hf k
    have h2 := flat_len hf l
    rw [List.flatMap_cons, List.length_append, List.length_cons, Nat.succ_mul]; omega
theorem ordP_len {ns : List Nd} (h12 : Kids12 ns) : ∀ (m : Nat) (id : Int), (ordP ns m id).length ≤ 13 ^ m
  | 0, _ => by simp [ordP]
  | m + 1, id => by
    have h1 := flat_len (ordP_len h12 m) (kidsOf ns id)
    have h2 := Nat.mul_le_mul_right (13 ^ m) (h12 id)
    have h3 : 1 ≤ 13 ^ m := Nat.one_le_pow _ _ (by decide)
    rw [ordP, List.length_cons, Nat.pow_succ]
    omega
theorem depP_fits {ns : List Nd} : ∀ (m : Nat) (id : Int), depP ns (m + 1) id ≤ m → Fits ns m id
  | 0, id, h => by
    have : (kidsOf ns id).foldl (fun d k => mx d (depP ns 0 k)) 0 + 1 ≤ ((0 : Nat) : Int) := h
    have h0 : ∀ (l : List Int) (d : Int), 0 ≤ d → 0 ≤ l.foldl (fun d k => mx d (depP ns 0 k)) d := by
      intro l
      induction l with
      | nil => intro d hd; exact hd
      | cons k l ih => intro d hd; refine ih _ ?_; show 0 ≤ mx d 0; unfold mx; split <;> omega
    have := h0 (kidsOf ns id) 0 (Int.le_refl _)
    omega
  | m + 1, id, h => by
    intro k hk
    refine depP_fits m k ?_
    have h1 : (kidsOf ns id).foldl (fun d k => mx d (depP ns (m + 1) k)) 0 + 1 ≤ ((m + 1 : Nat) : Int) := h
    have h0 : ∀ (l : List Int) (d : Int), d ≤ l.foldl (fun d k => mx d (depP ns (m + 1) k)) d ∧ ∀ k ∈ l, depP ns (m + 1) k ≤ l.foldl (fun d k => mx d (depP ns (m + 1) k)) d := by
      intro l
      induction l with
      | nil => intro d; exact ⟨Int.le_refl _, by simp⟩
      | cons a l ih =>
        intro d
        have h2 := ih (mx d (depP ns (m + 1) a))
        have h3 : d ≤ mx d (depP ns (m + 1) a) ∧ depP ns (m + 1) a ≤ mx d (depP ns (m + 1) a) := by unfold mx; split <;> omega
        refine ⟨Int.le_trans h3.1 h2.1, fun x hx => ?_⟩
        rcases List.mem_cons.1 hx with rfl | hx
        · exact Int.le_trans h3.2 h2.1
        · exact h2.2 x hx
    have := (h0 (kidsOf ns id) 0).2 k hk
    omega
theorem take_flat {f : Int → List Int} (l : List Int) (i : Nat) (h : i < l.length) : (l.take (i + 1)).flatMap f = (l.take i).flatMap f ++ f l[i] := by
  rw [List.take_add_one, List.getElem?_eq_getElem h, List.flatMap_append]; simp
set_option maxHeartbeats 8000000 in
set_option maxRecDepth 100000 in
theorem order_calls (g : Nat) (root next : Int) (A : Option Addr) (c : Nat) (ns : List Nd) (hG : Good ns) (hK : KidsIn ns) (w0 : World) (hC : kNd.C w0 A ns.length ns) (hc : ns.length ≤ c) : ∀ (m : Nat) (id : Int) (v : Value) (xs : List Int) (w : World), Fits ns m id → hasP ns id = true → I64 id →
    Below w0.heap.size w0 w → w.heap[g]? = some (.cells #[.int .i64 root, .int .i64 next, .slice A ns.length c] 24 (0, 0)) → (Kd.int .i64).R 3 w w0.heap.size (fun _ => True) v xs → xs.length + 13 ^ m ≤ 1000000000 →
    Calls Try.prog 67 #[.pointer (some ⟨g, 0, none⟩), v, .int .i64 id] w fun e w' => ∃ v1, e = .returned v1 ∧ (Kd.int .i64).R 3 w' w0.heap.size (fun _ => True) v1 (xs ++ ordP ns m id) ∧ Below w0.heap.size w0 w' ∧ w'.heap[g]? = some (.cells #[.int .i64 root, .int .i64 next, .slice A ns.length c] 24 (0, 0)) := by
  intro m
  induction m with
  | zero => intro id v xs w h; exact h.elim
  | succ m ih =>
    intro id v xs w hf hh hi hb hbk hr hl
    have hu := Try.underlying88
    have HC := Lib.hid hC
    have HG := Lib.hid hG
    have HK := Lib.hid hK
    have HF := Lib.hid hf
    have HH := Lib.hid hh
    have HI := Lib.hid hi
    have HB := Lib.hid hb
    have BK := Lib.hid hbk
    have HR := Lib.hid hr
    have HL := Lib.hid hl
    have IH := Lib.hid ih
    clear hG hK hC hf hh hi hb hbk hr hl ih
    have HS := Lib.hid HB.out.size
    have hp1 : 1 ≤ 13 ^ m := Nat.one_le_pow _ _ (by decide)
    have hxl : xs.length ≤ 1000000000 := by have := HL.out; rw [Nat.pow_succ] at this; omega
    have HX := Lib.hid hxl
    clear hxl
    go_enter Try.func67, Try.ntmps67
    go_wp2_with (first | ((with_reducible refine gate_builtin (b := .append) (xs := #[.tmp 9, .tmp 11]) rfl ?_); at_builtin; refine Kd.R_append (Kd.int .i64) (w0 := w0) w0.heap.size rfl (.tmp 9) (.tmp 11) 40 3 (.int .i64 0) 8 rfl Try.underlying40 infoI rfl (by decide) (by omega) v xs id [.int .i64 id] (fun _ => True) (fun _ => False) rfl rfl ?aP (fun _ hk => hk.elim) ?aF ?aO ?aB ?aS ?aL ?_; (case aP => exact rfl); (case aB => exact (by with_reducible repeat (first | exact HB.out | apply below_alloc | apply pw_below_drewN | apply below_drew1))); (case aF => exact (fun _ _ => trivial)); (case aO => exact (by (with_reducible repeat (first | apply Kd.R_alloc | apply Kd.R_drewN | apply Kd.R_drew)); exact HR.out)); (case aS => exact (below_size (by with_reducible repeat (first | exact HB.out | apply below_alloc | apply pw_below_drewN | apply below_drew1)))); (case aL => have := HX.out; omega); intro v1 w1 ho hb hg hat; have n0_ := Lib.hid (blk_grown (g := g) (o := .cells #[.int .i64 root, .int .i64 next, .slice A ns.length c] 24 (0, 0)) (by (with_reducible repeat (first | refine blk_drewN ?_ _ | refine blk_drew ?_ | refine blk_alloc ?_ _)); exact BK.out) hg (Kd.R_ne HR.out BK.out (by decide))); clear BK HB HR; have BK := n0_; have HB := Lib.hid hb; have HR := Lib.hid ho; clear n0_ ho hb hg hat))
    refine (find_calls g root next A c ns id w1 ⟨BK.out, Kd.C_below HC.out HB.out, hc⟩ HG.out HI.out).mono ?_
    rintro e w2 ⟨⟨t, ad, rfl, hin, hid, rfl⟩ | ⟨hno, rfl⟩, hb⟩
    case inr => exact absurd HH.out (by rw [hasP_false hno]; decide)
    have BK2 := Lib.hid (blk_below BK.out hb)
    have HB2 := Lib.hid (HB.out.trans (hb.mono HB.out.size))
    have HR2 := Lib.hid (Kd.R_below HR.out hb)
    clear BK HB HR hb
    obtain ⟨ad', A4, c4, e4, hx0, hx1, hx2, hx3, hx4, hl4, hi4⟩ := at_T88 HC.out (t : Int) (by omega) (by omega)
    cases e4
    rw [Int.toNat_natCast] at hx0 hx1 hx2 hx3 hx4
    replace hx0 := (HB2.out.cell (World.block_lt_of_cell? w0 _ hx0)).trans hx0
    replace hx1 := (HB2.out.cell (World.block_lt_of_cell? w0 _ hx1)).trans hx1
    replace hx2 := (HB2.out.cell (World.block_lt_of_cell? w0 _ hx2)).trans hx2
    replace hx3 := (HB2.out.cell (World.block_lt_of_cell? w0 _ hx3)).trans hx3
    replace hx4 := (HB2.out.cell (World.block_lt_of_cell? w0 _ hx4)).trans hx4
    have HKS := Lib.hid (kidsOf_at HG.out.2 hin hid)
    have HT := HK.out t hin
    have H4 := Lib.hid hi4
    have HL4 := Lib.hid hl4
    have HOP := Lib.hid (show ordP ns (m + 1) id = id :: (rd_T88 ns (t : Int)).f4.flatMap (ordP ns m) from by
      show id :: (kidsOf ns id).flatMap _ = _
      rw [HKS.out])
    have HFI := Lib.hid (show ∀ k ∈ (rd_T88 ns (t : Int)).f4, Fits ns m k from by
      intro k hk
      exact HF.out k (by rw [HKS.out]; exact hk))
    have HKI := Lib.hid (show ∀ k ∈ (rd_T88 ns (t : Int)).f4, hasP ns k = true ∧ I64 k from HT.2)
    have HK12 := Lib.hid (show (rd_T88 ns (t : Int)).f4.length ≤ 12 from HT.1)
    have HP := Lib.hid hp1
    clear hi4 hl4 hid HT HKS HF hp1
    generalize (rd_T88 ns (t : Int)).f4 = ks at *
    generalize (rd_T88 ns (t : Int)).f0 = q0 at *
    generalize (rd_T88 ns (t : Int)).f1 = q1 at *
    generalize (rd_T88 ns (t : Int)).f2 = q2 at *
    generalize (rd_T88 ns (t : Int)).f3 = q3 at *
    go_wp2
    go_loopg [1, 20] ks.length (fun kx s1 s20 wr => ∃ i : Nat, s20 = .int .i64 i ∧ i ≤ ks.length ∧ ks.length - i ≤ kx ∧ Aside0 ((Kd.int .i64).R 3 wr w0.heap.size (fun _ => True) s1 (xs ++ id :: (ks.take i).flatMap (ordP ns m))) ∧ Aside0 (Below w0.heap.size w0 wr) ∧ Aside0 (wr.heap[g]? = some (.cells #[.int .i64 root, .int .i64 next, .slice (some ad) ns.length c] 24 (0, 0))))
    case atStart => exact ⟨0, rfl, Nat.zero_le _, by omega, ⟨HR2.out⟩, ⟨HB2.out⟩, ⟨BK2.out⟩⟩
    case round =>
      clear HR2 HB2 BK2 hx0 hx1 hx2 hx3 hx4
      obtain ⟨i, rfl, hil, hg, HR, HB, BK⟩ := hrel
      by_cases hlt : i < ks.length
      · obtain ⟨ak, ek, hk0⟩ := Kd.at_int H4.out (i : Int) (by omega) (by omega)
        cases ek
        replace hk0 := (HB.out.cell (World.block_lt_of_cell? w0 _ hk0)).trans hk0
        rw [Int.toNat_natCast] at hk0
        have hki := HKI.out (ks[i]) (List.getElem_mem hlt)
        have HFK := Lib.hid (HFI.out (ks[i]) (List.getElem_mem hlt))
        have hrd : rd ks (i : Int) = ks[i] := by unfold rd; rw [Int.toNat_natCast, List.getD_eq_getElem?_getD, List.getElem?_eq_getElem hlt]; rfl
        have TF := Lib.hid (take_flat (f := ordP ns m) ks i hlt)
        have hlen : (xs ++ id :: (ks.take i).flatMap (ordP ns m)).length + 13 ^ m ≤ 1000000000 := by
          have h1 := flat_len (ordP_len (kids12 HK.out) m) (ks.take i)
          have h2 : (ks.take i).length ≤ 11 := by have := HK12.out; rw [List.length_take]; omega
          have h3 := Nat.mul_le_mul_right (13 ^ m) h2
          have h4 := HL.out
          have h5 := HP.out
          rw [Nat.pow_succ] at h4
          rw [List.length_append, List.length_cons]
          omega
        rw [hrd] at hk0
        have HKI3 := Lib.hid hki
        have HLE := Lib.hid hlen
        clear hki hrd hlen
        generalize hkk : ks[i] = kk at *
        clear hkk
        go_wp2_with fail
        refine (IH.out kk _ _ wr HFK.out HKI3.out.1 HKI3.out.2 HB.out BK.out HR.out HLE.out).mono ?_
        rintro e w2 ⟨v2, rfl, hr2, hb2, bk2⟩
        have HR3 := Lib.hid hr2
        have HB3 := Lib.hid hb2
        have BK3 := Lib.hid bk2
        clear hr2 hb2 bk2
        go_wp2
        go_roundg (ks.length - (i + 1))
        case measure => omega
        case rel =>
          exact ⟨i + 1, by rw [show ((i + 1 : Nat) : Int) = (i : Int) + 1 by omega, show wrap64 ((i : Int) + 1) = (i : Int) + 1 from by have := HK12.out; exact wid (by omega) (by omega)], by omega, Nat.le_refl _, ⟨by rw [TF.out]; have := HR3.out; rwa [List.append_assoc, List.cons_append] at this⟩, ⟨HB3.out⟩, ⟨BK3.out⟩⟩
      · obtain rfl : i = ks.length := by omega
        rw [List.take_length] at HR
        go_wp2
        go_ret
        exact ⟨_, rfl, by rw [HOP.out]; exact HR.out, HB.out, BK.out⟩
end Go.Proofs.Ytfafehhallbjiaa.H
namespace Go.Proofs.Ytfafehhallbjiaa.H
open Go.RowKit Go.Maps
theorem lookup_bool {H : Type} {P : Program} (w : World) {ops : Array Oper} {rest : List Oper} {o : Oper} {a : Act} {Q : Exit → Act → World → Prop}
    (hg : o.guard = none) (m x : Operand) (t : TypeId) (hop : o.op = Op.lookup t m x false)
    (k e : TypeId) (K : Keyed P k) (ht : P.underlying t = some (.map k e)) (he : P.underlying e = some .bool) (hz : (zeroValue e).run P w = .ok (.bool false) w) (b n : Nat) (D : DataW H)
    (hm : a.eval m = .map (some b)) (hown : w.ownsMap P k (plainElem P e) b n D) (key : Value) (kl : Lit) (hx : a.eval x = key) (hkey : keyOf P k key = some kl) (c : Bool)
    (hc : D.atKey kl (.lit (.bool false)) = .lit (.bool c)) (h : wpList P ops Q rest (a.put o.dst (.bool c)) w) : wpList P ops Q (o :: rest) a w := by
  refine wpList_plain hg fun K' hK' => ?_
  obtain ⟨v, ps, hrun, hv⟩ := hown.lookup K ht hz (plainElem_bool he false) hkey
  rw [hc] at hv
  have hv2 : v = .bool c := by
    unfold plainElem at hv
    rw [he] at hv
    cases v <;> simp at hv
    rw [hv.1]
  subst hv2
  unfold Oper.wp
  simp [execOp, hop, hm, hx, hrun, Result.andThen]
  exact hK' _ _ h
def setD (acc : List Int) : DataW Unit := setOf (.lit (.bool true)) (acc.map (Lit.int .i64))
theorem setD_snoc (acc : List Int) (x : Int) : setD (acc ++ [x]) = (setD acc).put (.int .i64 x) (.lit (.bool true)) := by unfold setD; rw [List.map_append, List.map_cons, List.map_nil, setOf_snoc]
theorem keys_ok (acc : List Int) : ∀ x ∈ acc.map (Lit.int .i64), WideAt.IsKeyLit x := by
  intro x hx
  obtain ⟨y, _, rfl⟩ := List.mem_map.1 hx
  simp [WideAt.IsKeyLit]
theorem setD_tidy (acc : List Int) : Tidy (setD acc) := tidy_setOf _ _ (keys_ok acc)
theorem rev_rec {P : List Int → Prop} (h0 : P []) (h1 : ∀ l x, P l → P (l ++ [x])) (l : List Int) : P l := by
  rw [← List.reverse_reverse l]
  generalize l.reverse = m
  induction m with
  | nil => exact h0
  | cons x m ih => rw [List.reverse_cons]; exact h1 _ _ ih
theorem setD_at (acc : List Int) (k : Int) : (setD acc).atKey (.int .i64 k) (.lit (.bool false)) = .lit (.bool (decide (k ∈ acc))) := by
  refine rev_rec (P := fun acc => (setD acc).atKey (.int .i64 k) (.lit (.bool false)) = .lit (.bool (decide (k ∈ acc)))) ?_ ?_ acc
  · rfl
  · intro acc x ih
    rw [setD_snoc]
    by_cases e : k = x
    · subst e
      rw [atKey_put_same (k := Lit.int .i64 k) (setD_tidy acc).isMap trivial]
      simp
    · rw [atKey_put_other (by simpa using e), ih]
      simp [e]
theorem setD_size (acc : List Int) (h : acc.Nodup) : size (setD acc) = acc.length := by
  refine rev_rec (P := fun acc => acc.Nodup → size (setD acc) = acc.length) ?_ ?_ acc h
  · intro _; rfl
  · intro acc x ih h
    rw [List.nodup_append] at h
    have hx : has (setD acc) (.int .i64 x) = false := by
      unfold setD
      rw [has_setOf _ _ _ (keys_ok acc)]
      refine List.any_eq_false.2 fun y hy => ?_
      obtain ⟨z, hz, rfl⟩ := List.mem_map.1 hy
      have hne : z ≠ x := h.2.2 z hz x (by simp)
      rw [sameKey_ne (by simpa using hne)]
      simp
    rw [setD_snoc, size_put (setD_tidy acc), hx, ih h.1]
    simp
end Go.Proofs.Ytfafehhallbjiaa.H
set_option linter.unusedVariables false
set_option linter.unusedSimpArgs false
namespace Go.Proofs.Ytfafehhallbjiaa.H
open Go.RowKit Go.Proofs.YtfafehhallbjiaaW.PrintWords Go.Proofs.YtfafehhallbjiaaW.PrintLast Go.Proofs.YtfafehhallbjiaaW.PrintMore Go.Proofs.Ytfafehhallbjiaa.Q
theorem within_f (a b c : Int) : impl_within.f a b c = some (decide (b ≤ a ∧ a ≤ c)) := by
  unfold impl_within.f
  by_cases h : a ≥ b
  · rw [if_pos h]; congr 1; simp; omega
  · rw [if_neg h]; congr 1; simp; omega
theorem within_c (a b c : Int) (w : World) {r : Bool} (h : decide (b ≤ a ∧ a ≤ c) = r) : Calls Try.prog 65 #[.int .i64 a, .int .i64 b, .int .i64 c] w fun e w' => e = .returned (.bool r) ∧ ∃ m, w' = w.drewN m := by
  refine (impl_within.calls a b c r w (by rw [within_f, h])).mono ?_
  rintro e w' ⟨rfl, nd, rfl⟩
  exact ⟨rfl, nd, rfl⟩
theorem s5 {w : World} {g T : Nat} {c0 c1 c2 c3 c4 : Value} (h : w.heap[g]? = some (.cells #[c0, c1, c2, c3, c4] T (0, 0))) (v0 v1 v2 v3 v4 : Value) : (((((w.setCell ⟨g, 0, none⟩ v0).setCell ⟨g, 1, none⟩ v1).setCell ⟨g, 2, none⟩ v2).setCell ⟨g, 3, none⟩ v3).setCell ⟨g, 4, none⟩ v4).heap[g]? = some (.cells #[v0, v1, v2, v3, v4] T (0, 0)) := by
  replace h : (w.setCell ⟨g, 0, none⟩ v0).heap[g]? = some (.cells #[v0, c1, c2, c3, c4] T (0, 0)) := blk_put h 0 v0 rfl
  generalize w.setCell ⟨g, 0, none⟩ v0 = w at h ⊢
  replace h : (w.setCell ⟨g, 1, none⟩ v1).heap[g]? = some (.cells #[v0, v1, c2, c3, c4] T (0, 0)) := blk_put h 1 v1 rfl
  generalize w.setCell ⟨g, 1, none⟩ v1 = w at h ⊢
  replace h : (w.setCell ⟨g, 2, none⟩ v2).heap[g]? = some (.cells #[v0, v1, v2, c3, c4] T (0, 0)) := blk_put h 2 v2 rfl
  generalize w.setCell ⟨g, 2, none⟩ v2 = w at h ⊢
  replace h : (w.setCell ⟨g, 3, none⟩ v3).heap[g]? = some (.cells #[v0, v1, v2, v3, c4] T (0, 0)) := blk_put h 3 v3 rfl
  generalize w.setCell ⟨g, 3, none⟩ v3 = w at h ⊢
  exact blk_put h 4 v4 rfl
theorem s5_far {w : World} {g g2 T : Nat} {cs : Array Value} (h : w.heap[g2]? = some (.cells cs T (0, 0))) (hne : g2 ≠ g) (v0 v1 v2 v3 v4 : Value) : (((((w.setCell ⟨g, 0, none⟩ v0).setCell ⟨g, 1, none⟩ v1).setCell ⟨g, 2, none⟩ v2).setCell ⟨g, 3, none⟩ v3).setCell ⟨g, 4, none⟩ v4).heap[g2]? = some (.cells cs T (0, 0)) :=
  blk_far (blk_far (blk_far (blk_far (blk_far h (p := ⟨g, 0, none⟩) hne _) (p := ⟨g, 1, none⟩) hne _) (p := ⟨g, 2, none⟩) hne _) (p := ⟨g, 3, none⟩) hne _) (p := ⟨g, 4, none⟩) hne _
theorem s5_below {w0 w : World} {g : Nat} {B : Nat} (h : Below B w0 w) (hg : B ≤ g) (v0 v1 v2 v3 v4 : Value) : Below B w0 (((((w.setCell ⟨g, 0, none⟩ v0).setCell ⟨g, 1, none⟩ v1).setCell ⟨g, 2, none⟩ v2).setCell ⟨g, 3, none⟩ v3).setCell ⟨g, 4, none⟩ v4) :=
  ((((h.setCell (p := ⟨g, 0, none⟩) hg v0).setCell (p := ⟨g, 1, none⟩) hg v1).setCell (p := ⟨g, 2, none⟩) hg v2).setCell (p := ⟨g, 3, none⟩) hg v3).setCell (p := ⟨g, 4, none⟩) hg v4
def NodeOK (next : Int) (x : Nd) : Prop := (1 ≤ x.f0 ∧ x.f0 ≤ next - 1) ∧ (1 ≤ x.f1 ∧ x.f1 ≤ 8) ∧ (0 ≤ x.f2 ∧ x.f2 ≤ 99) ∧ x.f3.size ≤ 20 ∧ x.f4.length ≤ 12
def StepOK (next : Int) (ns : List Nd) (t : Nat) : Prop := NodeOK next (rdN ns (t : Int)) ∧ ∀ y : Nat, y + 1 = t → (rdN ns (y : Int)).f0 < (rdN ns (t : Int)).f0
def kidsAll (ns : List Nd) : List Int := ns.flatMap (·.f4)
def SetOK (root : Int) (ns : List Nd) (ks : List Int) : Prop := ks.Nodup ∧ ∀ k ∈ ks, k ≠ root ∧ hasP ns k = true
def DOK (root next : Int) (ns : List Nd) : Prop :=
  (1 ≤ ns.length ∧ ns.length ≤ 40) ∧ (2 ≤ next ∧ next ≤ 999999) ∧ (∀ t : Nat, t < ns.length → StepOK next ns t) ∧ SetOK root ns (kidsAll ns) ∧
    (hasP ns root = true ∧ (kidsAll ns).length + 1 = ns.length ∧ depP ns 7 root ≤ 6) ∧ (ordP ns 6 root).length = ns.length
def All64 (root : Int) (ns : List Nd) : Prop := I64 root ∧ ∀ t : Nat, t < ns.length → ∀ k ∈ (rdN ns (t : Int)).f4, I64 k
def Bk (b : Bool) (P : Prop) : Prop := b = true ↔ P
theorem w64_nat {i : Nat} (h : i ≤ 4096) : wrap64 ((i : Int) + 1) = ((i + 1 : Nat) : Int) := by unfold wrap64; omega
theorem wf64 {x : Int} (h : I64 x) : (Lit.int .i64 x).wf = true := by
  have e1 : IntKind.i64.min = -9223372036854775808 := rfl
  have e2 : IntKind.i64.max = 9223372036854775807 := rfl
  obtain ⟨h1, h2⟩ := h
  simp [Lit.wf, e1, e2]
  omega
theorem good_of {next : Int} {ns : List Nd} (hn : next ≤ 999999) (hl : ns.length ≤ 40) (h : ∀ t : Nat, t < ns.length → StepOK next ns t) : Good ns := by
  refine ⟨by omega, fun a b hab hb => ?_, fun a ha => ?_⟩
  · induction b with
    | zero => omega
    | succ b ih =>
      have h1 := (h (b + 1) hb).2 b rfl
      by_cases q : a = b
      · subst q; exact h1
      · exact Int.lt_trans (ih (by omega) (by omega)) h1
  · have := (h a ha).1.1
    omega
def kidsTo (ns : List Nd) (j : Nat) : List Int := (ns.take j).flatMap (·.f4)
theorem kidsTo_all (ns : List Nd) : kidsTo ns ns.length = kidsAll ns := by unfold kidsTo kidsAll; rw [List.take_length]
theorem kidsTo_step {ns : List Nd} {j : Nat} (h : j < ns.length) : kidsTo ns (j + 1) = kidsTo ns j ++ (rdN ns (j : Int)).f4 := by
  unfold kidsTo
  rw [List.take_add_one, List.getElem?_eq_getElem h, List.flatMap_append, rdN_get h]; simp
theorem kids_split {ns : List Nd} {j i : Nat} (h : j < ns.length) (hi : i < (rdN ns (j : Int)).f4.length) : ∃ rest, kidsAll ns = (kidsTo ns j ++ (rdN ns (j : Int)).f4.take i) ++ (rdN ns (j : Int)).f4[i] :: rest := by
  refine ⟨(rdN ns (j : Int)).f4.drop (i + 1) ++ (ns.drop (j + 1)).flatMap (·.f4), ?_⟩
  have e1 : kidsAll ns = kidsTo ns (j + 1) ++ (ns.drop (j + 1)).flatMap (·.f4) := by
    unfold kidsTo kidsAll
    rw [← List.flatMap_append, List.take_append_drop]
  rw [e1, kidsTo_step h, List.append_assoc, List.append_assoc, ← List.cons_append, ← List.drop_eq_getElem_cons hi, ← List.append_assoc (List.take i _), List.take_append_drop]
theorem set_bad {root : Int} {ns : List Nd} {acc rest : List Int} {k : Int} (h : SetOK root ns (acc ++ k :: rest)) : k ∉ acc ∧ k ≠ root ∧ hasP ns k = true := by
  refine ⟨fun hk => ?_, h.2 k (by simp)⟩
  have := (List.nodup_append.1 h.1).2.2 k hk k (by simp)
  exact this rfl
theorem set_step {root : Int} {ns : List Nd} {acc : List Int} {k : Int} (h : SetOK root ns acc) (h1 : k ∉ acc) (h2 : k ≠ root) (h3 : hasP ns k = true) : SetOK root ns (acc ++ [k]) := by
  refine ⟨List.nodup_append.2 ⟨h.1, by simp, fun a ha b hb => ?_⟩, fun x hx => ?_⟩
  · obtain rfl : b = k := by simpa using hb
    exact fun e => h1 (e ▸ ha)
  · rcases List.mem_append.1 hx with hx | hx
    · exact h.2 x hx
    · obtain rfl : x = k := by simpa using hx
      exact ⟨h2, h3⟩
theorem lawI : Maps.Keyed Try.prog 3 := Maps.int_keyed Try.underlying3
theorem zeroB (w : World) : (zeroValue 4).run Try.prog w = .ok (.bool false) w := by kernel_rfl
def IsSet (w : World) (b n : Nat) (acc : List Int) : Prop := w.ownsMap Try.prog 3 (plainElem (H := Unit) Try.prog 4) b n (setD acc)
theorem IsSet.of_block {w w' : World} {b n : Nat} {acc : List Int} (h : IsSet w b n acc) (e : w'.heap[b]? = w.heap[b]?) : IsSet w' b n acc := by
  obtain ⟨es, clock, hb, r⟩ := h
  exact ⟨es, clock, e.trans hb, r⟩
theorem IsSet.below {w w' : World} {b n : Nat} {acc : List Int} (h : IsSet w b n acc) (hB : Below w.heap.size w w') : IsSet w' b n acc := h.of_block (hB.block b (World.ownsMap.lt h))
theorem IsSet.s5 {w : World} {b n g : Nat} {acc : List Int} (h : IsSet w b n acc) (hne : b ≠ g) (v0 v1 v2 v3 v4 : Value) : IsSet (((((w.setCell ⟨g, 0, none⟩ v0).setCell ⟨g, 1, none⟩ v1).setCell ⟨g, 2, none⟩ v2).setCell ⟨g, 3, none⟩ v3).setCell ⟨g, 4, none⟩ v4) b n acc :=
  World.ownsMap.setCell (World.ownsMap.setCell (World.ownsMap.setCell (World.ownsMap.setCell (World.ownsMap.setCell h (a := ⟨g, 0, none⟩) hne _) (a := ⟨g, 1, none⟩) hne _) (a := ⟨g, 2, none⟩) hne _) (a := ⟨g, 3, none⟩) hne _) (a := ⟨g, 4, none⟩) hne _
set_option maxHeartbeats 16000000 in
set_option maxRecDepth 100000 in
theorem docOK_calls (root next : Int) (A : Option Addr) (c : Nat) (ns : List Nd) (w : World) (hr : kNd.C w A ns.length ns) (hc : ns.length ≤ c) (h64 : All64 root ns) :
    Calls Try.prog 36 #[.agg #[.int .i64 root, .int .i64 next, .slice A ns.length c]] w fun e w' => (∃ b, e = .returned (.bool b) ∧ Bk b (DOK root next ns)) ∧ Below w.heap.size w w' := by
  have hu := Try.underlying88
  have hu2 := Try.underlying24
  have HC := Lib.hid hr
  have H64 := Lib.hid h64
  clear hr h64
  by_cases ca : 1 ≤ (ns.length : Int) ∧ (ns.length : Int) ≤ 40
  · by_cases cb : 2 ≤ next ∧ next ≤ 999999
    · go_enter Try.func36, Try.ntmps36
      go_wp2_with (first | ((with_reducible refine gate_dst (N := 1) rfl ?_); refine box_event ?hg (N := 1) ?hd (cs := #[.int .i64 root, .int .i64 next, .slice A ns.length c]) (t := 24) ?hr ?_; (case hd => rfl); (case hg => rfl); (case hr => first | (go_simp; done) | (go_simp; rfl)); intro g hg w1 hb1 hB1; have GW := Lib.hid (show w.heap.size ≤ g from Nat.le_of_eq hg.symm); clear hg; have BK := Lib.hid hb1; have HB := Lib.hid hB1; have hz0 : w1.cell? ⟨g, 0, none⟩ = some (.int .i64 root) := (blk_cell hb1 0).trans rfl; have hz1 : w1.cell? ⟨g, 1, none⟩ = some (.int .i64 next) := (blk_cell hb1 1).trans rfl; have hz2 : w1.cell? ⟨g, 2, none⟩ = some (.slice A ns.length c) := (blk_cell hb1 2).trans rfl; clear hb1 hB1))
      refine (within_c _ _ _ _ (r := true) (decide_eq_true (by first | exact ca | exact cb))).mono ?_
      rintro e w2 ⟨rfl, nd, rfl⟩
      go_wp2_with fail
      refine (within_c _ _ _ _ (r := true) (decide_eq_true (by first | exact ca | exact cb))).mono ?_
      rintro e w2 ⟨rfl, nd2, rfl⟩
      go_wp2
      have DOCB := Lib.hid (blk_drewN BK.out (nd + nd2))
      have HB1 := Lib.hid (pw_below_drewN HB.out (nd + nd2))
      have hd1 : (w1.drewN (nd + nd2)).cell? ⟨g, 1, none⟩ = some (.int .i64 next) := (blk_cell DOCB.out 1).trans rfl
      clear BK HB hz0 hz1 hz2
      generalize w1.drewN (nd + nd2) = w1 at *
      have hnx : wrap64 (next - 1) = next - 1 := by unfold wrap64; omega
      have hnx2 : IntKind.i64.wrap (next - 1) = next - 1 := by rw [IntKind.wrap_i64]; unfold wrap64 at hnx; exact hnx
      go_loopg [24] ns.length (fun kx s24 wr => ∃ i : Nat, s24 = .int .i64 i ∧ i ≤ ns.length ∧ ns.length - i ≤ kx ∧ Aside0 (∀ t : Nat, t < i → StepOK next ns t) ∧ Aside0 (Below w.heap.size w wr) ∧ Aside0 (wr.heap[g]? = some (.cells #[.int .i64 root, .int .i64 next, .slice A ns.length c] 24 (0, 0))))
      case atStart => exact ⟨0, rfl, Nat.zero_le _, by omega, ⟨fun t ht => absurd ht (Nat.not_lt_zero _)⟩, ⟨HB1.out⟩, ⟨DOCB.out⟩⟩
      case round =>
        clear HB1 DOCB hd1
        obtain ⟨i, rfl, hil, hg, SO, HB, BK⟩ := hrel
        by_cases hlt : i < ns.length
        · obtain ⟨ad, A4, c4, e4, hx0, hx1, hx2, hx3, hx4, hl4, hi4⟩ := at_T88 HC.out (i : Int) (by omega) (by omega)
          have HSO := Lib.hid (show StepOK next ns i ↔ ((1 ≤ (rd_T88 ns (i : Int)).f0 ∧ (rd_T88 ns (i : Int)).f0 ≤ next - 1) ∧ (1 ≤ (rd_T88 ns (i : Int)).f1 ∧ (rd_T88 ns (i : Int)).f1 ≤ 8) ∧ (0 ≤ (rd_T88 ns (i : Int)).f2 ∧ (rd_T88 ns (i : Int)).f2 ≤ 99) ∧ (rd_T88 ns (i : Int)).f3.size ≤ 20 ∧ (rd_T88 ns (i : Int)).f4.length ≤ 12) ∧ ∀ y : Nat, y + 1 = i → (rdN ns (y : Int)).f0 < (rd_T88 ns (i : Int)).f0 from Iff.rfl)
          cases e4
          rw [Int.toNat_natCast] at hx0 hx1 hx2 hx3 hx4
          replace hx0 := (HB.out.cell (World.block_lt_of_cell? w _ hx0)).trans hx0
          replace hx1 := (HB.out.cell (World.block_lt_of_cell? w _ hx1)).trans hx1
          replace hx2 := (HB.out.cell (World.block_lt_of_cell? w _ hx2)).trans hx2
          replace hx3 := (HB.out.cell (World.block_lt_of_cell? w _ hx3)).trans hx3
          replace hx4 := (HB.out.cell (World.block_lt_of_cell? w _ hx4)).trans hx4
          clear hl4 hi4
          obtain ⟨q0, hq0⟩ : ∃ q0, (rd_T88 ns (i : Int)).f0 = q0 := ⟨_, rfl⟩
          obtain ⟨q1, hq1⟩ : ∃ q1, (rd_T88 ns (i : Int)).f1 = q1 := ⟨_, rfl⟩
          obtain ⟨q2, hq2⟩ : ∃ q2, (rd_T88 ns (i : Int)).f2 = q2 := ⟨_, rfl⟩
          obtain ⟨q3, hq3⟩ : ∃ q3, (rd_T88 ns (i : Int)).f3 = q3 := ⟨_, rfl⟩
          obtain ⟨q4, hq4⟩ : ∃ q4, (rd_T88 ns (i : Int)).f4 = q4 := ⟨_, rfl⟩
          rw [hq0] at hx0; rw [hq1] at hx1; rw [hq2] at hx2; rw [hq3] at hx3; rw [hq4] at hx4
          rw [hq0, hq1, hq2, hq3, hq4] at HSO
          clear hq0 hq1 hq2 hq3 hq4
          go_upto_region 6 with (first | ((with_reducible refine gate_dst (N := 4) rfl ?_); refine box_event ?hg (N := 4) ?hd (cs := #[.int .i64 0, .int .i64 0, .int .i64 0, .string (⟨#[]⟩ : ByteArray), .slice none 0 0]) (t := 88) ?hr ?_; (case hd => rfl); (case hg => rfl); (case hr => first | (go_simp; done) | (go_simp; rfl)); intro g2 hg2 w2 hb2 hB2; have GW2 := Lib.hid (show w.heap.size ≤ g2 from by rw [hg2]; exact HB.out.size); have GNE := Lib.hid (show g ≠ g2 from by rw [hg2]; exact Nat.ne_of_lt (blk_lt BK.out)); clear hg2; have BK2 := Lib.hid hb2; have HB2 := Lib.hid (below_step HB.out hB2); have BKD := Lib.hid (blk_below BK.out hB2); have hy0 : w2.cell? ⟨g2, 0, none⟩ = some (.int .i64 0) := (blk_cell hb2 0).trans rfl; have hy1 : w2.cell? ⟨g2, 1, none⟩ = some (.int .i64 0) := (blk_cell hb2 1).trans rfl; have hy2 : w2.cell? ⟨g2, 2, none⟩ = some (.int .i64 0) := (blk_cell hb2 2).trans rfl; have hy3 : w2.cell? ⟨g2, 3, none⟩ = some (.string (⟨#[]⟩ : ByteArray)) := (blk_cell hb2 3).trans rfl; have hy4 : w2.cell? ⟨g2, 4, none⟩ = some (.slice none 0 0) := (blk_cell hb2 4).trans rfl; have fy0 := blk_frozen hb2 0; have fy1 := blk_frozen hb2 1; have fy2 := blk_frozen hb2 2; have fy3 := blk_frozen hb2 3; have fy4 := blk_frozen hb2 4; clear hb2 hB2))
          have BK3 := Lib.hid (s5 BK2.out (.int .i64 q0) (.int .i64 q1) (.int .i64 q2) (.string q3) (.slice A4 q4.length c4))
          have BKE := Lib.hid (s5_far BKD.out GNE.out (.int .i64 q0) (.int .i64 q1) (.int .i64 q2) (.string q3) (.slice A4 q4.length c4))
          have HB3 := Lib.hid (s5_below HB2.out GW2.out (.int .i64 q0) (.int .i64 q1) (.int .i64 q2) (.string q3) (.slice A4 q4.length c4))
          generalize (((((w2.setCell ⟨g2, 0, none⟩ (.int .i64 q0)).setCell ⟨g2, 1, none⟩ (.int .i64 q1)).setCell ⟨g2, 2, none⟩ (.int .i64 q2)).setCell ⟨g2, 3, none⟩ (.string q3)).setCell ⟨g2, 4, none⟩ (.slice A4 q4.length c4)) = w3 at BK3 BKE HB3 ⊢
          clear hx0 hx1 hx2 hx3 hx4 hy0 hy1 hy2 hy3 hy4 fy0 fy1 fy2 fy3 fy4 BK2 HB2 BKD HB BK
          go_cut [75] (fun v wc => ∃ b, v = .bool b ∧ Aside0 (Bk b (¬ StepOK next ns i)) ∧ Aside0 (Below w.heap.size w wc) ∧ Aside0 (wc.heap[g]? = some (.cells #[.int .i64 root, .int .i64 next, .slice (some ad) ns.length c] 24 (0, 0))))
          case first =>
            --<L1
            have z0 : w3.cell? ⟨g2, 0, none⟩ = some (.int .i64 q0) := (blk_cell BK3.out 0).trans rfl
            have z1 : w3.cell? ⟨g2, 1, none⟩ = some (.int .i64 q1) := (blk_cell BK3.out 1).trans rfl
            have z2 : w3.cell? ⟨g2, 2, none⟩ = some (.int .i64 q2) := (blk_cell BK3.out 2).trans rfl
            have z3 : w3.cell? ⟨g2, 3, none⟩ = some (.string q3) := (blk_cell BK3.out 3).trans rfl
            have z4 : w3.cell? ⟨g2, 4, none⟩ = some (.slice A4 q4.length c4) := (blk_cell BK3.out 4).trans rfl
            have y1 : w3.cell? ⟨g, 1, none⟩ = some (.int .i64 next) := (blk_cell BKE.out 1).trans rfl
            have y2 : w3.cell? ⟨g, 2, none⟩ = some (.slice (some ad) ns.length c) := (blk_cell BKE.out 2).trans rfl
            have D3 := True.intro
            have D4 := True.intro
            by_cases d1 : 1 ≤ q0 ∧ q0 ≤ next - 1
            · have D1 : decide (1 ≤ q0 ∧ q0 ≤ next - 1) = true := decide_eq_true d1
              by_cases d2 : 0 < i
              · have D2 : decide ((0 : Int) < (i : Int)) = true := decide_eq_true (by omega)
                have D2b : decide ((i : Int) > (0 : Int)) = true := decide_eq_true (by omega)
                obtain ⟨y, hy⟩ : ∃ y : Nat, y + 1 = i := ⟨i - 1, by omega⟩
                obtain ⟨ad', A5, c5, e5, hp0, hp1, hp2, hp3, hp4, hl5, hi5⟩ := at_T88 HC.out (y : Int) (by omega) (by omega)
                cases e5
                rw [Int.toNat_natCast] at hp0
                replace hp0 := (HB3.out.cell (World.block_lt_of_cell? w _ hp0)).trans hp0
                clear hp1 hp2 hp3 hp4 hl5 hi5
                have hw1 : wrap64 ((i : Int) - 1) = (y : Int) := by unfold wrap64; omega
                have hw2 : IntKind.i64.wrap ((i : Int) - 1) = (y : Int) := by rw [IntKind.wrap_i64]; unfold wrap64 at hw1; exact hw1
                have hw3 : decide ((0 : Int) ≤ (y : Int)) = true := decide_eq_true (by omega)
                have hw4 : decide ((y : Int) < (ns.length : Int)) = true := decide_eq_true (by omega)
                have hw5 : (0 : Int) ≤ (y : Int) := by omega
                have hw6 : (y : Int) < (ns.length : Int) := by omega
                have hw7 : y < ns.length := by omega
                obtain ⟨p0, hp⟩ : ∃ p0, (rd_T88 ns (y : Int)).f0 = p0 := ⟨_, rfl⟩
                rw [hp] at hp0
                have hpq : (rdN ns (y : Int)).f0 = p0 := hp
                clear hp
                by_cases d7 : p0 < q0
                · have D7 : decide (q0 ≤ p0) = false := decide_eq_false (by omega)
                  have D7b : decide (p0 ≥ q0) = false := decide_eq_false (by omega)
                  have hup : ∀ y' : Nat, y' + 1 = i → (rdN ns (y' : Int)).f0 < q0 := fun y' hy' => by (have e : y' = y := (by omega)); (rw [e, hpq]); exact d7
                  have HUP := Lib.hid hup
                  have HPQ := Lib.hid hpq
                  clear hup hpq
                  by_cases d3 : 1 ≤ q1 ∧ q1 ≤ 8
                  · have D3 : decide (1 ≤ q1 ∧ q1 ≤ 8) = true := decide_eq_true d3
                    by_cases d4 : 0 ≤ q2 ∧ q2 ≤ 99
                    · have D4 : decide (0 ≤ q2 ∧ q2 ≤ 99) = true := decide_eq_true d4
                      by_cases d5 : q3.size ≤ 20
                      · have D5 : decide ((20 : Int) < (q3.size : Int)) = false := decide_eq_false (by omega)
                        have D5b : decide ((q3.size : Int) > (20 : Int)) = false := decide_eq_false (by omega)
                        by_cases d6 : q4.length ≤ 12
                        · have D6 : decide ((12 : Int) < (q4.length : Int)) = false := decide_eq_false (by omega)
                          have D6b : decide ((q4.length : Int) > (12 : Int)) = false := decide_eq_false (by omega)
                          have HBK := Lib.hid (show Bk false (¬ StepOK next ns i) from ⟨(fun h => by cases h), fun h => absurd (HSO.out.2 ⟨⟨d1, d3, d4, d5, d6⟩, HUP.out⟩) h⟩)
                          go_quiet (exact Calls.quiet_of (within_c _ _ _ _ (by first | exact D1 | exact D3 | exact D4)))
                          go_wp2
                          go_meet
                          case rel => exact ⟨_, rfl, ⟨HBK.out⟩, ⟨pw_below_drewN HB3.out _⟩, ⟨blk_drewN BKE.out _⟩⟩
                        · have D6 : decide ((12 : Int) < (q4.length : Int)) = true := decide_eq_true (by omega)
                          have D6b : decide ((q4.length : Int) > (12 : Int)) = true := decide_eq_true (by omega)
                          have HBK := Lib.hid (show Bk true (¬ StepOK next ns i) from ⟨fun _ h => d6 (HSO.out.1 h).1.2.2.2.2, fun _ => rfl⟩)
                          go_quiet (exact Calls.quiet_of (within_c _ _ _ _ (by first | exact D1 | exact D3 | exact D4)))
                          go_wp2
                          go_meet
                          case rel => exact ⟨_, rfl, ⟨HBK.out⟩, ⟨pw_below_drewN HB3.out _⟩, ⟨blk_drewN BKE.out _⟩⟩
                      · have D5 : decide ((20 : Int) < (q3.size : Int)) = true := decide_eq_true (by omega)
                        have D5b : decide ((q3.size : Int) > (20 : Int)) = true := decide_eq_true (by omega)
                        have HBK := Lib.hid (show Bk true (¬ StepOK next ns i) from ⟨fun _ h => d5 (HSO.out.1 h).1.2.2.2.1, fun _ => rfl⟩)
                        go_quiet (exact Calls.quiet_of (within_c _ _ _ _ (by first | exact D1 | exact D3 | exact D4)))
                        go_wp2
                        go_meet
                        case rel => exact ⟨_, rfl, ⟨HBK.out⟩, ⟨pw_below_drewN HB3.out _⟩, ⟨blk_drewN BKE.out _⟩⟩
                    · have D4 : decide (0 ≤ q2 ∧ q2 ≤ 99) = false := decide_eq_false d4
                      have HBK := Lib.hid (show Bk true (¬ StepOK next ns i) from ⟨fun _ h => d4 (HSO.out.1 h).1.2.2.1, fun _ => rfl⟩)
                      go_quiet (exact Calls.quiet_of (within_c _ _ _ _ (by first | exact D1 | exact D3 | exact D4)))
                      go_wp2
                      go_meet
                      case rel => exact ⟨_, rfl, ⟨HBK.out⟩, ⟨pw_below_drewN HB3.out _⟩, ⟨blk_drewN BKE.out _⟩⟩
                  · have D3 : decide (1 ≤ q1 ∧ q1 ≤ 8) = false := decide_eq_false d3
                    have HBK := Lib.hid (show Bk true (¬ StepOK next ns i) from ⟨fun _ h => d3 (HSO.out.1 h).1.2.1, fun _ => rfl⟩)
                    go_quiet (exact Calls.quiet_of (within_c _ _ _ _ (by first | exact D1 | exact D3 | exact D4)))
                    go_wp2
                    go_meet
                    case rel => exact ⟨_, rfl, ⟨HBK.out⟩, ⟨pw_below_drewN HB3.out _⟩, ⟨blk_drewN BKE.out _⟩⟩
                · have D7 : decide (q0 ≤ p0) = true := decide_eq_true (by omega)
                  have D7b : decide (p0 ≥ q0) = true := decide_eq_true (by omega)
                  have HBK := Lib.hid (show Bk true (¬ StepOK next ns i) from ⟨fun _ h => d7 (by have := (HSO.out.1 h).2 y hy; rwa [hpq] at this), fun _ => rfl⟩)
                  go_quiet (exact Calls.quiet_of (within_c _ _ _ _ (by first | exact D1 | exact D3 | exact D4)))
                  go_wp2
                  go_meet
                  case rel => exact ⟨_, rfl, ⟨HBK.out⟩, ⟨pw_below_drewN HB3.out _⟩, ⟨blk_drewN BKE.out _⟩⟩
              · have D2 : decide ((0 : Int) < (i : Int)) = false := decide_eq_false (by omega)
                have D2b : decide ((i : Int) > (0 : Int)) = false := decide_eq_false (by omega)
                by_cases d3 : 1 ≤ q1 ∧ q1 ≤ 8
                · have D3 : decide (1 ≤ q1 ∧ q1 ≤ 8) = true := decide_eq_true d3
                  by_cases d4 : 0 ≤ q2 ∧ q2 ≤ 99
                  · have D4 : decide (0 ≤ q2 ∧ q2 ≤ 99) = true := decide_eq_true d4
                    by_cases d5 : q3.size ≤ 20
                    · have D5 : decide ((20 : Int) < (q3.size : Int)) = false := decide_eq_false (by omega)
                      have D5b : decide ((q3.size : Int) > (20 : Int)) = false := decide_eq_false (by omega)
                      by_cases d6 : q4.length ≤ 12
                      · have D6 : decide ((12 : Int) < (q4.length : Int)) = false := decide_eq_false (by omega)
                        have D6b : decide ((q4.length : Int) > (12 : Int)) = false := decide_eq_false (by omega)
                        have HBK := Lib.hid (show Bk false (¬ StepOK next ns i) from ⟨(fun h => by cases h), fun h => absurd (HSO.out.2 ⟨⟨d1, d3, d4, d5, d6⟩, fun y hy => absurd hy (by omega)⟩) h⟩)
                        go_quiet (exact Calls.quiet_of (within_c _ _ _ _ (by first | exact D1 | exact D3 | exact D4)))
                        go_wp2
                        go_meet
                        case rel => exact ⟨_, rfl, ⟨HBK.out⟩, ⟨pw_below_drewN HB3.out _⟩, ⟨blk_drewN BKE.out _⟩⟩
                      · have D6 : decide ((12 : Int) < (q4.length : Int)) = true := decide_eq_true (by omega)
                        have D6b : decide ((q4.length : Int) > (12 : Int)) = true := decide_eq_true (by omega)
                        have HBK := Lib.hid (show Bk true (¬ StepOK next ns i) from ⟨fun _ h => d6 (HSO.out.1 h).1.2.2.2.2, fun _ => rfl⟩)
                        go_quiet (exact Calls.quiet_of (within_c _ _ _ _ (by first | exact D1 | exact D3 | exact D4)))
                        go_wp2
                        go_meet
                        case rel => exact ⟨_, rfl, ⟨HBK.out⟩, ⟨pw_below_drewN HB3.out _⟩, ⟨blk_drewN BKE.out _⟩⟩
                    · have D5 : decide ((20 : Int) < (q3.size : Int)) = true := decide_eq_true (by omega)
                      have D5b : decide ((q3.size : Int) > (20 : Int)) = true := decide_eq_true (by omega)
                      have HBK := Lib.hid (show Bk true (¬ StepOK next ns i) from ⟨fun _ h => d5 (HSO.out.1 h).1.2.2.2.1, fun _ => rfl⟩)
                      go_quiet (exact Calls.quiet_of (within_c _ _ _ _ (by first | exact D1 | exact D3 | exact D4)))
                      go_wp2
                      go_meet
                      case rel => exact ⟨_, rfl, ⟨HBK.out⟩, ⟨pw_below_drewN HB3.out _⟩, ⟨blk_drewN BKE.out _⟩⟩
                  · have D4 : decide (0 ≤ q2 ∧ q2 ≤ 99) = false := decide_eq_false d4
                    have HBK := Lib.hid (show Bk true (¬ StepOK next ns i) from ⟨fun _ h => d4 (HSO.out.1 h).1.2.2.1, fun _ => rfl⟩)
                    go_quiet (exact Calls.quiet_of (within_c _ _ _ _ (by first | exact D1 | exact D3 | exact D4)))
                    go_wp2
                    go_meet
                    case rel => exact ⟨_, rfl, ⟨HBK.out⟩, ⟨pw_below_drewN HB3.out _⟩, ⟨blk_drewN BKE.out _⟩⟩
                · have D3 : decide (1 ≤ q1 ∧ q1 ≤ 8) = false := decide_eq_false d3
                  have HBK := Lib.hid (show Bk true (¬ StepOK next ns i) from ⟨fun _ h => d3 (HSO.out.1 h).1.2.1, fun _ => rfl⟩)
                  go_quiet (exact Calls.quiet_of (within_c _ _ _ _ (by first | exact D1 | exact D3 | exact D4)))
                  go_wp2
                  go_meet
                  case rel => exact ⟨_, rfl, ⟨HBK.out⟩, ⟨pw_below_drewN HB3.out _⟩, ⟨blk_drewN BKE.out _⟩⟩
            · have D1 : decide (1 ≤ q0 ∧ q0 ≤ next - 1) = false := decide_eq_false d1
              have HBK := Lib.hid (show Bk true (¬ StepOK next ns i) from ⟨fun _ h => d1 (HSO.out.1 h).1.1, fun _ => rfl⟩)
              go_quiet (exact Calls.quiet_of (within_c _ _ _ _ (by first | exact D1 | exact D3 | exact D4)))
              go_wp2
              go_meet
              case rel => exact ⟨_, rfl, ⟨HBK.out⟩, ⟨pw_below_drewN HB3.out _⟩, ⟨blk_drewN BKE.out _⟩⟩
            --L1>
          case rest =>
            obtain ⟨b, rfl, HBK, HB4, BK4⟩ := hcut
            clear HB3 BK3 BKE
            cases b with
            | true =>
              go_wp2
              go_ret
              exact ⟨⟨false, rfl, ⟨(fun h => by cases h), fun h => absurd (h.2.2.1 i hlt) (HBK.out.1 rfl)⟩⟩, HB4.out⟩
            | false =>
              have SOK : StepOK next ns i := by
                by_cases hs : StepOK next ns i
                · exact hs
                · exact absurd (HBK.out.2 hs) (by decide)
              have SO2 : Aside0 (∀ t : Nat, t < i + 1 → StepOK next ns t) := ⟨fun t ht => by
                by_cases q : t < i
                · exact SO.out t q
                · obtain rfl : t = i := by omega
                  exact SOK⟩
              clear HBK SOK SO
              have hil2 : wrap64 ((i : Int) + 1) = (i : Int) + 1 := by unfold wrap64; omega
              go_wp2
              go_roundg (ns.length - (i + 1))
              case measure => omega
              case rel => exact ⟨i + 1, by rw [show ((i + 1 : Nat) : Int) = (i : Int) + 1 by omega], by omega, Nat.le_refl _, SO2, HB4, BK4⟩
        · obtain rfl : i = ns.length := by omega
          have hmm := @run_makeMap Try.prog
          have ha2 : (wr.alloc (Obj.map #[] 0)).cell? ⟨g, 2, none⟩ = some (.slice A ns.length c) := (blk_cell (blk_alloc BK.out _) 2).trans rfl
          go_wp2_with fail
          clear hmm ha2
          have OM := Lib.hid (show IsSet (wr.alloc (Obj.map #[] 0)) wr.heap.size (12 * 0) (kidsTo ns 0) from World.ownsMap_made _ _ _ _)
          have HB1 := Lib.hid (below_alloc HB.out (Obj.map #[] 0))
          have BK1 := Lib.hid (blk_alloc BK.out (Obj.map #[] 0))
          have GNM := Lib.hid (Nat.ne_of_lt (blk_lt BK.out))
          have GMW := Lib.hid HB.out.size
          have HGD := Lib.hid (good_of cb.2 (by omega) SO.out)
          generalize wr.alloc (Obj.map #[] 0) = w1 at OM HB1 BK1 ⊢
          generalize wr.heap.size = gm at OM GNM GMW ⊢
          clear BK HB
          clear wr
          go_loopg [81] ns.length (fun kx s81 wr => ∃ j : Nat, s81 = .int .i64 j ∧ j ≤ ns.length ∧ ns.length - j ≤ kx ∧ Aside0 (SetOK root ns (kidsTo ns j)) ∧ Aside0 (IsSet wr gm (12 * j) (kidsTo ns j)) ∧ Aside0 (Below w.heap.size w wr) ∧ Aside0 (wr.heap[g]? = some (.cells #[.int .i64 root, .int .i64 next, .slice A ns.length c] 24 (0, 0))))
          case atStart => exact ⟨0, rfl, Nat.zero_le _, by omega, ⟨⟨List.nodup_nil, fun k hk => absurd hk (by simp [kidsTo])⟩⟩, ⟨OM.out⟩, ⟨HB1.out⟩, ⟨BK1.out⟩⟩
          case round =>
            clear OM HB1 BK1
            obtain ⟨j, rfl, hjl, hgj, SK, OM, HB, BK⟩ := hrel
            by_cases hjt : j < ns.length
            · obtain ⟨ad, A4, c4, e4, hx0, hx1, hx2, hx3, hx4, hl4, hi4⟩ := at_T88 HC.out (j : Int) (by omega) (by omega)
              cases e4
              rw [Int.toNat_natCast] at hx0 hx1 hx2 hx3 hx4
              replace hx0 := (HB.out.cell (World.block_lt_of_cell? w _ hx0)).trans hx0
              replace hx1 := (HB.out.cell (World.block_lt_of_cell? w _ hx1)).trans hx1
              replace hx2 := (HB.out.cell (World.block_lt_of_cell? w _ hx2)).trans hx2
              replace hx3 := (HB.out.cell (World.block_lt_of_cell? w _ hx3)).trans hx3
              replace hx4 := (HB.out.cell (World.block_lt_of_cell? w _ hx4)).trans hx4
              have KS := Lib.hid (kidsTo_step hjt)
              have SPL := Lib.hid (fun (i : Nat) (hi : i < (rd_T88 ns (j : Int)).f4.length) => kids_split hjt hi)
              have K64 := Lib.hid (show ∀ k ∈ (rd_T88 ns (j : Int)).f4, I64 k from H64.out.2 j hjt)
              have K12 := Lib.hid (show (rd_T88 ns (j : Int)).f4.length ≤ 12 from (SO.out j hjt).1.2.2.2.2)
              have H4 := Lib.hid hi4
              have HL4 := Lib.hid hl4
              rw [show (rdN ns (j : Int)).f4 = (rd_T88 ns (j : Int)).f4 from rfl] at KS
              have SPL2 := Lib.hid (show ∀ (i : Nat) (hi : i < (rd_T88 ns (j : Int)).f4.length), ∃ rest, kidsAll ns = (kidsTo ns j ++ (rd_T88 ns (j : Int)).f4.take i) ++ (rd_T88 ns (j : Int)).f4[i] :: rest from SPL.out)
              clear hl4 hi4 SPL
              generalize (rd_T88 ns (j : Int)).f0 = q0 at hx0
              generalize (rd_T88 ns (j : Int)).f1 = q1 at hx1
              generalize (rd_T88 ns (j : Int)).f2 = q2 at hx2
              generalize (rd_T88 ns (j : Int)).f3 = q3 at hx3
              generalize (rd_T88 ns (j : Int)).f4 = q4 at hx4 KS K64 K12 H4 HL4 SPL2
              go_upto_region 13 with (first | ((with_reducible refine gate_dst (N := 7) rfl ?_); refine box_event ?hg (N := 7) ?hd (cs := #[.int .i64 0, .int .i64 0, .int .i64 0, .string (⟨#[]⟩ : ByteArray), .slice none 0 0]) (t := 88) ?hr ?_; (case hd => rfl); (case hg => rfl); (case hr => first | (go_simp; done) | (go_simp; rfl)); intro g2 hg2 w2 hb2 hB2; have GW2 := Lib.hid (show w.heap.size ≤ g2 from by rw [hg2]; exact HB.out.size); have GNE := Lib.hid (show g ≠ g2 from by rw [hg2]; exact Nat.ne_of_lt (blk_lt BK.out)); have GNM2 := Lib.hid (show g2 ≠ gm from by rw [hg2]; exact Nat.ne_of_gt (World.ownsMap.lt OM.out)); have OM2 := Lib.hid (IsSet.below OM.out hB2); clear hg2; have BK2 := Lib.hid hb2; have HB2 := Lib.hid (below_step HB.out hB2); have BKD := Lib.hid (blk_below BK.out hB2); have hy0 : w2.cell? ⟨g2, 0, none⟩ = some (.int .i64 0) := (blk_cell hb2 0).trans rfl; have hy1 : w2.cell? ⟨g2, 1, none⟩ = some (.int .i64 0) := (blk_cell hb2 1).trans rfl; have hy2 : w2.cell? ⟨g2, 2, none⟩ = some (.int .i64 0) := (blk_cell hb2 2).trans rfl; have hy3 : w2.cell? ⟨g2, 3, none⟩ = some (.string (⟨#[]⟩ : ByteArray)) := (blk_cell hb2 3).trans rfl; have hy4 : w2.cell? ⟨g2, 4, none⟩ = some (.slice none 0 0) := (blk_cell hb2 4).trans rfl; have fy0 := blk_frozen hb2 0; have fy1 := blk_frozen hb2 1; have fy2 := blk_frozen hb2 2; have fy3 := blk_frozen hb2 3; have fy4 := blk_frozen hb2 4; clear hb2 hB2))
              have BK3 := Lib.hid (s5 BK2.out (.int .i64 q0) (.int .i64 q1) (.int .i64 q2) (.string q3) (.slice A4 q4.length c4))
              have BKE := Lib.hid (s5_far BKD.out GNE.out (.int .i64 q0) (.int .i64 q1) (.int .i64 q2) (.string q3) (.slice A4 q4.length c4))
              have HB3 := Lib.hid (s5_below HB2.out GW2.out (.int .i64 q0) (.int .i64 q1) (.int .i64 q2) (.string q3) (.slice A4 q4.length c4))
              have OM3 := Lib.hid (OM2.out.s5 GNM2.out.symm (.int .i64 q0) (.int .i64 q1) (.int .i64 q2) (.string q3) (.slice A4 q4.length c4))
              generalize (((((w2.setCell ⟨g2, 0, none⟩ (.int .i64 q0)).setCell ⟨g2, 1, none⟩ (.int .i64 q1)).setCell ⟨g2, 2, none⟩ (.int .i64 q2)).setCell ⟨g2, 3, none⟩ (.string q3)).setCell ⟨g2, 4, none⟩ (.slice A4 q4.length c4)) = w3 at BK3 BKE HB3 OM3 ⊢
              clear hx0 hx1 hx2 hx3 hx4 hy0 hy1 hy2 hy3 hy4 fy0 fy1 fy2 fy3 fy4 BK2 HB2 BKD OM2 HB BK OM
              have z4 : w3.cell? ⟨g2, 4, none⟩ = some (.slice A4 q4.length c4) := (blk_cell BK3.out 4).trans rfl
              go_wp2
              go_loopg [88] q4.length (fun kx s88 wr => ∃ i : Nat, s88 = .int .i64 i ∧ i ≤ q4.length ∧ q4.length - i ≤ kx ∧ Aside0 (SetOK root ns (kidsTo ns j ++ q4.take i)) ∧ Aside0 (IsSet wr gm (12 * j + i) (kidsTo ns j ++ q4.take i)) ∧ Aside0 (Below w.heap.size w wr) ∧ Aside0 (wr.heap[g]? = some (.cells #[.int .i64 root, .int .i64 next, .slice (some ad) ns.length c] 24 (0, 0))))
              case atStart => exact ⟨0, rfl, Nat.zero_le _, by omega, ⟨by simpa using SK.out⟩, ⟨by simpa using OM3.out⟩, ⟨HB3.out⟩, ⟨BKE.out⟩⟩
              case round =>
                clear OM3 HB3 BKE BK3 z4 SK
                obtain ⟨i, rfl, hil, hg, SK, OM, HB, BK⟩ := hrel
                by_cases hlt : i < q4.length
                · obtain ⟨ak, ek, hk0⟩ := Kd.at_int H4.out (i : Int) (by omega) (by omega)
                  cases ek
                  replace hk0 := (HB.out.cell (World.block_lt_of_cell? w _ hk0)).trans hk0
                  rw [Int.toNat_natCast] at hk0
                  have hrd : rd q4 (i : Int) = q4[i] := by unfold rd; rw [Int.toNat_natCast, List.getD_eq_getElem?_getD, List.getElem?_eq_getElem hlt]; rfl
                  rw [hrd] at hk0
                  have K1 := Lib.hid (K64.out q4[i] (List.getElem_mem hlt))
                  have TK := Lib.hid (show q4.take (i + 1) = q4.take i ++ [q4[i]] from by rw [List.take_add_one, List.getElem?_eq_getElem hlt]; rfl)
                  have SP := Lib.hid (SPL2.out i hlt)
                  have HK := Lib.hid (Maps.keyOf_int_mk Try.underlying3 (wf64 K1.out))
                  clear hrd
                  generalize q4[i] = kk at *
                  generalize hacc : kidsTo ns j ++ q4.take i = acc at *
                  have hcell0 : wr.cell? ⟨g, 0, none⟩ = some (.int .i64 root) := (blk_cell BK.out 0).trans rfl
                  have SA := Lib.hid (setD_at acc kk)
                  have HD := Lib.hid (show IsD wr g root next (some ad) c ns from ⟨BK.out, Kd.C_below HC.out HB.out, hc⟩)
                  by_cases e1 : kk ∈ acc
                  · have E1 := Lib.hid (show (setD acc).atKey (.int .i64 kk) (.lit (.bool false)) = .lit (.bool true) from by rw [SA.out, decide_eq_true e1])
                    have NB := Lib.hid (show ¬ DOK root next ns from fun h => by obtain ⟨rest, hr⟩ := SP.out; exact (set_bad (hr ▸ h.2.2.2.1)).1 e1)
                    go_wp2_with (first | (at_lookup; refine lookup_bool _ rfl _ _ 90 rfl 3 4 lawI Try.underlying90 Try.underlying4 (zeroB _) gm (12 * j + i) (setD acc) rfl OM.out _ _ rfl HK.out true E1.out ?_))
                    go_ret
                    exact ⟨⟨false, rfl, ⟨(fun h => by cases h), fun h => absurd h NB.out⟩⟩, HB.out⟩
                  · have E1 := Lib.hid (show (setD acc).atKey (.int .i64 kk) (.lit (.bool false)) = .lit (.bool false) from by rw [SA.out, decide_eq_false e1])
                    by_cases e2 : kk = root
                    · have E2 : (kk == root) = true := beq_iff_eq.mpr e2
                      have NB := Lib.hid (show ¬ DOK root next ns from fun h => by obtain ⟨rest, hr⟩ := SP.out; exact (set_bad (hr ▸ h.2.2.2.1)).2.1 e2)
                      clear e2
                      go_wp2_with (first | (at_lookup; refine lookup_bool _ rfl _ _ 90 rfl 3 4 lawI Try.underlying90 Try.underlying4 (zeroB _) gm (12 * j + i) (setD acc) rfl OM.out _ _ rfl HK.out false E1.out ?_))
                      go_ret
                      exact ⟨⟨false, rfl, ⟨(fun h => by cases h), fun h => absurd h NB.out⟩⟩, HB.out⟩
                    · have E2 : (kk == root) = false := beq_eq_false_iff_ne.mpr e2
                      obtain ⟨hb, hhb⟩ : ∃ hb, hasP ns kk = hb := ⟨_, rfl⟩
                      have HHB := Lib.hid hhb
                      have NE2 := Lib.hid e2
                      have E3 := Lib.hid e1
                      clear e2 hhb e1
                      go_wp2_with (first | (at_lookup; refine lookup_bool _ rfl _ _ 90 rfl 3 4 lawI Try.underlying90 Try.underlying4 (zeroB _) gm (12 * j + i) (setD acc) rfl OM.out _ _ rfl HK.out false E1.out ?_))
                      refine (has_calls g root next (some ad) c ns kk wr HD.out HGD.out K1.out).mono ?_
                      rw [HHB.out]
                      rintro e w4 ⟨rfl, hb4⟩
                      have HB4 := Lib.hid (below_step HB.out hb4)
                      have BK4 := Lib.hid (blk_below BK.out hb4)
                      have OM4 := Lib.hid (OM.out.below hb4)
                      clear hb4 hcell0
                      cases hb with
                      | false =>
                        have NB := Lib.hid (show ¬ DOK root next ns from fun h => by obtain ⟨rest, hr⟩ := SP.out; exact absurd (set_bad (hr ▸ h.2.2.2.1)).2.2 (by rw [HHB.out]; decide))
                        go_wp2
                        go_ret
                        exact ⟨⟨false, rfl, ⟨(fun h => by cases h), fun h => absurd h NB.out⟩⟩, HB4.out⟩
                      | true =>
                        have SK2 := Lib.hid (set_step SK.out E3.out NE2.out HHB.out)
                        have hroom : 12 * j + i < maxLen := by have := K12.out; unfold maxLen; omega
                        have HROOM := Lib.hid hroom
                        clear hroom
                        go_wp2_with (first | (at_mapUpdate; refine wpList_mapUpdate_own _ rfl _ _ _ 90 rfl 3 4 lawI Try.underlying90 _ gm (12 * j + i) (setD acc) rfl OM4.out HROOM.out _ _ (.int .i64 kk) rfl rfl HK.out (.lit (.bool true)) [] (plainElem_bool Try.underlying4 true) ?_; intro w5 om5 hg5; have OM5 := Lib.hid (show IsSet w5 gm (12 * j + i + 1) (acc ++ [kk]) from by unfold IsSet; rw [setD_snoc]; exact om5); have HB5 := Lib.hid (HB4.out.grown hg5 HB4.out.size (fun q hq => by cases hq; exact GMW.out)); have BK5 := Lib.hid (blk_grown BK4.out hg5 (fun e => GNM.out (Option.some.inj e))); clear om5 hg5))
                        --<L2
                        have hil2 := w64_nat (i := i) (Nat.le_trans (Nat.le_of_lt hlt) (Nat.le_trans K12.out (by decide)))
                        go_roundg (q4.length - (i + 1))
                        case measure => exact Nat.lt_of_lt_of_le (Nat.sub_succ_lt_self _ _ hlt) hg
                        case rel => exact ⟨i + 1, by rw [hil2], hlt, Nat.le_refl _, ⟨by rw [TK.out, ← List.append_assoc, hacc]; exact SK2.out⟩, ⟨by rw [TK.out, ← List.append_assoc, hacc]; exact OM5.out⟩, ⟨HB5.out⟩, ⟨BK5.out⟩⟩
                        --L2>
                · obtain rfl : i = q4.length := by omega
                  rw [List.take_length, ← KS.out] at SK OM
                  --<L3
                  have hjl2 := w64_nat (i := j) (Nat.le_trans (Nat.le_of_lt hjt) HGD.out.1)
                  go_wp2
                  go_roundg (ns.length - (j + 1))
                  case measure => exact Nat.lt_of_lt_of_le (Nat.sub_succ_lt_self _ _ hjt) hgj
                  case rel => exact ⟨j + 1, by rw [hjl2], hjt, Nat.le_refl _, SK, ⟨World.ownsMap.mono OM.out (by rw [Nat.mul_succ]; exact Nat.add_le_add_left K12.out _)⟩, HB, BK⟩
                  --L3>
            · obtain rfl : j = ns.length := by omega
              rw [kidsTo_all] at SK OM
              --<L4
              have KI := Lib.hid (show KidsIn ns from fun t ht => ⟨(SO.out t ht).1.2.2.2.2, fun k hk => ⟨(SK.out.2 k (List.mem_flatMap.2 ⟨_, List.getElem_mem ht, by rw [← rdN_get ht]; exact hk⟩)).2, H64.out.2 t ht k hk⟩⟩)
              have HS := Lib.hid (show Maps.size (setD (kidsAll ns)) = (kidsAll ns).length from setD_size _ SK.out.1)
              have z0 : wr.cell? ⟨g, 0, none⟩ = some (.int .i64 root) := (blk_cell BK.out 0).trans rfl
              obtain ⟨hb, hhb⟩ : ∃ hb, hasP ns root = hb := ⟨_, rfl⟩
              have HHB := Lib.hid hhb
              have HD := Lib.hid (show IsD wr g root next A c ns from ⟨BK.out, Kd.C_below HC.out HB.out, hc⟩)
              have HCA := Lib.hid ca
              have HCB := Lib.hid cb
              have HNW := Lib.hid (show wrap64 ((ns.length : Int) - 1) = (ns.length : Int) - 1 from by clear hnx hnx2; unfold wrap64; omega)
              clear hhb ca cb hnx hnx2 hil hg hjl hgj hjt
              go_wp2_with fail
              refine (has_calls g root next A c ns root wr HD.out HGD.out H64.out.1).mono ?_
              rw [HHB.out]
              rintro e w4 ⟨rfl, hb4⟩
              have HB4 := Lib.hid (below_step HB.out hb4)
              have BK4 := Lib.hid (blk_below BK.out hb4)
              have OM4 := Lib.hid (OM.out.below hb4)
              clear hb4 z0 BK OM HB HD
              cases hb with
              | false =>
                have NB := Lib.hid (show ¬ DOK root next ns from fun h => absurd h.2.2.2.2.1.1 (by rw [HHB.out]; decide))
                go_wp2
                go_ret
                exact ⟨⟨false, rfl, ⟨(fun h => by cases h), fun h => absurd h NB.out⟩⟩, HB4.out⟩
              | true =>
                obtain ⟨kz, hkz⟩ : ∃ kz : Int, ((kidsAll ns).length : Int) = kz := ⟨_, rfl⟩
                have hlen : (Builtin.len_ #[90] 3 #[.map (some gm)]).run Try.prog w4 = .ok (.int .i64 kz) w4 := by
                  have := World.ownsMap.len OM4.out Try.underlying90 3
                  rwa [HS.out, hkz] at this
                have z2 : w4.cell? ⟨g, 2, none⟩ = some (.slice A ns.length c) := (blk_cell BK4.out 2).trans rfl
                have hnw := HNW.out
                by_cases e5 : kz = (ns.length : Int) - 1
                · have E5 : (kz == (ns.length : Int) - 1) = true := beq_iff_eq.mpr e5
                  have E5b : (kz != (ns.length : Int) - 1) = false := bne_eq_false_iff_eq.mpr e5
                  have HKZ := Lib.hid (show (kidsAll ns).length + 1 = ns.length by omega)
                  have HDW := Lib.hid (show IsD w4 g root next A c ns from ⟨BK4.out, Kd.C_below HC.out HB4.out, hc⟩)
                  obtain ⟨bd, hbd⟩ : ∃ bd, decide (depP ns 7 root > 6) = bd := ⟨_, rfl⟩
                  have HBD := Lib.hid hbd
                  clear hkz e5 hbd
                  go_wp2_with fail
                  refine (isDeep_calls g root next A c ns HGD.out KI.out w4 HHB.out H64.out.1 HDW.out).mono ?_
                  rw [HBD.out]
                  rintro e w6 ⟨rfl, hb6⟩
                  have HB6 := Lib.hid (below_step HB4.out hb6)
                  have BK6 := Lib.hid (blk_below BK4.out hb6)
                  clear hb6 z2 hlen HB4 BK4 OM4 HDW hnw
                  cases bd with
                  | true =>
                    have NB := Lib.hid (show ¬ DOK root next ns from fun h => by have h1 := h.2.2.2.2.1.2.2; have h2 := of_decide_eq_true HBD.out; exact absurd h1 (Int.not_le.2 h2))
                    go_wp2
                    go_ret
                    exact ⟨⟨false, rfl, ⟨(fun h => by cases h), fun h => absurd h NB.out⟩⟩, HB6.out⟩
                  | false =>
                    have DL := Lib.hid (show depP ns 7 root ≤ 6 from Int.not_lt.1 (of_decide_eq_false HBD.out))
                    have FT := Lib.hid (depP_fits 6 root DL.out)
                    obtain ⟨os, hos⟩ : ∃ os, ordP ns 6 root = os := ⟨_, rfl⟩
                    have HOS := Lib.hid hos
                    have hoc := order_calls g root next A c ns HGD.out KI.out w HC.out hc 6 root (.slice none 0 0) [] w6.drew FT.out HHB.out H64.out.1 (below_drew1 HB6.out) (blk_drew BK6.out) (Kd.R_nil _ _ _ _ _) (by decide)
                    rw [hos, List.nil_append] at hoc
                    have HOC := Lib.hid hoc
                    clear hos hoc
                    have z0 : w6.cell? ⟨g, 0, none⟩ = some (.int .i64 root) := (blk_cell BK6.out 0).trans rfl
                    have z2 : w6.cell? ⟨g, 2, none⟩ = some (.slice A ns.length c) := (blk_cell BK6.out 2).trans rfl
                    obtain ⟨bq, hbq⟩ : ∃ bq, ((os.length : Int) == (ns.length : Int)) = bq := ⟨_, rfl⟩
                    go_upto_region 23 with fail
                    refine start_ (n := 9) (S := fun w' => w'.cell? ⟨g, 0, none⟩ = some (.int .i64 root) ∧ w'.cell? ⟨g, 2, none⟩ = some (.slice A ns.length c)) (ds := []) #[false, false, false, false, false, false, false, false, false] (by kernel_rfl) rfl rfl ⟨z0, z2⟩ (fun hHeld => ?_)
                    refine pure_ (i := 0) (N := some 126) (v := ?_) (a' := ?_) #[true, false, false, false, false, false, false, false, false] rfl rfl (by kernel_rfl) (fun _ _ _ h => h) (Or.inl ⟨by rfl, ?_⟩) ?_ ?_
                    rotate_left
                    · intro w'
                      go_simp
                      with_reducible rfl
                    rotate_left
                    · simp only [Act.put, List.setIfInBounds_toArray, List.set_cons_zero, List.set_cons_succ, i64_w, i32_w]
                      rfl
                    refine pure_ (i := 4) (N := some 130) (v := ?_) (a' := ?_) #[true, false, false, false, true, false, false, false, false] rfl rfl (by kernel_rfl) (fun _ _ _ h => h) (Or.inl ⟨by rfl, ?_⟩) ?_ ?_
                    rotate_left
                    · intro w'
                      go_simp
                      with_reducible rfl
                    rotate_left
                    · simp only [Act.put, List.setIfInBounds_toArray, List.set_cons_zero, List.set_cons_succ, i64_w, i32_w]
                      rfl
                    refine take_ (i := 1) (N := some 127) (v := ?_) (a' := ?_) #[true, true, false, false, true, false, false, false, false] rfl rfl (by kernel_rfl) (fun _ _ _ h => h) (Or.inl ⟨by rfl, ?_⟩) hHeld ?_ ?_
                    rotate_left
                    · rintro w' ⟨s0, s1⟩
                      go_simp
                      with_reducible rfl
                    rotate_left
                    · simp only [Act.put, List.setIfInBounds_toArray, List.set_cons_zero, List.set_cons_succ, i64_w, i32_w]
                      rfl
                    refine take_ (i := 5) (N := some 131) (v := ?_) (a' := ?_) #[true, true, false, false, true, true, false, false, false] rfl rfl (by kernel_rfl) (fun _ _ _ h => h) (Or.inl ⟨by rfl, ?_⟩) hHeld ?_ ?_
                    rotate_left
                    · rintro w' ⟨s0, s1⟩
                      go_simp
                      with_reducible rfl
                    rotate_left
                    · simp only [Act.put, List.setIfInBounds_toArray, List.set_cons_zero, List.set_cons_succ, i64_w, i32_w]
                      rfl
                    refine pure_ (i := 6) (N := some 132) (v := ?_) (a' := ?_) #[true, true, false, false, true, true, true, false, false] rfl rfl (by kernel_rfl) (fun _ _ _ h => h) (Or.inl ⟨by rfl, ?_⟩) ?_ ?_
                    rotate_left
                    · intro w'
                      go_simp
                      with_reducible rfl
                    rotate_left
                    · simp only [Act.put, List.setIfInBounds_toArray, List.set_cons_zero, List.set_cons_succ, i64_w, i32_w]
                      rfl
                    refine one_ (i := 2) (N := some 128) #[true, true, true, false, true, true, true, false, false] rfl rfl (by kernel_rfl) (by decide) (fun K hK => ?_)
                    refine goes_ Try.func67 (by kernel_rfl) rfl #[.pointer (some ⟨g, 0, none⟩), .slice none 0 0, .int .i64 root] (by rfl) rfl rfl (by simp only [List.map_toArray, List.map_cons, List.map_nil]; rfl) ?_
                    with_reducible refine (HOC.out).mono ?_
                    rintro e w8 ⟨v8, rfl, hr8, hb8, hk8⟩
                    refine ⟨_, rfl, ?_⟩
                    obtain ⟨A8, c8, rfl⟩ := Kd.R_slice hr8
                    refine hK.out _ _ ⟨(blk_cell hk8 0).trans rfl, (blk_cell hk8 2).trans rfl⟩ (fun hHeld => ?_)
                    clear hK K
                    refine norm_ (a' := ?_) ?_ ?_
                    rotate_left
                    · show Act.put _ (some 128) _ = _
                      simp only [Act.put, List.setIfInBounds_toArray, List.set_cons_zero, List.set_cons_succ, i64_w, i32_w]
                      rfl
                    refine pure_ (i := 3) (N := some 129) (v := ?_) (a' := ?_) #[true, true, true, true, true, true, true, false, false] rfl rfl (by kernel_rfl) (fun _ _ _ h => h) (Or.inl ⟨by rfl, ?_⟩) ?_ ?_
                    rotate_left
                    · intro w'
                      go_simp
                      with_reducible rfl
                    rotate_left
                    · simp only [Act.put, List.setIfInBounds_toArray, List.set_cons_zero, List.set_cons_succ, i64_w, i32_w]
                      rfl
                    refine pure_ (i := 7) (N := some 133) (v := ?_) (a' := ?_) #[true, true, true, true, true, true, true, true, false] rfl rfl (by kernel_rfl) (fun _ _ _ h => h) (Or.inl ⟨by rfl, ?_⟩) ?_ ?_
                    rotate_left
                    · intro w'
                      go_simp
                      with_reducible rfl
                    rotate_left
                    · simp only [Act.put, List.setIfInBounds_toArray, List.set_cons_zero, List.set_cons_succ, i64_w, i32_w]
                      rfl
                    refine pure_ (i := 8) (N := some 2) (v := ?_) (a' := ?_) #[true, true, true, true, true, true, true, true, true] rfl rfl (by kernel_rfl) (fun _ _ _ h => h) (Or.inl ⟨by rfl, ?_⟩) ?_ ?_
                    rotate_left
                    · intro w'
                      go_simp
                      with_reducible rfl
                    rotate_left
                    · simp only [Act.put, List.setIfInBounds_toArray, List.set_cons_zero, List.set_cons_succ, i64_w, i32_w]
                      rfl
                    refine done_ (by kernel_rfl) ?_
                    
                    have HB8 := Lib.hid hb8
                    have HBQ := Lib.hid (show Bk bq (DOK root next ns) from ⟨fun h => ⟨⟨by have := HCA.out; omega, by have := HCA.out; omega⟩, HCB.out, SO.out, SK.out, ⟨HHB.out, HKZ.out, DL.out⟩, by rw [HOS.out]; have := hbq.trans h; exact Int.ofNat.inj (beq_iff_eq.1 this)⟩, fun h => by rw [← hbq]; exact beq_iff_eq.2 (by rw [← HOS.out, h.2.2.2.2.2])⟩)
                    go_wp2
                    go_ret
                    exact ⟨⟨bq, by first | rfl | simp [hbq], HBQ.out⟩, HB8.out⟩
                · have E5 : (kz == (ns.length : Int) - 1) = false := beq_eq_false_iff_ne.mpr e5
                  have E5b : (kz != (ns.length : Int) - 1) = true := bne_iff_ne.mpr e5
                  have NB := Lib.hid (show ¬ DOK root next ns from fun h => e5 (by have := h.2.2.2.2.1.2.1; omega))
                  clear e5
                  go_wp2
                  go_ret
                  exact ⟨⟨false, rfl, ⟨(fun h => by cases h), fun h => absurd h NB.out⟩⟩, HB4.out⟩
              --L4>
    · go_enter Try.func36, Try.ntmps36
      go_wp2_with (first | ((with_reducible refine gate_dst (N := 1) rfl ?_); refine box_event ?hg (N := 1) ?hd (cs := #[.int .i64 root, .int .i64 next, .slice A ns.length c]) (t := 24) ?hr ?_; (case hd => rfl); (case hg => rfl); (case hr => first | (go_simp; done) | (go_simp; rfl)); intro g hg w1 hb1 hB1; clear hg; have HB := Lib.hid hB1; have hz1 : w1.cell? ⟨g, 1, none⟩ = some (.int .i64 next) := (blk_cell hb1 1).trans rfl; have hz2 : w1.cell? ⟨g, 2, none⟩ = some (.slice A ns.length c) := (blk_cell hb1 2).trans rfl; clear hb1 hB1))
      refine (within_c _ _ _ _ (r := true) (decide_eq_true ca)).mono ?_
      rintro e w2 ⟨rfl, nd, rfl⟩
      go_wp2_with fail
      refine (within_c _ _ _ _ (r := false) (decide_eq_false cb)).mono ?_
      rintro e w2 ⟨rfl, nd2, rfl⟩
      go_wp2
      go_ret
      exact ⟨⟨false, rfl, ⟨(fun h => by cases h), fun h => absurd h.2.1 cb⟩⟩, pw_below_drewN HB.out _⟩
  · go_enter Try.func36, Try.ntmps36
    go_wp2_with (first | ((with_reducible refine gate_dst (N := 1) rfl ?_); refine box_event ?hg (N := 1) ?hd (cs := #[.int .i64 root, .int .i64 next, .slice A ns.length c]) (t := 24) ?hr ?_; (case hd => rfl); (case hg => rfl); (case hr => first | (go_simp; done) | (go_simp; rfl)); intro g hg w1 hb1 hB1; clear hg; have HB := Lib.hid hB1; have hz2 : w1.cell? ⟨g, 2, none⟩ = some (.slice A ns.length c) := (blk_cell hb1 2).trans rfl; clear hb1 hB1))
    refine (within_c _ _ _ _ (r := false) (decide_eq_false ca)).mono ?_
    rintro e w2 ⟨rfl, nd, rfl⟩
    go_wp2
    go_ret
    exact ⟨⟨false, rfl, ⟨(fun h => by cases h), fun h => absurd h.1 (by omega)⟩⟩, pw_below_drewN HB.out _⟩
end Go.Proofs.Ytfafehhallbjiaa.H
set_option linter.unusedVariables false
namespace Go.Proofs.Ytfafehhallbjiaa.H
open Go.RowKit Go.Proofs.YtfafehhallbjiaaW.PrintWords Go.Proofs.YtfafehhallbjiaaW.PrintLast Go.Proofs.Ytfafehhallbjiaa.Q
noncomputable def docB (root next : Int) (ns : List Nd) : Bool := @decide (DOK root next ns) (Classical.propDecidable _)
theorem docB_iff {root next : Int} {ns : List Nd} : docB root next ns = true ↔ DOK root next ns := by unfold docB; exact @decide_eq_true_iff _ (Classical.propDecidable _)
noncomputable def impl_DocOK.f (a0_0 : Int) (a0_1 : Int) (l0_2 : List (S88)) : Option Bool := @ite _ (All64 a0_0 l0_2) (Classical.propDecidable _) (some (docB a0_0 a0_1 l0_2)) none
theorem impl_DocOK.calls (a0_0 : Int) (a0_1 : Int) (A0_2 : Option Addr) (c0_2 : Nat) (l0_2 : List (S88)) (r : Bool) (w : World) (hr0_2 : Kd.C k88 w A0_2 l0_2.length l0_2) (hc0_2 : l0_2.length ≤ c0_2) (h : impl_DocOK.f a0_0 a0_1 l0_2 = some r) :
    Calls Try.prog 36 #[.agg #[.int .i64 a0_0, .int .i64 a0_1, .slice A0_2 l0_2.length c0_2]] w fun e w' => e = .returned (.bool r) ∧ Below w.heap.size w w' := by
  unfold impl_DocOK.f at h
  by_cases c : All64 a0_0 l0_2
  · rw [if_pos c] at h
    obtain rfl := Option.some.inj h
    refine (docOK_calls a0_0 a0_1 A0_2 c0_2 l0_2 w hr0_2 hc0_2 c).mono ?_
    rintro e w' ⟨⟨b, rfl, hb⟩, hB⟩
    refine ⟨?_, hB⟩
    have e1 : docB a0_0 a0_1 l0_2 = b := Bool.eq_iff_iff.2 (docB_iff.trans hb.symm)
    rw [e1]
  · rw [if_neg c] at h; cases h
end Go.Proofs.Ytfafehhallbjiaa.H
set_option linter.unusedVariables false
set_option linter.unusedSimpArgs false
namespace Go.Proofs.Ytfafehhallbjiaa.H
open Go.RowKit Go.Proofs.YtfafehhallbjiaaW.PrintWords Go.Proofs.YtfafehhallbjiaaW.PrintLast Go.Proofs.Ytfafehhallbjiaa.Q
theorem st3 {w : World} {g T : Nat} {c0 c1 c2 : Value} (h : w.heap[g]? = some (.cells #[c0, c1, c2] T (0, 0))) (v0 v1 v2 : Value) : (((w.setCell ⟨g, 0, none⟩ v0).setCell ⟨g, 1, none⟩ v1).setCell ⟨g, 2, none⟩ v2).heap[g]? = some (.cells #[v0, v1, v2] T (0, 0)) :=
  blk_put (blk_put (blk_put h 0 v0 rfl) 1 v1 rfl) 2 v2 rfl
theorem st3_below {w0 w : World} {g : Nat} (h : Below w0.heap.size w0 w) (hg : w0.heap.size ≤ g) (v0 v1 v2 : Value) : Below w0.heap.size w0 (((w.setCell ⟨g, 0, none⟩ v0).setCell ⟨g, 1, none⟩ v1).setCell ⟨g, 2, none⟩ v2) := below_set (below_set (below_set h hg) hg) hg
theorem rowN_doc {w : World} {base g : Nat} {ok : Nat → Prop} {v : Value} {ns : List S88} {cs : Array Value} (h : Kd.S k88 88 w base ok v ns) (hb : w.heap[g]? = some (.cells cs 24 (0, 0))) (j : Nat) (u : Value) : Kd.S k88 88 (w.setCell ⟨g, j, none⟩ u) base ok v ns := Kd.S_set h hb (by decide) j u
theorem rowN_doc3 {w : World} {base g : Nat} {ok : Nat → Prop} {v : Value} {ns : List S88} {c0 c1 c2 : Value} (h : Kd.S k88 88 w base ok v ns) (hb : w.heap[g]? = some (.cells #[c0, c1, c2] 24 (0, 0))) (v0 v1 v2 : Value) : Kd.S k88 88 (((w.setCell ⟨g, 0, none⟩ v0).setCell ⟨g, 1, none⟩ v1).setCell ⟨g, 2, none⟩ v2) base ok v ns :=
  rowN_doc (rowN_doc (rowN_doc h hb 0 v0) (blk_set hb 0 v0) 1 v1) (blk_set (blk_set hb 0 v0) 1 v1) 2 v2
abbrev Dr := Int × Int × List S88 × Int
def noDr (c : Int) : Dr := (0, 0, [], c)
noncomputable def impl_ReadDoc.f (k : Nat) (t : ByteArray) : Option Dr :=
  if (t.size : Int) > 65536 then some (noDr 2) else (impl_readFrame.f k t).bind fun b => if b.2 = 0 then
    (impl_reader_doc.f k b.1 0 0).bind fun d => (impl_reader_end.f d.2.2.2.1 d.2.2.2.2.1 d.2.2.2.2.2).bind fun e => if e.1 = 0 then
      (impl_DocOK.f d.1 d.2.1 d.2.2.1).bind fun o => if o = true then some (d.1, d.2.1, d.2.2.1, 0) else some (noDr 10)
    else some (noDr e.1)
  else some (noDr b.2)
theorem impl_ReadDoc.mono : ∀ a0 k, LeO (impl_ReadDoc.f k a0) (impl_ReadDoc.f (k + 1) a0) := by
  intro a0 k
  unfold impl_ReadDoc.f
  refine LeO.ite (LeO.refl _) (LeO.bind (impl_readFrame.mono _ _) (fun _ => LeO.ite (LeO.bind (impl_reader_doc.mono _ _ _ _) (fun _ => LeO.refl _)) (LeO.refl _)))
def spec_l10ReadDoc.f (k : Nat) (t : ByteArray) : Option Dr :=
  (spec_l01ReadFrame.f k t).bind fun b => if b.2 = 0 then
    (spec_l10Reader_doc.f k b.1 0 0).bind fun d => (spec_l10Reader_end.f d.2.2.2.1 d.2.2.2.2.1 d.2.2.2.2.2).bind fun e => if e.1 = 0 then
      (spec_l02OK.f k d.1 d.2.1 d.2.2.1).bind fun o => if o = true then some (d.1, d.2.1, d.2.2.1, 0) else some (noDr 10)
    else some (noDr e.1)
  else some (noDr b.2)
theorem spec_l10ReadDoc.mono : ∀ a0 k, LeO (spec_l10ReadDoc.f k a0) (spec_l10ReadDoc.f (k + 1) a0) := by
  intro a0 k
  unfold spec_l10ReadDoc.f
  refine LeO.bind (spec_l01ReadFrame.mono _ _) (fun _ => LeO.ite (LeO.bind (spec_l10Reader_doc.mono _ _ _ _) (fun _ => LeO.bind (LeO.refl _) (fun _ => LeO.ite (LeO.bind (spec_l02OK.mono _ _ _ _) (fun _ => LeO.refl _)) (LeO.refl _)))) (LeO.refl _))
set_option maxHeartbeats 4000000 in
set_option maxRecDepth 100000 in
theorem impl_ReadDoc.calls (k : Nat) (t : ByteArray) (r1 r2 : Int) (r3 : List S88) (r4 : Int) (w : World) (h : impl_ReadDoc.f k t = some (r1, r2, r3, r4)) :
    Calls Try.prog 9 #[.string t] w fun e w' => ∃ v2_ : Value, e = .returned (.tuple #[.agg #[.int .i64 r1, .int .i64 r2, v2_], .int .i64 r4]) ∧ Kd.S k88 88 w' w.heap.size (fun _ => True) v2_ r3 ∧ Below w.heap.size w w' := by
  have hu := Try.underlying24
  unfold impl_ReadDoc.f at h
  by_cases c0 : (t.size : Int) > 65536
  · rw [if_pos c0] at h
    simp only [noDr, Option.some.injEq, Prod.mk.injEq] at h
    obtain ⟨rfl, rfl, rfl, rfl⟩ := h
    have c0b : impl_isLong.f t = some true := by unfold impl_isLong.f; exact congrArg some (decide_eq_true c0)
    clear c0
    go_enter Try.func9, Try.ntmps9
    go_wp2_with (first | ((with_reducible refine gate_dst (N := 2) rfl ?_); refine box_event ?hg (N := 2) ?hd (cs := #[.int .i64 0, .int .i64 0, .slice none 0 0]) (t := 24) ?hr ?_; (case hd => rfl); (case hg => rfl); (case hr => first | (go_simp; done) | (go_simp; rfl)); intro gd hggd w1 hbgd hBgd; have hLgd := Nat.le_of_eq hggd.symm; clear hggd) | (go_at_call 32; refine (impl_isLong.calls t true _ c0b).mono ?_; rintro e w2 ⟨rfl, hb2⟩; have BK2 := Lib.hid (blk_below hbgd hb2.below); have HB2 := Lib.hid (below_step hBgd hb2.below); have zgd_0 : World.cell? w2 ⟨gd, 0, none⟩ = some (.int .i64 0) := (blk_cell BK2.out 0).trans rfl; have zgd_1 : World.cell? w2 ⟨gd, 1, none⟩ = some (.int .i64 0) := (blk_cell BK2.out 1).trans rfl; have zgd_2 : World.cell? w2 ⟨gd, 2, none⟩ = some (.slice none 0 0) := (blk_cell BK2.out 2).trans rfl; have fgd_0 : World.frozen? w2 ⟨gd, 0, none⟩ = false := blk_frozen BK2.out 0; have fgd_1 : World.frozen? w2 ⟨gd, 1, none⟩ = false := blk_frozen BK2.out 1; have fgd_2 : World.frozen? w2 ⟨gd, 2, none⟩ = false := blk_frozen BK2.out 2; clear hbgd hBgd hb2))
    refine bodyPost_ret (results_ct rfl _ _ gd 24 #[.int .i64 0, .int .i64 0, .slice none 0 0] (0, 0) _ rfl (st3 BK2.out _ _ _) Try.underlying24 rfl (by kernel_rfl)) rfl ?_
    exact ⟨.slice none 0 0, rfl, Kd.S_nil _ _ _ _ _, st3_below HB2.out hLgd _ _ _⟩
  rw [if_neg c0] at h
  have c0b : impl_isLong.f t = some false := by unfold impl_isLong.f; exact congrArg some (decide_eq_false c0)
  clear c0
  obtain ⟨⟨body, code⟩, h1, h⟩ := Option.bind_eq_some_iff.1 h
  have HF := Lib.hid h1
  clear h1
  dsimp only at h
  go_enter Try.func9, Try.ntmps9
  go_wp2_with (first | ((with_reducible refine gate_dst (N := 2) rfl ?_); refine box_event ?hg (N := 2) ?hd (cs := #[.int .i64 0, .int .i64 0, .slice none 0 0]) (t := 24) ?hr ?_; (case hd => rfl); (case hg => rfl); (case hr => first | (go_simp; done) | (go_simp; rfl)); intro gd hggd w1 hbgd hBgd; have hLgd := Nat.le_of_eq hggd.symm; clear hggd) | (go_at_call 32; refine (impl_isLong.calls t false _ c0b).mono ?_; rintro e w2 ⟨rfl, hb2⟩; have BK2 := Lib.hid (blk_below hbgd hb2.below); have HB2 := Lib.hid (below_step hBgd hb2.below); clear hbgd hBgd hb2))
  refine (newReader k t body code w2 HF.out).mono ?_
  rintro e w3 ⟨g, rfl, hg3, hr3, hb3⟩
  have BK3 := Lib.hid (blk_below BK2.out hb3)
  have HB3 := Lib.hid (below_step HB2.out hb3)
  have HI3 := Lib.hid (show IsS66 w w3 g body 0 0 from ⟨hr3, Nat.le_trans HB2.out.size hg3⟩)
  clear hg3 hr3 hb3 BK2 HB2
  have zgd_0 : World.cell? w3 ⟨gd, 0, none⟩ = some (.int .i64 0) := (blk_cell BK3.out 0).trans rfl; have zgd_1 : World.cell? w3 ⟨gd, 1, none⟩ = some (.int .i64 0) := (blk_cell BK3.out 1).trans rfl; have zgd_2 : World.cell? w3 ⟨gd, 2, none⟩ = some (.slice none 0 0) := (blk_cell BK3.out 2).trans rfl; have fgd_0 : World.frozen? w3 ⟨gd, 0, none⟩ = false := blk_frozen BK3.out 0; have fgd_1 : World.frozen? w3 ⟨gd, 1, none⟩ = false := blk_frozen BK3.out 1; have fgd_2 : World.frozen? w3 ⟨gd, 2, none⟩ = false := blk_frozen BK3.out 2
  by_cases c1 : ¬ code = 0
  · rw [if_neg c1] at h
    simp only [noDr, Option.some.injEq, Prod.mk.injEq] at h
    obtain ⟨rfl, rfl, rfl, rfl⟩ := h
    have b1 : (code != 0) = true := bne_iff_ne.mpr c1
    clear c1
    go_wp2
    refine bodyPost_ret (results_ct rfl _ _ gd 24 #[.int .i64 0, .int .i64 0, .slice none 0 0] (0, 0) _ rfl (st3 BK3.out _ _ _) Try.underlying24 rfl (by kernel_rfl)) rfl ?_
    exact ⟨.slice none 0 0, rfl, Kd.S_nil _ _ _ _ _, st3_below HB3.out hLgd _ _ _⟩
  replace c1 := Classical.not_not.1 c1
  rw [if_pos c1] at h
  have b1 : (code != 0) = false := bne_eq_false_iff_eq.mpr c1
  obtain ⟨⟨root, next, ns, q1, q2, q3⟩, h2, h⟩ := Option.bind_eq_some_iff.1 h
  have HD := Lib.hid h2
  clear c1 h2
  dsimp only at h
  obtain ⟨⟨ec, p1, p2, p3⟩, h3, h⟩ := Option.bind_eq_some_iff.1 h
  have HE := Lib.hid h3
  clear h3
  dsimp only at h
  go_wp2_with fail
  refine (impl_reader_doc.calls k g body 0 0 root next ns q1 q2 q3 w w3 HI3.out HB3.out HD.out).mono ?_
  rintro e w4 ⟨v2, rfl, hS4, hI4, hB4, hK4⟩
  have hng : gd ≠ g := fun e_ => (IsS66.ne_blk HI3.out BK3.out (by decide)) e_.symm
  have BK4 := Lib.hid (hK4.blk BK3.out hng (by simp))
  have HB4 := Lib.hid hB4
  have HI4 := Lib.hid hI4
  have HS4 := Lib.hid (Kd.S_lower hS4 HB3.out.size)
  clear zgd_0 zgd_1 zgd_2 fgd_0 fgd_1 fgd_2
  clear hS4 hI4 hB4 hK4 hng BK3 HB3 HI3
  obtain ⟨A4, c4, rfl⟩ := Kd.S_slice HS4.out
  go_wp2_with (first | ((with_reducible refine gate_dst (N := 6) rfl ?_); refine box_event ?hg (N := 6) ?hd (cs := #[.int .i64 0, .int .i64 0, .slice none 0 0]) (t := 24) ?hr ?_; (case hd => rfl); (case hg => rfl); (case hr => first | (go_simp; done) | (go_simp; rfl)); intro gx hggx w5 hbgx hBgx; have hLgx := Nat.le_of_eq hggx.symm; clear hggx; have NE5 := Lib.hid (show gd ≠ gx from fun e_ => Nat.lt_irrefl gx (Nat.lt_of_lt_of_le (e_ ▸ blk_lt BK4.out) hLgx)); have BK5 := Lib.hid (blk_below BK4.out hBgx); have BX5 := Lib.hid hbgx; have HB5 := Lib.hid (below_step HB4.out hBgx); have HI5 := Lib.hid (IsS66.below HI4.out hBgx); have HS5 := Lib.hid (Kd.S_below HS4.out hBgx); have hLgx2 := Nat.le_trans HB4.out.size hLgx; have zgx_0 : World.cell? w5 ⟨gx, 0, none⟩ = some (.int .i64 0) := (blk_cell BX5.out 0).trans rfl; have zgx_1 : World.cell? w5 ⟨gx, 1, none⟩ = some (.int .i64 0) := (blk_cell BX5.out 1).trans rfl; have zgx_2 : World.cell? w5 ⟨gx, 2, none⟩ = some (.slice none 0 0) := (blk_cell BX5.out 2).trans rfl; have fgx_0 : World.frozen? w5 ⟨gx, 0, none⟩ = false := blk_frozen BX5.out 0; have fgx_1 : World.frozen? w5 ⟨gx, 1, none⟩ = false := blk_frozen BX5.out 1; have fgx_2 : World.frozen? w5 ⟨gx, 2, none⟩ = false := blk_frozen BX5.out 2; clear hbgx hBgx BK4 HB4 HI4 HS4) | fail)
  have hngx : g ≠ gx := IsS66.ne_blk HI5.out BX5.out (by decide)
  have hngd : gd ≠ g := fun e_ => (IsS66.ne_blk HI5.out BK5.out (by decide)) e_.symm
  have BX6 := Lib.hid (st3 BX5.out (.int .i64 root) (.int .i64 next) (.slice A4 ns.length c4))
  have HI6 := Lib.hid (IsS66.far (p := ⟨gx, 2, none⟩) (IsS66.far (p := ⟨gx, 1, none⟩) (IsS66.far (p := ⟨gx, 0, none⟩) HI5.out hngx (.int .i64 root)) hngx (.int .i64 next)) hngx (.slice A4 ns.length c4))
  have BK6 := Lib.hid (blk_far (p := ⟨gx, 2, none⟩) (blk_far (p := ⟨gx, 1, none⟩) (blk_far (p := ⟨gx, 0, none⟩) BK5.out NE5.out (.int .i64 root)) NE5.out (.int .i64 next)) NE5.out (.slice A4 ns.length c4))
  have HB6 := Lib.hid (st3_below HB5.out hLgx2 (.int .i64 root) (.int .i64 next) (.slice A4 ns.length c4))
  have HS6 := Lib.hid (rowN_doc3 HS5.out BX5.out (.int .i64 root) (.int .i64 next) (.slice A4 ns.length c4))
  clear zgx_0 zgx_1 zgx_2 fgx_0 fgx_1 fgx_2
  clear BX5 HI5 BK5 HB5 HS5
  generalize ((w5.setCell ⟨gx, 0, none⟩ (.int .i64 root)).setCell ⟨gx, 1, none⟩ (.int .i64 next)).setCell ⟨gx, 2, none⟩ (.slice A4 ns.length c4) = w6 at *
  refine (impl_reader_end.calls g q1 q2 q3 ec p1 p2 p3 w w6 HI6.out HB6.out HE.out).mono ?_
  rintro e w7 ⟨rfl, hI7, hB7, hK7⟩
  have BX7 := Lib.hid (hK7.blk BX6.out (Ne.symm hngx) (by simp))
  have BK7 := Lib.hid (hK7.blk BK6.out hngd (by simp))
  have HB7 := Lib.hid hB7
  have HS7 := Lib.hid (Kd.S_mono (ok' := fun _ => True) (Kd.S_keep (IsS66.apartS HI6.out HS6.out (by decide)) hK7 (fun _ h => h.2)) (fun _ h => h.1))
  clear hI7 hB7 hK7 BX6 HI6 BK6 HB6 HS6
  have zgd_0 : World.cell? w7 ⟨gd, 0, none⟩ = some (.int .i64 0) := (blk_cell BK7.out 0).trans rfl; have zgd_1 : World.cell? w7 ⟨gd, 1, none⟩ = some (.int .i64 0) := (blk_cell BK7.out 1).trans rfl; have zgd_2 : World.cell? w7 ⟨gd, 2, none⟩ = some (.slice none 0 0) := (blk_cell BK7.out 2).trans rfl; have fgd_0 : World.frozen? w7 ⟨gd, 0, none⟩ = false := blk_frozen BK7.out 0; have fgd_1 : World.frozen? w7 ⟨gd, 1, none⟩ = false := blk_frozen BK7.out 1; have fgd_2 : World.frozen? w7 ⟨gd, 2, none⟩ = false := blk_frozen BK7.out 2
  by_cases c2 : ¬ ec = 0
  · rw [if_neg c2] at h
    simp only [noDr, Option.some.injEq, Prod.mk.injEq] at h
    obtain ⟨rfl, rfl, rfl, rfl⟩ := h
    have b2 : (ec != 0) = true := bne_iff_ne.mpr c2
    clear c2
    go_wp2
    refine bodyPost_ret (results_ct rfl _ _ gd 24 #[.int .i64 0, .int .i64 0, .slice none 0 0] (0, 0) _ rfl (st3 BK7.out _ _ _) Try.underlying24 rfl (by kernel_rfl)) rfl ?_
    exact ⟨.slice none 0 0, rfl, Kd.S_nil _ _ _ _ _, st3_below HB7.out hLgd _ _ _⟩
  replace c2 := Classical.not_not.1 c2
  rw [if_pos c2] at h
  have b2 : (ec != 0) = false := bne_eq_false_iff_eq.mpr c2
  obtain ⟨o, h4, h⟩ := Option.bind_eq_some_iff.1 h
  have HO := Lib.hid h4
  clear c2 h4
  have z2 : w7.cell? ⟨gx, 0, none⟩ = some (.int .i64 root) := (blk_cell BX7.out 0).trans rfl
  have z3 : w7.cell? ⟨gx, 1, none⟩ = some (.int .i64 next) := (blk_cell BX7.out 1).trans rfl
  have z4 : w7.cell? ⟨gx, 2, none⟩ = some (.slice A4 ns.length c4) := (blk_cell BX7.out 2).trans rfl
  go_wp2_with fail
  refine (impl_DocOK.calls root next A4 c4 ns o w7 (Kd.S_reads' HS7.out).2.2 (Kd.S_reads' HS7.out).2.1 HO.out).mono ?_
  rintro e w8 ⟨rfl, hB8⟩
  have BX8 := Lib.hid (blk_below BX7.out hB8)
  have BK8 := Lib.hid (blk_below BK7.out hB8)
  have HB8 := Lib.hid (below_step HB7.out hB8)
  have HS8 := Lib.hid (Kd.S_below HS7.out hB8)
  clear zgd_0 zgd_1 zgd_2 fgd_0 fgd_1 fgd_2
  clear z2 z3 z4 hB8 BX7 BK7 HB7 HS7
  have zgd_0 : World.cell? w8 ⟨gd, 0, none⟩ = some (.int .i64 0) := (blk_cell BK8.out 0).trans rfl; have zgd_1 : World.cell? w8 ⟨gd, 1, none⟩ = some (.int .i64 0) := (blk_cell BK8.out 1).trans rfl; have zgd_2 : World.cell? w8 ⟨gd, 2, none⟩ = some (.slice none 0 0) := (blk_cell BK8.out 2).trans rfl; have fgd_0 : World.frozen? w8 ⟨gd, 0, none⟩ = false := blk_frozen BK8.out 0; have fgd_1 : World.frozen? w8 ⟨gd, 1, none⟩ = false := blk_frozen BK8.out 1; have fgd_2 : World.frozen? w8 ⟨gd, 2, none⟩ = false := blk_frozen BK8.out 2
  cases o with
  | false =>
    rw [if_neg (by decide)] at h
    simp only [noDr, Option.some.injEq, Prod.mk.injEq] at h
    obtain ⟨rfl, rfl, rfl, rfl⟩ := h
    go_wp2
    refine bodyPost_ret (results_ct rfl _ _ gd 24 #[.int .i64 0, .int .i64 0, .slice none 0 0] (0, 0) _ rfl (st3 BK8.out _ _ _) Try.underlying24 rfl (by kernel_rfl)) rfl ?_
    exact ⟨.slice none 0 0, rfl, Kd.S_nil _ _ _ _ _, st3_below HB8.out hLgd _ _ _⟩
  | true =>
    rw [if_pos rfl] at h
    simp only [Option.some.injEq, Prod.mk.injEq] at h
    obtain ⟨rfl, rfl, rfl, rfl⟩ := h
    have z2 : w8.cell? ⟨gx, 0, none⟩ = some (.int .i64 root) := (blk_cell BX8.out 0).trans rfl
    have z3 : w8.cell? ⟨gx, 1, none⟩ = some (.int .i64 next) := (blk_cell BX8.out 1).trans rfl
    have z4 : w8.cell? ⟨gx, 2, none⟩ = some (.slice A4 ns.length c4) := (blk_cell BX8.out 2).trans rfl
    go_wp2
    refine bodyPost_ret (results_ct rfl _ _ gd 24 #[.int .i64 root, .int .i64 next, .slice A4 ns.length c4] (0, 0) _ rfl (st3 BK8.out _ _ _) Try.underlying24 rfl (by kernel_rfl)) rfl ?_
    exact ⟨.slice A4 ns.length c4, rfl, rowN_doc3 HS8.out BK8.out _ _ _, st3_below HB8.out hLgd _ _ _⟩
set_option maxHeartbeats 4000000 in
set_option maxRecDepth 100000 in
theorem spec_l10ReadDoc.calls (k : Nat) (t : ByteArray) (r1 r2 : Int) (r3 : List S88) (r4 : Int) (w : World) (h : spec_l10ReadDoc.f k t = some (r1, r2, r3, r4)) :
    Calls Try.prog 31 #[.string t] w fun e w' => ∃ v2_ : Value, e = .returned (.tuple #[.agg #[.int .i64 r1, .int .i64 r2, v2_], .int .i64 r4]) ∧ Kd.S k88 88 w' w.heap.size (fun _ => True) v2_ r3 ∧ Below w.heap.size w w' := by
  have hu := Try.underlying24
  unfold spec_l10ReadDoc.f at h
  obtain ⟨⟨body, code⟩, h1, h⟩ := Option.bind_eq_some_iff.1 h
  have HF := Lib.hid h1
  clear h1
  dsimp only at h
  go_enter Try.func31, Try.ntmps31
  go_wp2_with (first | ((with_reducible refine gate_dst (N := 2) rfl ?_); refine box_event ?hg (N := 2) ?hd (cs := #[.int .i64 0, .int .i64 0, .slice none 0 0]) (t := 24) ?hr ?_; (case hd => rfl); (case hg => rfl); (case hr => first | (go_simp; done) | (go_simp; rfl)); intro gd hggd w1 hbgd hBgd; have hLgd := Nat.le_of_eq hggd.symm; clear hggd) | fail)
  refine (spec_l01ReadFrame.calls k t body code _ HF.out).mono ?_
  rintro e w2 ⟨rfl, hb2⟩
  have BK2 := Lib.hid (blk_below hbgd hb2.below)
  have HB2 := Lib.hid (below_step hBgd hb2.below)
  clear hbgd hBgd hb2
  have zgd_0 : World.cell? w2 ⟨gd, 0, none⟩ = some (.int .i64 0) := (blk_cell BK2.out 0).trans rfl; have zgd_1 : World.cell? w2 ⟨gd, 1, none⟩ = some (.int .i64 0) := (blk_cell BK2.out 1).trans rfl; have zgd_2 : World.cell? w2 ⟨gd, 2, none⟩ = some (.slice none 0 0) := (blk_cell BK2.out 2).trans rfl; have fgd_0 : World.frozen? w2 ⟨gd, 0, none⟩ = false := blk_frozen BK2.out 0; have fgd_1 : World.frozen? w2 ⟨gd, 1, none⟩ = false := blk_frozen BK2.out 1; have fgd_2 : World.frozen? w2 ⟨gd, 2, none⟩ = false := blk_frozen BK2.out 2
  by_cases c1 : ¬ code = 0
  · rw [if_neg c1] at h
    simp only [noDr, Option.some.injEq, Prod.mk.injEq] at h
    obtain ⟨rfl, rfl, rfl, rfl⟩ := h
    have b1 : (code != 0) = true := bne_iff_ne.mpr c1
    clear c1
    go_wp2
    refine bodyPost_ret (results_ct rfl _ _ gd 24 #[.int .i64 0, .int .i64 0, .slice none 0 0] (0, 0) _ rfl (st3 BK2.out _ _ _) Try.underlying24 rfl (by kernel_rfl)) rfl ?_
    exact ⟨.slice none 0 0, rfl, Kd.S_nil _ _ _ _ _, st3_below HB2.out hLgd _ _ _⟩
  replace c1 := Classical.not_not.1 c1
  rw [if_pos c1] at h
  have b1 : (code != 0) = false := bne_eq_false_iff_eq.mpr c1
  obtain ⟨⟨root, next, ns, q1, q2, q3⟩, h2, h⟩ := Option.bind_eq_some_iff.1 h
  have HD := Lib.hid h2
  clear c1 h2
  dsimp only at h
  obtain ⟨⟨ec, p1, p2, p3⟩, h3, h⟩ := Option.bind_eq_some_iff.1 h
  have HE := Lib.hid h3
  clear h3
  dsimp only at h
  go_wp2_with (first | ((with_reducible refine gate_dst (N := 20) rfl ?_); refine box_event ?hg (N := 20) ?hd (cs := #[.string body, .int .i64 0, .int .i64 0]) (t := 84) ?hr ?_; (case hd => rfl); (case hg => rfl); (case hr => first | (go_simp; done) | (go_simp; rfl)); intro g hg w3 hbg hBg; have BK3 := Lib.hid (blk_below BK2.out hBg); have HB3 := Lib.hid (below_step HB2.out hBg); have HI3 := Lib.hid (show IsS84 w w3 g body 0 0 from ⟨hbg, by rw [hg]; exact HB2.out.size⟩); clear hg hbg hBg))
  refine (spec_l10Reader_doc.calls k g body 0 0 root next ns q1 q2 q3 w w3 HI3.out HB3.out HD.out).mono ?_
  rintro e w4 ⟨v2, rfl, hS4, hI4, hB4, hK4⟩
  have hng : gd ≠ g := fun e_ => (IsS84.ne_blk HI3.out BK3.out (by decide)) e_.symm
  have BK4 := Lib.hid (hK4.blk BK3.out hng (by simp))
  have HB4 := Lib.hid hB4
  have HI4 := Lib.hid hI4
  have HS4 := Lib.hid (Kd.S_lower hS4 HB3.out.size)
  clear zgd_0 zgd_1 zgd_2 fgd_0 fgd_1 fgd_2
  clear hS4 hI4 hB4 hK4 hng BK3 HB3 HI3 BK2 HB2
  obtain ⟨A4, c4, rfl⟩ := Kd.S_slice HS4.out
  go_wp2_with (first | ((with_reducible refine gate_dst (N := 7) rfl ?_); refine box_event ?hg (N := 7) ?hd (cs := #[.int .i64 0, .int .i64 0, .slice none 0 0]) (t := 24) ?hr ?_; (case hd => rfl); (case hg => rfl); (case hr => first | (go_simp; done) | (go_simp; rfl)); intro gx hggx w5 hbgx hBgx; have hLgx := Nat.le_of_eq hggx.symm; clear hggx; have NE5 := Lib.hid (show gd ≠ gx from fun e_ => Nat.lt_irrefl gx (Nat.lt_of_lt_of_le (e_ ▸ blk_lt BK4.out) hLgx)); have BK5 := Lib.hid (blk_below BK4.out hBgx); have BX5 := Lib.hid hbgx; have HB5 := Lib.hid (below_step HB4.out hBgx); have HI5 := Lib.hid (IsS84.below HI4.out hBgx); have HS5 := Lib.hid (Kd.S_below HS4.out hBgx); have hLgx2 := Nat.le_trans HB4.out.size hLgx; have zgx_0 : World.cell? w5 ⟨gx, 0, none⟩ = some (.int .i64 0) := (blk_cell BX5.out 0).trans rfl; have zgx_1 : World.cell? w5 ⟨gx, 1, none⟩ = some (.int .i64 0) := (blk_cell BX5.out 1).trans rfl; have zgx_2 : World.cell? w5 ⟨gx, 2, none⟩ = some (.slice none 0 0) := (blk_cell BX5.out 2).trans rfl; have fgx_0 : World.frozen? w5 ⟨gx, 0, none⟩ = false := blk_frozen BX5.out 0; have fgx_1 : World.frozen? w5 ⟨gx, 1, none⟩ = false := blk_frozen BX5.out 1; have fgx_2 : World.frozen? w5 ⟨gx, 2, none⟩ = false := blk_frozen BX5.out 2; clear hbgx hBgx BK4 HB4 HI4 HS4) | fail)
  have hngx : g ≠ gx := IsS84.ne_blk HI5.out BX5.out (by decide)
  have hngd : gd ≠ g := fun e_ => (IsS84.ne_blk HI5.out BK5.out (by decide)) e_.symm
  have BX6 := Lib.hid (st3 BX5.out (.int .i64 root) (.int .i64 next) (.slice A4 ns.length c4))
  have HI6 := Lib.hid (IsS84.far (p := ⟨gx, 2, none⟩) (IsS84.far (p := ⟨gx, 1, none⟩) (IsS84.far (p := ⟨gx, 0, none⟩) HI5.out hngx (.int .i64 root)) hngx (.int .i64 next)) hngx (.slice A4 ns.length c4))
  have BK6 := Lib.hid (blk_far (p := ⟨gx, 2, none⟩) (blk_far (p := ⟨gx, 1, none⟩) (blk_far (p := ⟨gx, 0, none⟩) BK5.out NE5.out (.int .i64 root)) NE5.out (.int .i64 next)) NE5.out (.slice A4 ns.length c4))
  have HB6 := Lib.hid (st3_below HB5.out hLgx2 (.int .i64 root) (.int .i64 next) (.slice A4 ns.length c4))
  have HS6 := Lib.hid (rowN_doc3 HS5.out BX5.out (.int .i64 root) (.int .i64 next) (.slice A4 ns.length c4))
  clear zgx_0 zgx_1 zgx_2 fgx_0 fgx_1 fgx_2
  clear BX5 HI5 BK5 HB5 HS5
  generalize ((w5.setCell ⟨gx, 0, none⟩ (.int .i64 root)).setCell ⟨gx, 1, none⟩ (.int .i64 next)).setCell ⟨gx, 2, none⟩ (.slice A4 ns.length c4) = w6 at *
  refine (spec_l10Reader_end.calls g q1 q2 q3 ec p1 p2 p3 w w6 HI6.out HB6.out HE.out).mono ?_
  rintro e w7 ⟨rfl, hI7, hB7, hK7⟩
  have BX7 := Lib.hid (hK7.blk BX6.out (Ne.symm hngx) (by simp))
  have BK7 := Lib.hid (hK7.blk BK6.out hngd (by simp))
  have HB7 := Lib.hid hB7
  have HS7 := Lib.hid (Kd.S_mono (ok' := fun _ => True) (Kd.S_keep (IsS84.apartS HI6.out HS6.out (by decide)) hK7 (fun _ h => h.2)) (fun _ h => h.1))
  clear hI7 hB7 hK7 BX6 HI6 BK6 HB6 HS6
  have zgd_0 : World.cell? w7 ⟨gd, 0, none⟩ = some (.int .i64 0) := (blk_cell BK7.out 0).trans rfl; have zgd_1 : World.cell? w7 ⟨gd, 1, none⟩ = some (.int .i64 0) := (blk_cell BK7.out 1).trans rfl; have zgd_2 : World.cell? w7 ⟨gd, 2, none⟩ = some (.slice none 0 0) := (blk_cell BK7.out 2).trans rfl; have fgd_0 : World.frozen? w7 ⟨gd, 0, none⟩ = false := blk_frozen BK7.out 0; have fgd_1 : World.frozen? w7 ⟨gd, 1, none⟩ = false := blk_frozen BK7.out 1; have fgd_2 : World.frozen? w7 ⟨gd, 2, none⟩ = false := blk_frozen BK7.out 2
  by_cases c2 : ¬ ec = 0
  · rw [if_neg c2] at h
    simp only [noDr, Option.some.injEq, Prod.mk.injEq] at h
    obtain ⟨rfl, rfl, rfl, rfl⟩ := h
    have b2 : (ec != 0) = true := bne_iff_ne.mpr c2
    clear c2
    go_wp2
    refine bodyPost_ret (results_ct rfl _ _ gd 24 #[.int .i64 0, .int .i64 0, .slice none 0 0] (0, 0) _ rfl (st3 BK7.out _ _ _) Try.underlying24 rfl (by kernel_rfl)) rfl ?_
    exact ⟨.slice none 0 0, rfl, Kd.S_nil _ _ _ _ _, st3_below HB7.out hLgd _ _ _⟩
  replace c2 := Classical.not_not.1 c2
  rw [if_pos c2] at h
  have b2 : (ec != 0) = false := bne_eq_false_iff_eq.mpr c2
  obtain ⟨o, h4, h⟩ := Option.bind_eq_some_iff.1 h
  have HO := Lib.hid h4
  clear c2 h4
  have z2 : w7.cell? ⟨gx, 0, none⟩ = some (.int .i64 root) := (blk_cell BX7.out 0).trans rfl
  have z3 : w7.cell? ⟨gx, 1, none⟩ = some (.int .i64 next) := (blk_cell BX7.out 1).trans rfl
  have z4 : w7.cell? ⟨gx, 2, none⟩ = some (.slice A4 ns.length c4) := (blk_cell BX7.out 2).trans rfl
  go_wp2_with fail
  refine (spec_l02OK.calls k root next A4 c4 ns o w7 (Kd.S_reads' HS7.out).2.2 (Kd.S_reads' HS7.out).2.1 HO.out).mono ?_
  rintro e w8 ⟨rfl, hB8⟩
  have BX8 := Lib.hid (blk_below BX7.out hB8)
  have BK8 := Lib.hid (blk_below BK7.out hB8)
  have HB8 := Lib.hid (below_step HB7.out hB8)
  have HS8 := Lib.hid (Kd.S_below HS7.out hB8)
  clear zgd_0 zgd_1 zgd_2 fgd_0 fgd_1 fgd_2
  clear z2 z3 z4 hB8 BX7 BK7 HB7 HS7
  have zgd_0 : World.cell? w8 ⟨gd, 0, none⟩ = some (.int .i64 0) := (blk_cell BK8.out 0).trans rfl; have zgd_1 : World.cell? w8 ⟨gd, 1, none⟩ = some (.int .i64 0) := (blk_cell BK8.out 1).trans rfl; have zgd_2 : World.cell? w8 ⟨gd, 2, none⟩ = some (.slice none 0 0) := (blk_cell BK8.out 2).trans rfl; have fgd_0 : World.frozen? w8 ⟨gd, 0, none⟩ = false := blk_frozen BK8.out 0; have fgd_1 : World.frozen? w8 ⟨gd, 1, none⟩ = false := blk_frozen BK8.out 1; have fgd_2 : World.frozen? w8 ⟨gd, 2, none⟩ = false := blk_frozen BK8.out 2
  cases o with
  | false =>
    rw [if_neg (by decide)] at h
    simp only [noDr, Option.some.injEq, Prod.mk.injEq] at h
    obtain ⟨rfl, rfl, rfl, rfl⟩ := h
    go_wp2
    refine bodyPost_ret (results_ct rfl _ _ gd 24 #[.int .i64 0, .int .i64 0, .slice none 0 0] (0, 0) _ rfl (st3 BK8.out _ _ _) Try.underlying24 rfl (by kernel_rfl)) rfl ?_
    exact ⟨.slice none 0 0, rfl, Kd.S_nil _ _ _ _ _, st3_below HB8.out hLgd _ _ _⟩
  | true =>
    rw [if_pos rfl] at h
    simp only [Option.some.injEq, Prod.mk.injEq] at h
    obtain ⟨rfl, rfl, rfl, rfl⟩ := h
    have z2 : w8.cell? ⟨gx, 0, none⟩ = some (.int .i64 root) := (blk_cell BX8.out 0).trans rfl
    have z3 : w8.cell? ⟨gx, 1, none⟩ = some (.int .i64 next) := (blk_cell BX8.out 1).trans rfl
    have z4 : w8.cell? ⟨gx, 2, none⟩ = some (.slice A4 ns.length c4) := (blk_cell BX8.out 2).trans rfl
    go_wp2
    refine bodyPost_ret (results_ct rfl _ _ gd 24 #[.int .i64 root, .int .i64 next, .slice A4 ns.length c4] (0, 0) _ rfl (st3 BK8.out _ _ _) Try.underlying24 rfl (by kernel_rfl)) rfl ?_
    exact ⟨.slice A4 ns.length c4, rfl, rowN_doc3 HS8.out BK8.out _ _ _, st3_below HB8.out hLgd _ _ _⟩
end Go.Proofs.Ytfafehhallbjiaa.H
namespace Go.Proofs.Ytfafehhallbjiaa.Q
open Go.RowKit Go.Proofs.YtfafehhallbjiaaW.PrintWords Go.Proofs.YtfafehhallbjiaaW.PrintLast Go.Proofs.YtfafehhallbjiaaW.PrintMore
open Go.Proofs.Ytfafehhallbjiaa.H
attribute [local go_sem] max2_int min2_int max_two min_two max_three min_three max_four min_four
set_option linter.unusedVariables false
set_option linter.unusedSimpArgs false
def spec_ReadDoc.f (k : Nat) (a0 : ByteArray) : Option (Int × Int × (List (S88)) × Int) := if (a0.size : Int) > 65536 then (some (0, 0, ([] : List (S88)), 2)) else ((spec_l10ReadDoc.f k a0).bind fun bt102 => (some (bt102.1, bt102.2.1, bt102.2.2.1, bt102.2.2.2)))
theorem spec_ReadDoc.mono : ∀ a0 k, LeO (spec_ReadDoc.f k a0) (spec_ReadDoc.f (k + 1) a0) := by
 intro a0 k
 unfold spec_ReadDoc.f
 repeat' first
   | (with_reducible exact spec_l10ReadDoc.mono _ _)
   | (with_reducible exact LeO.refl _)
   | (with_reducible exact LeO.none _)
   | (with_reducible refine LeO.ite ?_ ?_)
   | (with_reducible refine LeO.bind ?_ (fun _ => ?_))
   | exact spec_l10ReadDoc.mono _ _
   | exact LeO.none _
   | refine LeO.ite ?_ ?_
   | refine LeO.bind ?_ (fun _ => ?_)
set_option maxHeartbeats 8000000 in
set_option maxRecDepth 100000 in
theorem spec_ReadDoc.calls (k : Nat) (a0 : ByteArray) (r1 : Int) (r2 : Int) (r3 : List (S88)) (r4 : Int) (w : World) (h : spec_ReadDoc.f k a0 = some (r1, r2, r3, r4)) :
  Calls Try.prog 8 #[.string a0] w fun e w' => ∃ v2_ : Value, e = .returned (.tuple #[.agg #[.int .i64 r1, .int .i64 r2, v2_], .int .i64 r4]) ∧ Kd.S k88 88 w' w.heap.size (fun _ => True) v2_ r3 ∧ Below w.heap.size w w' := by
 have hu24 := Try.underlying24
 have HB := Aside0.mk (Below.refl w.heap.size w)
 have H : (if (a0.size : Int) > 65536 then (some (0, 0, ([] : List (S88)), 2)) else ((spec_l10ReadDoc.f k a0).bind fun bt102 => (some (bt102.1, bt102.2.1, bt102.2.2.1, bt102.2.2.2)))) = some (r1, r2, r3, r4) := h
 clear h
 by_cases c2 : (a0.size : Int) > 65536
 ·rw [if_pos c2] at H
  have c2b0 : decide (65536 < (a0.size : Int)) = true := decide_eq_true c2
  have c2b1 : decide (65536 < a0.size) = true := decide_eq_true (by omega)
  clear c2
  simp only [Option.some.injEq, Prod.mk.injEq] at H
  obtain ⟨rfl, rfl, rfl, rfl⟩ := H
  go_enter Try.func8, Try.ntmps8
  go_wp2_with (first | ((with_reducible refine gate_dst (N := 2) rfl ?_); refine box_event ?hg (N := 2) ?hd (cs := #[.int .i64 0, .int .i64 0, .slice none 0 0]) (t := 24) ?hr ?_; (case hd => rfl); (case hg => rfl); (case hr => first | (go_simp; done) | (go_simp; rfl)); intro gb101 hg w3 hbox hb; have n0_ := Aside0.mk (below_step (by repeat (first | (with_reducible first | exact HB.out | apply below_alloc | apply pw_below_drewN | apply below_drew1) | exact HB.out)) hb); have n1_ := Aside0.mk (hbox); have n2_ := Aside0.mk ((by rw [hg]; exact (below_size (by repeat (first | (with_reducible first | exact HB.out | apply below_alloc | apply pw_below_drewN | apply below_drew1) | exact HB.out))) : w.heap.size ≤ gb101)); have n3_ := Aside0.mk ((by rw [hg]; exact (below_size (by repeat (first | (with_reducible first | exact HB.out | apply below_alloc | apply pw_below_drewN | apply below_drew1) | exact HB.out))) : w.heap.size ≤ gb101)); clear HB; have HB := n0_; have BK101 := n1_; have GW101 := n2_; have GE101 := n3_; clear n0_ n1_ n2_ n3_; clear hb hbox hg; have hcz4_0 : w3.cell? ⟨gb101, 0, none⟩ = some (.int .i64 0) := (blk_cell BK101.out 0).trans rfl; have hcz4_1 : w3.cell? ⟨gb101, 1, none⟩ = some (.int .i64 0) := (blk_cell BK101.out 1).trans rfl; have hcz4_2 : w3.cell? ⟨gb101, 2, none⟩ = some (.slice none 0 0) := (blk_cell BK101.out 2).trans rfl; have hfz4_0 := blk_frozen BK101.out 0; have hfz4_1 := blk_frozen BK101.out 1; have hfz4_2 := blk_frozen BK101.out 2))
  refine bodyPost_ret (results_ct rfl _ _ gb101 24 #[.int .i64 0, .int .i64 0, .slice none 0 0] (0, 0) _ rfl (by (with_reducible repeat (first | refine blk_drewN ?_ _ | refine blk_drew ?_ | refine blk_alloc ?_ _)); refine blk_put (cs := #[.int .i64 0, .int .i64 0, .slice none 0 0]) ?_ 2 _ rfl; (with_reducible repeat (first | refine blk_drewN ?_ _ | refine blk_drew ?_ | refine blk_alloc ?_ _)); refine blk_put (cs := #[.int .i64 0, .int .i64 0, .slice none 0 0]) ?_ 1 _ rfl; (with_reducible repeat (first | refine blk_drewN ?_ _ | refine blk_drew ?_ | refine blk_alloc ?_ _)); refine blk_put (cs := #[.int .i64 0, .int .i64 0, .slice none 0 0]) ?_ 0 _ rfl; (with_reducible repeat (first | refine blk_drewN ?_ _ | refine blk_drew ?_ | refine blk_alloc ?_ _)); exact BK101.out) Try.underlying24 rfl (by kernel_rfl)) rfl ?_
  exact ⟨_, by first | rfl | (simp [errW_none, errW_some] <;> rfl) | (simp [*, errW_none, errW_some] <;> rfl), by first | exact Kd.S_nil _ _ _ _ _ | exact Kd.N_nil _ _ _ _ _ | exact Kd.V_nil _ _ _ _ _ | exact Kd.Q_nil _ _ _ _ _ | exact Kd.R_nil _ _ _ _ _, by repeat (first | (with_reducible first | exact HB.out | apply below_alloc | apply pw_below_drewN | apply below_drew1 | refine below_set ?_ GE101.out) | exact HB.out)⟩
 ·rw [if_neg c2] at H
  have c2b0 : decide (65536 < (a0.size : Int)) = false := decide_eq_false c2
  have c2b1 : decide (65536 < a0.size) = false := decide_eq_false (by omega)
  clear c2
  replace H := Option.bind_eq_some_iff.mp H
  obtain ⟨⟨t102, t103, t104, t107⟩, A50, H⟩ := H
  replace H : (some (t102, t103, t104, t107)) = some (r1, r2, r3, r4) := H
  have A5 := Aside0.mk A50
  clear A50
  simp only [Option.some.injEq, Prod.mk.injEq] at H
  obtain ⟨rfl, rfl, rfl, rfl⟩ := H
  go_enter Try.func8, Try.ntmps8
  go_wp2_with (first | ((with_reducible refine gate_dst (N := 2) rfl ?_); refine box_event ?hg (N := 2) ?hd (cs := #[.int .i64 0, .int .i64 0, .slice none 0 0]) (t := 24) ?hr ?_; (case hd => rfl); (case hg => rfl); (case hr => first | (go_simp; done) | (go_simp; rfl)); intro gb101 hg w6 hbox hb; have n0_ := Aside0.mk (below_step (by repeat (first | (with_reducible first | exact HB.out | apply below_alloc | apply pw_below_drewN | apply below_drew1) | exact HB.out)) hb); have n1_ := Aside0.mk (hbox); have n2_ := Aside0.mk ((by rw [hg]; exact (below_size (by repeat (first | (with_reducible first | exact HB.out | apply below_alloc | apply pw_below_drewN | apply below_drew1) | exact HB.out))) : w.heap.size ≤ gb101)); have n3_ := Aside0.mk ((by rw [hg]; exact (below_size (by repeat (first | (with_reducible first | exact HB.out | apply below_alloc | apply pw_below_drewN | apply below_drew1) | exact HB.out))) : w.heap.size ≤ gb101)); clear HB; have HB := n0_; have BK101 := n1_; have GW101 := n2_; have GE101 := n3_; clear n0_ n1_ n2_ n3_; clear hb hbox hg) | ((with_reducible refine gate_callee (f := 31) rfl ?_); refine goesL_ (some 9) rfl rfl Try.func31 (by kernel_rfl) rfl #[.string a0] rfl (by (try simp only [List.map_toArray, List.map_cons, List.map_nil]); first | done | rfl | (simp only [List.length_drop, List.length_take]; rfl)) ?_; (with_reducible refine (spec_l10ReadDoc.calls k a0 t102 t103 t104 t107 _ A5.out).mono ?_); rintro e w7 ⟨v105, rfl, ho0, hb⟩; refine ⟨_, rfl, ?_⟩; have n0_ := Aside0.mk (Kd.S_lower ho0 (below_size (by repeat (first | (with_reducible first | exact HB.out | apply below_alloc | apply pw_below_drewN | apply below_drew1 | refine below_set ?_ GE101.out) | exact HB.out)))); have n1_ := Aside0.mk (blk_below (g := gb101) (o := .cells #[.int .i64 0, .int .i64 0, .slice none 0 0] 24 (0, 0)) (by (with_reducible repeat (first | refine blk_drewN ?_ _ | refine blk_drew ?_ | refine blk_alloc ?_ _)); exact BK101.out) hb); have n2_ := Aside0.mk (below_step (by repeat (first | (with_reducible first | exact HB.out | apply below_alloc | apply pw_below_drewN | apply below_drew1 | refine below_set ?_ GE101.out) | exact HB.out)) hb); clear BK101; clear HB; have HO106 := n0_; have BK101 := n1_; have HB := n2_; clear n0_ n1_ n2_; (try clear hb); (try clear hb2); (try clear hk); (try clear hi); (try clear ho0); have hcz8_0 : w7.cell? ⟨gb101, 0, none⟩ = some (.int .i64 0) := (blk_cell BK101.out 0).trans rfl; have hcz8_1 : w7.cell? ⟨gb101, 1, none⟩ = some (.int .i64 0) := (blk_cell BK101.out 1).trans rfl; have hcz8_2 : w7.cell? ⟨gb101, 2, none⟩ = some (.slice none 0 0) := (blk_cell BK101.out 2).trans rfl; have hfz8_0 := blk_frozen BK101.out 0; have hfz8_1 := blk_frozen BK101.out 1; have hfz8_2 := blk_frozen BK101.out 2; obtain ⟨Ao9, co9, eo9⟩ := Kd.S_slice HO106.out; subst eo9))
  refine bodyPost_ret (results_ct rfl _ _ gb101 24 #[.int .i64 t102, .int .i64 t103, .slice Ao9 t104.length co9] (0, 0) _ rfl (by (with_reducible repeat (first | refine blk_drewN ?_ _ | refine blk_drew ?_ | refine blk_alloc ?_ _)); refine blk_put (cs := #[.int .i64 t102, .int .i64 t103, .slice none 0 0]) ?_ 2 _ rfl; (with_reducible repeat (first | refine blk_drewN ?_ _ | refine blk_drew ?_ | refine blk_alloc ?_ _)); refine blk_put (cs := #[.int .i64 t102, .int .i64 0, .slice none 0 0]) ?_ 1 _ rfl; (with_reducible repeat (first | refine blk_drewN ?_ _ | refine blk_drew ?_ | refine blk_alloc ?_ _)); refine blk_put (cs := #[.int .i64 0, .int .i64 0, .slice none 0 0]) ?_ 0 _ rfl; (with_reducible repeat (first | refine blk_drewN ?_ _ | refine blk_drew ?_ | refine blk_alloc ?_ _)); exact BK101.out) Try.underlying24 rfl (by kernel_rfl)) rfl ?_
  exact ⟨_, by first | rfl | (simp [errW_none, errW_some] <;> rfl) | (simp [*, errW_none, errW_some] <;> rfl), by (with_reducible repeat (first | apply Kd.S_alloc | apply Kd.S_drewN | apply Kd.S_drew)); exact Kd.S_mono (Kd.S_far (p := ⟨gb101, 2, none⟩) (Kd.S_far (p := ⟨gb101, 1, none⟩) (Kd.S_far (p := ⟨gb101, 0, none⟩) (Kd.S_types HO106.out BK101.out (by decide)) (fun _ hk => hk.2) (.int .i64 t102)) (fun _ hk => hk.2) (.int .i64 t103)) (fun _ hk => hk.2) (.slice Ao9 t104.length co9)) (fun _ hk => trivial), by repeat (first | (with_reducible first | exact HB.out | apply below_alloc | apply pw_below_drewN | apply below_drew1 | refine below_set ?_ GE101.out) | exact HB.out)⟩
end Go.Proofs.Ytfafehhallbjiaa.Q
set_option linter.unusedVariables false
set_option linter.unusedSimpArgs false
namespace Go.Proofs.Ytfafehhallbjiaa.Q
open Go.RowKit Go.Proofs.YtfafehhallbjiaaW.PrintWords Go.Proofs.YtfafehhallbjiaaW.PrintLast Go.Proofs.Ytfafehhallbjiaa.H
def ReadDocCond (k : Nat) (t : ByteArray) : Prop := (t.size : Int) > 1048576 ∨ ∃ root next ns code,
  spec_ReadDoc.f k t = some (root, next, ns, code) ∧ impl_ReadDoc.f k t = some (root, next, ns, code) ∧ laws_eqDoc.f k root next ns root next ns = some true ∧
    1 + markN ns ≤ 4611686018427387904 ∧ ns.length ≤ 4611686018427387904 ∧ laws_heldDoc.f k root next (markS 1 ns) 1 = some (1 + (markN ns : Int))
noncomputable def laws_FnExactReadDoc.f (k : Nat) (a0 : ByteArray) : Option Bool := @ite _ (ReadDocCond k a0) (Classical.propDecidable _) (some true) none
set_option maxHeartbeats 8000000 in
set_option maxRecDepth 100000 in
theorem laws_FnExactReadDoc.calls (k : Nat) (a0 : ByteArray) (r : Bool) (w : World) (h : laws_FnExactReadDoc.f k a0 = some r) :
    Calls Try.prog 3 #[.string a0] w fun e w' => e = .returned (.bool r) ∧ Below w.heap.size w w' := by
  have hu := Try.underlying24
  unfold laws_FnExactReadDoc.f at h
  by_cases c : ReadDocCond k a0
  case neg => rw [if_neg c] at h; cases h
  rw [if_pos c] at h
  obtain rfl := Option.some.inj h
  clear h
  rcases c with c | ⟨root, next, ns, code, h1, h2, h3, h4, h5, h6⟩
  · have c1 : decide ((1048576 : Int) < (a0.size : Int)) = true := decide_eq_true c
    have c2 : decide (1048576 < a0.size) = true := decide_eq_true (by omega)
    clear c
    go_enter Try.func3, Try.ntmps3
    go_wp2
    go_ret
    exact ⟨rfl, Below.refl _ _⟩
  by_cases cl : (a0.size : Int) > 1048576
  · have c1 : decide ((1048576 : Int) < (a0.size : Int)) = true := decide_eq_true cl
    have c2 : decide (1048576 < a0.size) = true := decide_eq_true (by omega)
    clear cl
    go_enter Try.func3, Try.ntmps3
    go_wp2
    go_ret
    exact ⟨rfl, Below.refl _ _⟩
  have c1 : decide ((1048576 : Int) < (a0.size : Int)) = false := decide_eq_false cl
  have c2 : decide (1048576 < a0.size) = false := decide_eq_false (by omega)
  clear cl
  have H1 := Lib.hid h1
  have H2 := Lib.hid h2
  have H3 := Lib.hid h3
  have H4 := Lib.hid (And.intro h4 h5)
  have H6 := Lib.hid h6
  have p1 : decide ((1 + (markN ns : Int)) < 0) = false := decide_eq_false (by omega)
  have p2 : ((1 + (markN ns : Int)) != (1 + (markN ns : Int))) = false := by simp
  have p3 : (code != code) = false := by simp
  have H4I := Lib.hid (show (1 : Int) + (markN ns : Int) ≤ 4611686018427387904 by omega)
  clear h1 h2 h3 h4 h5 h6
  obtain ⟨M, hM⟩ : ∃ M, 1 + (markN ns : Int) = M := ⟨_, rfl⟩
  have HM := Lib.hid hM
  rw [hM] at p1 p2
  clear hM
  go_enter Try.func3, Try.ntmps3
  go_wp2_with fail
  refine (spec_ReadDoc.calls k a0 root next ns code w H1.out).mono ?_
  rintro e w1 ⟨v1, rfl, hS1, hB1⟩
  have HS1 := Lib.hid hS1
  have HB1 := Lib.hid hB1
  clear hS1 hB1
  obtain ⟨A1, m1, rfl⟩ := Kd.S_slice HS1.out
  go_wp2_with (first | ((with_reducible refine gate_dst (N := 3) rfl ?_); refine box_event ?hg (N := 3) ?hd (cs := #[.int .i64 0, .int .i64 0, .slice none 0 0]) (t := 24) ?hr ?_; (case hd => rfl); (case hg => rfl); (case hr => first | (go_simp; done) | (go_simp; rfl)); intro g3 hgg3 w2 hbg3 hBg3; have hLg3 := Nat.le_of_eq hgg3.symm; clear hgg3; have BX2 := Lib.hid hbg3; have HB2 := Lib.hid (below_step HB1.out hBg3); have HS2 := Lib.hid (Kd.S_below HS1.out hBg3); have hLg3 := Nat.le_trans HB1.out.size hLg3; have zg3_0 : World.cell? w2 ⟨g3, 0, none⟩ = some (.int .i64 0) := (blk_cell BX2.out 0).trans rfl; have zg3_1 : World.cell? w2 ⟨g3, 1, none⟩ = some (.int .i64 0) := (blk_cell BX2.out 1).trans rfl; have zg3_2 : World.cell? w2 ⟨g3, 2, none⟩ = some (.slice none 0 0) := (blk_cell BX2.out 2).trans rfl; have fg3_0 : World.frozen? w2 ⟨g3, 0, none⟩ = false := blk_frozen BX2.out 0; have fg3_1 : World.frozen? w2 ⟨g3, 1, none⟩ = false := blk_frozen BX2.out 1; have fg3_2 : World.frozen? w2 ⟨g3, 2, none⟩ = false := blk_frozen BX2.out 2; clear hbg3 hBg3 HB1 HS1) | fail)
  have BX3 := Lib.hid (st3 BX2.out (.int .i64 root) (.int .i64 next) (.slice A1 ns.length m1))
  have HB3 := Lib.hid (st3_below HB2.out hLg3 (.int .i64 root) (.int .i64 next) (.slice A1 ns.length m1))
  have HS3 := Lib.hid (rowN_doc3 HS2.out BX2.out (.int .i64 root) (.int .i64 next) (.slice A1 ns.length m1))
  clear zg3_0 zg3_1 zg3_2 fg3_0 fg3_1 fg3_2
  clear BX2 HB2 HS2
  generalize ((w2.setCell ⟨g3, 0, none⟩ (.int .i64 root)).setCell ⟨g3, 1, none⟩ (.int .i64 next)).setCell ⟨g3, 2, none⟩ (.slice A1 ns.length m1) = w3 at *
  refine (impl_ReadDoc.calls k a0 root next ns code w3 H2.out).mono ?_
  rintro e w4 ⟨v2, rfl, hS4, hB4⟩
  have BX4 := Lib.hid (blk_below BX3.out hB4)
  have HL3 := Lib.hid (blk_lt BX3.out)
  have HB4 := Lib.hid (below_step HB3.out hB4)
  have HS4 := Lib.hid (Kd.S_below (Kd.S_mono (Kd.S_bound HS3.out) (ok' := fun k => k < w3.heap.size) (fun _ hk => hk.2.2.1)) hB4)
  have HT4 := Lib.hid hS4
  have HW3 := Lib.hid HB3.out.size
  have HW4 := Lib.hid hB4.size
  clear hS4 hB4 BX3 HB3 HS3
  obtain ⟨A2, m2, rfl⟩ := Kd.S_slice HT4.out
  go_upto_region 5 with (first | ((with_reducible refine gate_dst (N := 5) rfl ?_); refine box_event ?hg (N := 5) ?hd (cs := #[.int .i64 0, .int .i64 0, .slice none 0 0]) (t := 24) ?hr ?_; (case hd => rfl); (case hg => rfl); (case hr => first | (go_simp; done) | (go_simp; rfl)); intro g5 hgg5 w5 hbg5 hBg5; have hLg5 := Nat.le_of_eq hgg5.symm; clear hgg5; have BX5 := Lib.hid (blk_below BX4.out hBg5); have BY5 := Lib.hid hbg5; have HB5 := Lib.hid (below_step HB4.out hBg5); have HS5 := Lib.hid (Kd.S_below HS4.out hBg5); have HT5 := Lib.hid (Kd.S_below HT4.out hBg5); have hMg5 := Nat.le_trans HB4.out.size hLg5; have hLg5a := Nat.le_trans HW4.out hLg5; have NE35 := Lib.hid (show g3 ≠ g5 from fun e_ => Nat.lt_irrefl g5 (Nat.lt_of_lt_of_le (e_ ▸ blk_lt BX4.out) hLg5)); have zg5_0 : World.cell? w5 ⟨g5, 0, none⟩ = some (.int .i64 0) := (blk_cell BY5.out 0).trans rfl; have zg5_1 : World.cell? w5 ⟨g5, 1, none⟩ = some (.int .i64 0) := (blk_cell BY5.out 1).trans rfl; have zg5_2 : World.cell? w5 ⟨g5, 2, none⟩ = some (.slice none 0 0) := (blk_cell BY5.out 2).trans rfl; have fg5_0 : World.frozen? w5 ⟨g5, 0, none⟩ = false := blk_frozen BY5.out 0; have fg5_1 : World.frozen? w5 ⟨g5, 1, none⟩ = false := blk_frozen BY5.out 1; have fg5_2 : World.frozen? w5 ⟨g5, 2, none⟩ = false := blk_frozen BY5.out 2; clear hbg5 hBg5 BX4 HB4 HS4 HT4))
  have BY6 := Lib.hid (st3 BY5.out (.int .i64 root) (.int .i64 next) (.slice A2 ns.length m2))
  have BX6 := Lib.hid (blk_far (p := ⟨g5, 2, none⟩) (blk_far (p := ⟨g5, 1, none⟩) (blk_far (p := ⟨g5, 0, none⟩) BX5.out NE35.out (.int .i64 root)) NE35.out (.int .i64 next)) NE35.out (.slice A2 ns.length m2))
  have HB6 := Lib.hid (st3_below HB5.out hMg5 (.int .i64 root) (.int .i64 next) (.slice A2 ns.length m2))
  have HS6 := Lib.hid (rowN_doc3 HS5.out BY5.out (.int .i64 root) (.int .i64 next) (.slice A2 ns.length m2))
  have HT6 := Lib.hid (rowN_doc3 HT5.out BY5.out (.int .i64 root) (.int .i64 next) (.slice A2 ns.length m2))
  clear zg5_0 zg5_1 zg5_2 fg5_0 fg5_1 fg5_2
  clear BY5 BX5 HB5 HS5 HT5
  generalize ((w5.setCell ⟨g5, 0, none⟩ (.int .i64 root)).setCell ⟨g5, 1, none⟩ (.int .i64 next)).setCell ⟨g5, 2, none⟩ (.slice A2 ns.length m2) = w6 at *
  have zg3_0 : World.cell? w6 ⟨g3, 0, none⟩ = some (.int .i64 root) := (blk_cell BX6.out 0).trans rfl; have zg3_1 : World.cell? w6 ⟨g3, 1, none⟩ = some (.int .i64 next) := (blk_cell BX6.out 1).trans rfl; have zg3_2 : World.cell? w6 ⟨g3, 2, none⟩ = some (.slice A1 ns.length m1) := (blk_cell BX6.out 2).trans rfl; have fg3_0 : World.frozen? w6 ⟨g3, 0, none⟩ = false := blk_frozen BX6.out 0; have fg3_1 : World.frozen? w6 ⟨g3, 1, none⟩ = false := blk_frozen BX6.out 1; have fg3_2 : World.frozen? w6 ⟨g3, 2, none⟩ = false := blk_frozen BX6.out 2
  have zg5_0 : World.cell? w6 ⟨g5, 0, none⟩ = some (.int .i64 root) := (blk_cell BY6.out 0).trans rfl; have zg5_1 : World.cell? w6 ⟨g5, 1, none⟩ = some (.int .i64 next) := (blk_cell BY6.out 1).trans rfl; have zg5_2 : World.cell? w6 ⟨g5, 2, none⟩ = some (.slice A2 ns.length m2) := (blk_cell BY6.out 2).trans rfl; have fg5_0 : World.frozen? w6 ⟨g5, 0, none⟩ = false := blk_frozen BY6.out 0; have fg5_1 : World.frozen? w6 ⟨g5, 1, none⟩ = false := blk_frozen BY6.out 1; have fg5_2 : World.frozen? w6 ⟨g5, 2, none⟩ = false := blk_frozen BY6.out 2
  go_wp2_with fail
  refine (laws_eqDoc.calls k root next A2 m2 ns root next A1 m1 ns true w6 (Kd.S_reads' HT6.out).2.2 (Kd.S_reads' HT6.out).2.1 (Kd.S_reads' HS6.out).2.2 (Kd.S_reads' HS6.out).2.1 H3.out).mono ?_
  rintro e w7 ⟨rfl, hB7⟩
  have BX7 := Lib.hid (blk_below BX6.out hB7)
  have BY7 := Lib.hid (blk_below BY6.out hB7)
  have HB7 := Lib.hid (below_step HB6.out hB7)
  have HS7 := Lib.hid (Kd.S_below HS6.out hB7)
  have HT7 := Lib.hid (Kd.S_mono (Kd.S_bound (Kd.S_types (Kd.S_below HT6.out hB7) BY7.out (by decide))) (ok' := fun k => w3.heap.size ≤ k ∧ k ≠ g5) (fun _ hk => ⟨hk.2.1, hk.1.2⟩))
  clear zg3_0 zg3_1 zg3_2 fg3_0 fg3_1 fg3_2
  clear zg5_0 zg5_1 zg5_2 fg5_0 fg5_1 fg5_2
  clear hB7 BY6 BX6 HB6 HS6 HT6
  have zg3_0 : World.cell? w7 ⟨g3, 0, none⟩ = some (.int .i64 root) := (blk_cell BX7.out 0).trans rfl; have zg3_1 : World.cell? w7 ⟨g3, 1, none⟩ = some (.int .i64 next) := (blk_cell BX7.out 1).trans rfl; have zg3_2 : World.cell? w7 ⟨g3, 2, none⟩ = some (.slice A1 ns.length m1) := (blk_cell BX7.out 2).trans rfl; have fg3_0 : World.frozen? w7 ⟨g3, 0, none⟩ = false := blk_frozen BX7.out 0; have fg3_1 : World.frozen? w7 ⟨g3, 1, none⟩ = false := blk_frozen BX7.out 1; have fg3_2 : World.frozen? w7 ⟨g3, 2, none⟩ = false := blk_frozen BX7.out 2
  have zg5_0 : World.cell? w7 ⟨g5, 0, none⟩ = some (.int .i64 root) := (blk_cell BY7.out 0).trans rfl; have zg5_1 : World.cell? w7 ⟨g5, 1, none⟩ = some (.int .i64 next) := (blk_cell BY7.out 1).trans rfl; have zg5_2 : World.cell? w7 ⟨g5, 2, none⟩ = some (.slice A2 ns.length m2) := (blk_cell BY7.out 2).trans rfl; have fg5_0 : World.frozen? w7 ⟨g5, 0, none⟩ = false := blk_frozen BY7.out 0; have fg5_1 : World.frozen? w7 ⟨g5, 1, none⟩ = false := blk_frozen BY7.out 1; have fg5_2 : World.frozen? w7 ⟨g5, 2, none⟩ = false := blk_frozen BY7.out 2
  go_wp2_with fail
  refine (markDoc_calls root next (.slice A2 ns.length m2) ns 1 w3.heap.size (fun k => w3.heap.size ≤ k ∧ k ≠ g5) w7 HT7.out (by decide) H4I.out H4.out.2 (Nat.le_of_lt (Nat.lt_of_le_of_lt hLg5a (blk_lt BY7.out)))).mono ?_
  rintro e w8 ⟨rfl, hT8, hK8, hB8⟩
  rw [HM.out]
  have BX8 := Lib.hid (blk_kept BX7.out hK8 (fun h => Nat.lt_irrefl _ (Nat.lt_of_lt_of_le HL3.out h.1)))
  have BY8 := Lib.hid (blk_kept BY7.out hK8 (fun h => h.2 rfl))
  have HB8 := Lib.hid (HB7.out.trans (hB8.mono HW3.out))
  have HS8 := Lib.hid (Kd.S_kept HS7.out hK8 (fun k hk h2 => Nat.lt_irrefl _ (Nat.lt_of_lt_of_le hk h2.1)))
  have HT8 := Lib.hid hT8
  have hH := laws_heldDoc.calls k root next A2 m2 (markS 1 ns) 1 (1 + (markN ns : Int)) w8 (Kd.S_reads' (by rw [← markS_len 1 ns] at hT8; exact hT8)).2.2 (by rw [markS_len]; exact (Kd.S_reads' hT8).2.1) H6.out
  rw [markS_len, HM.out] at hH
  have HH := Lib.hid hH
  clear zg3_0 zg3_1 zg3_2 fg3_0 fg3_1 fg3_2
  clear zg5_0 zg5_1 zg5_2 fg5_0 fg5_1 fg5_2
  clear hT8 hK8 hB8 hH BX7 BY7 HB7 HS7 HT7
  have zg5_0 : World.cell? w8 ⟨g5, 0, none⟩ = some (.int .i64 root) := (blk_cell BY8.out 0).trans rfl; have zg5_1 : World.cell? w8 ⟨g5, 1, none⟩ = some (.int .i64 next) := (blk_cell BY8.out 1).trans rfl; have zg5_2 : World.cell? w8 ⟨g5, 2, none⟩ = some (.slice A2 ns.length m2) := (blk_cell BY8.out 2).trans rfl; have fg5_0 : World.frozen? w8 ⟨g5, 0, none⟩ = false := blk_frozen BY8.out 0; have fg5_1 : World.frozen? w8 ⟨g5, 1, none⟩ = false := blk_frozen BY8.out 1; have fg5_2 : World.frozen? w8 ⟨g5, 2, none⟩ = false := blk_frozen BY8.out 2
  go_wp2_with fail
  refine HH.out.mono ?_
  rintro e w9 ⟨rfl, hB9⟩
  have BX9 := Lib.hid (blk_below BX8.out hB9)
  have BY9 := Lib.hid (blk_below BY8.out hB9)
  have HB9 := Lib.hid (below_step HB8.out hB9)
  have HS9 := Lib.hid (Kd.S_below HS8.out hB9)
  have HT9 := Lib.hid (Kd.S_below HT8.out hB9)
  clear zg5_0 zg5_1 zg5_2 fg5_0 fg5_1 fg5_2
  clear HH hB9 BX8 BY8 HB8 HS8 HT8
  go_wp2_with fail
  refine (impl_ReadDoc.calls k a0 root next ns code w9 H2.out).mono ?_
  rintro e w10 ⟨v3, rfl, hU10, hB10⟩
  have BX10 := Lib.hid (blk_below BX9.out hB10)
  have BY10 := Lib.hid (blk_below BY9.out hB10)
  have HB10 := Lib.hid (below_step HB9.out hB10)
  have HS10 := Lib.hid (Kd.S_below HS9.out hB10)
  have HT10 := Lib.hid (Kd.S_below HT9.out hB10)
  have HU10 := Lib.hid hU10
  clear hU10 hB10 BX9 BY9 HB9 HS9 HT9
  obtain ⟨A3, m3, rfl⟩ := Kd.S_slice HU10.out
  go_upto_region 16 with (first | ((with_reducible refine gate_dst (N := 9) rfl ?_); refine box_event ?hg (N := 9) ?hd (cs := #[.int .i64 0, .int .i64 0, .slice none 0 0]) (t := 24) ?hr ?_; (case hd => rfl); (case hg => rfl); (case hr => first | (go_simp; done) | (go_simp; rfl)); intro g9 hgg9 w11 hbg9 hBg9; have hLg9 := Nat.le_of_eq hgg9.symm; clear hgg9; have BX11 := Lib.hid (blk_below BX10.out hBg9); have BY11 := Lib.hid (blk_below BY10.out hBg9); have BZ11 := Lib.hid hbg9; have HB11 := Lib.hid (below_step HB10.out hBg9); have HS11 := Lib.hid (Kd.S_below HS10.out hBg9); have HT11 := Lib.hid (Kd.S_below HT10.out hBg9); have HU11 := Lib.hid (Kd.S_below HU10.out hBg9); have hMg9 := Nat.le_trans HB10.out.size hLg9; have NE39 := Lib.hid (show g3 ≠ g9 from fun e_ => Nat.lt_irrefl g9 (Nat.lt_of_lt_of_le (e_ ▸ blk_lt BX10.out) hLg9)); have NE59 := Lib.hid (show g5 ≠ g9 from fun e_ => Nat.lt_irrefl g9 (Nat.lt_of_lt_of_le (e_ ▸ blk_lt BY10.out) hLg9)); have zg9_0 : World.cell? w11 ⟨g9, 0, none⟩ = some (.int .i64 0) := (blk_cell BZ11.out 0).trans rfl; have zg9_1 : World.cell? w11 ⟨g9, 1, none⟩ = some (.int .i64 0) := (blk_cell BZ11.out 1).trans rfl; have zg9_2 : World.cell? w11 ⟨g9, 2, none⟩ = some (.slice none 0 0) := (blk_cell BZ11.out 2).trans rfl; have fg9_0 : World.frozen? w11 ⟨g9, 0, none⟩ = false := blk_frozen BZ11.out 0; have fg9_1 : World.frozen? w11 ⟨g9, 1, none⟩ = false := blk_frozen BZ11.out 1; have fg9_2 : World.frozen? w11 ⟨g9, 2, none⟩ = false := blk_frozen BZ11.out 2; clear hbg9 hBg9 BX10 BY10 HB10 HS10 HT10 HU10))
  have BZ12 := Lib.hid (st3 BZ11.out (.int .i64 root) (.int .i64 next) (.slice A3 ns.length m3))
  have BX12 := Lib.hid (blk_far (p := ⟨g9, 2, none⟩) (blk_far (p := ⟨g9, 1, none⟩) (blk_far (p := ⟨g9, 0, none⟩) BX11.out NE39.out (.int .i64 root)) NE39.out (.int .i64 next)) NE39.out (.slice A3 ns.length m3))
  have BY12 := Lib.hid (blk_far (p := ⟨g9, 2, none⟩) (blk_far (p := ⟨g9, 1, none⟩) (blk_far (p := ⟨g9, 0, none⟩) BY11.out NE59.out (.int .i64 root)) NE59.out (.int .i64 next)) NE59.out (.slice A3 ns.length m3))
  have HB12 := Lib.hid (st3_below HB11.out hMg9 (.int .i64 root) (.int .i64 next) (.slice A3 ns.length m3))
  have HS12 := Lib.hid (rowN_doc3 HS11.out BZ11.out (.int .i64 root) (.int .i64 next) (.slice A3 ns.length m3))
  have HT12 := Lib.hid (rowN_doc3 HT11.out BZ11.out (.int .i64 root) (.int .i64 next) (.slice A3 ns.length m3))
  have HU12 := Lib.hid (rowN_doc3 HU11.out BZ11.out (.int .i64 root) (.int .i64 next) (.slice A3 ns.length m3))
  clear zg9_0 zg9_1 zg9_2 fg9_0 fg9_1 fg9_2
  clear BZ11 BX11 BY11 HB11 HS11 HT11 HU11
  generalize ((w11.setCell ⟨g9, 0, none⟩ (.int .i64 root)).setCell ⟨g9, 1, none⟩ (.int .i64 next)).setCell ⟨g9, 2, none⟩ (.slice A3 ns.length m3) = w12 at *
  have zg3_0 : World.cell? w12 ⟨g3, 0, none⟩ = some (.int .i64 root) := (blk_cell BX12.out 0).trans rfl; have zg3_1 : World.cell? w12 ⟨g3, 1, none⟩ = some (.int .i64 next) := (blk_cell BX12.out 1).trans rfl; have zg3_2 : World.cell? w12 ⟨g3, 2, none⟩ = some (.slice A1 ns.length m1) := (blk_cell BX12.out 2).trans rfl; have fg3_0 : World.frozen? w12 ⟨g3, 0, none⟩ = false := blk_frozen BX12.out 0; have fg3_1 : World.frozen? w12 ⟨g3, 1, none⟩ = false := blk_frozen BX12.out 1; have fg3_2 : World.frozen? w12 ⟨g3, 2, none⟩ = false := blk_frozen BX12.out 2
  have zg9_0 : World.cell? w12 ⟨g9, 0, none⟩ = some (.int .i64 root) := (blk_cell BZ12.out 0).trans rfl; have zg9_1 : World.cell? w12 ⟨g9, 1, none⟩ = some (.int .i64 next) := (blk_cell BZ12.out 1).trans rfl; have zg9_2 : World.cell? w12 ⟨g9, 2, none⟩ = some (.slice A3 ns.length m3) := (blk_cell BZ12.out 2).trans rfl; have fg9_0 : World.frozen? w12 ⟨g9, 0, none⟩ = false := blk_frozen BZ12.out 0; have fg9_1 : World.frozen? w12 ⟨g9, 1, none⟩ = false := blk_frozen BZ12.out 1; have fg9_2 : World.frozen? w12 ⟨g9, 2, none⟩ = false := blk_frozen BZ12.out 2
  go_wp2_with fail
  refine (laws_eqDoc.calls k root next A3 m3 ns root next A1 m1 ns true w12 (Kd.S_reads' HU12.out).2.2 (Kd.S_reads' HU12.out).2.1 (Kd.S_reads' HS12.out).2.2 (Kd.S_reads' HS12.out).2.1 H3.out).mono ?_
  rintro e w13 ⟨rfl, hB13⟩
  have BY13 := Lib.hid (blk_below BY12.out hB13)
  have HB13 := Lib.hid (below_step HB12.out hB13)
  have hT13 := Kd.S_below HT12.out hB13
  have hH := laws_heldDoc.calls k root next A2 m2 (markS 1 ns) 1 (1 + (markN ns : Int)) w13 (Kd.S_reads' (by rw [← markS_len 1 ns] at hT13; exact hT13)).2.2 (by rw [markS_len]; exact (Kd.S_reads' hT13).2.1) H6.out
  rw [markS_len, HM.out] at hH
  have HH := Lib.hid hH
  clear zg3_0 zg3_1 zg3_2 fg3_0 fg3_1 fg3_2
  clear zg9_0 zg9_1 zg9_2 fg9_0 fg9_1 fg9_2
  clear hB13 hT13 hH BX12 BY12 BZ12 HB12 HS12 HT12 HU12
  have zg5_0 : World.cell? w13 ⟨g5, 0, none⟩ = some (.int .i64 root) := (blk_cell BY13.out 0).trans rfl; have zg5_1 : World.cell? w13 ⟨g5, 1, none⟩ = some (.int .i64 next) := (blk_cell BY13.out 1).trans rfl; have zg5_2 : World.cell? w13 ⟨g5, 2, none⟩ = some (.slice A2 ns.length m2) := (blk_cell BY13.out 2).trans rfl; have fg5_0 : World.frozen? w13 ⟨g5, 0, none⟩ = false := blk_frozen BY13.out 0; have fg5_1 : World.frozen? w13 ⟨g5, 1, none⟩ = false := blk_frozen BY13.out 1; have fg5_2 : World.frozen? w13 ⟨g5, 2, none⟩ = false := blk_frozen BY13.out 2
  go_wp2_with fail
  refine HH.out.mono ?_
  rintro e w14 ⟨rfl, hB14⟩
  have HB14 := Lib.hid (below_step HB13.out hB14)
  clear HH
  go_wp2
  go_ret
  exact ⟨rfl, HB14.out⟩
end Go.Proofs.Ytfafehhallbjiaa.Q
namespace Go.Proofs.Ytfafehhallbjiaa.Q
open Go.RowKit Go.Proofs.YtfafehhallbjiaaW.PrintWords Go.Proofs.YtfafehhallbjiaaW.PrintLast Go.Proofs.Ytfafehhallbjiaa.H
set_option linter.unusedVariables false
set_option linter.unusedSimpArgs false
namespace RowFnExactReadDoc
def wf_str (x : ByteArray) : Prop := x.size ≤ maxLen
theorem opn9 : Opn 9 Kd.string wf_str := opn_str Try.underlying9
end RowFnExactReadDoc
open RowFnExactReadDoc in
def laws_FnExactReadDoc.Pure : Prop := ∀ (a0 : ByteArray), wf_str a0 → ∃ k, laws_FnExactReadDoc.f k a0 = some true
end Go.Proofs.Ytfafehhallbjiaa.Q
set_option linter.unusedVariables false
set_option linter.unusedSimpArgs false
namespace Go.Proofs.Ytfafehhallbjiaa.H
open Go.RowKit Go.Proofs.YtfafehhallbjiaaW.PrintWords Go.Proofs.Ytfafehhallbjiaa.Q
def sumL (l : List UInt8) (n : Int) : Int := l.foldl (fun n b => (31 * n + b.toNat) % 65521) n
def sumP (t : ByteArray) : Int := sumL t.data.toList 1
theorem sumL_range (l : List UInt8) : ∀ {n : Int}, 0 ≤ n → n < 65521 → 0 ≤ sumL l n ∧ sumL l n < 65521 := by
  induction l with
  | nil => intro n h0 h1; exact ⟨h0, h1⟩
  | cons b l ih => intro n h0 h1; exact ih (n := (31 * n + b.toNat) % 65521) (by omega) (by omega)
theorem sumP_range (t : ByteArray) : 0 ≤ sumP t ∧ sumP t < 65521 := sumL_range _ (by omega) (by omega)
theorem bt_nat (t : ByteArray) (i : Nat) (h : i < t.size) : bt t i = (t[i].toNat : Int) := by unfold bt; simp [h]
theorem drop_step (t : ByteArray) (i : Nat) (h : i < t.size) : t.data.toList.drop i = t[i] :: t.data.toList.drop (i + 1) := by
  rw [List.drop_eq_getElem_cons (by simpa using h)]; rfl
theorem sum_step (t : ByteArray) (i : Nat) (h : i < t.size) (n : Int) : sumL (t.data.toList.drop i) n = sumL (t.data.toList.drop (i + 1)) ((31 * n + bt t i) % 65521) := by
  rw [drop_step t i h, bt_nat t i h]; rfl
theorem sum_done (t : ByteArray) (i : Nat) (h : t.size ≤ i) (n : Int) : sumL (t.data.toList.drop i) n = n := by
  rw [List.drop_of_length_le (by simpa using h)]; rfl
theorem sum_arith {n b : Int} (h0 : 0 ≤ n) (h1 : n < 65521) (b0 : 0 ≤ b ∧ b ≤ 255) : Int.tmod (wrap64 (wrap64 (31 * n) + wrap64 b)) 65521 = (31 * n + b) % 65521 := by
  rw [wid (x := 31 * n) (by omega) (by omega), wid (x := b) (by omega) (by omega), wid (by omega) (by omega), tmodE (by omega)]
theorem mod_range (x : Int) : 0 ≤ x % 65521 ∧ x % 65521 < 65521 := by omega
theorem nat_wrap {i : Nat} {m : Nat} (h : i < m) (hm : m ≤ 1048576) : wrap64 ((i : Int) + 1) = ((i + 1 : Nat) : Int) := by rw [wid (by omega) (by omega)]; omega
theorem l01Sum_loop (t : ByteArray) (h2 : t.size ≤ 1048576) (d : Nat) : ∀ (i : Nat) (n : Int) (k : Nat), i + d = t.size → 0 ≤ n → n < 65521 → spec_l01Sum.l0 (k + d + 1) t n i = some (sumL (t.data.toList.drop i) n) := by
  induction d with
  | zero =>
    intro i n k hi h0 h1
    rw [spec_l01Sum.l0, if_neg (by omega), sum_done t i (by omega)]
  | succ d ih =>
    intro i n k hi h0 h1
    rw [spec_l01Sum.l0, if_pos (by omega), if_pos (by omega), sum_arith h0 h1 (bt_range t i), nat_wrap (m := t.size) (by omega) h2, sum_step t i (by omega)]
    exact ih (i + 1) _ k (by omega) (mod_range _).1 (mod_range _).2
theorem l01Sum_eq {t : ByteArray} (h2 : t.size ≤ 1048576) : Ev (fun k => spec_l01Sum.f k t) (sumP t) :=
  Ev.val (t.size + 1) fun k => by
    have := l01Sum_loop t h2 t.size 0 1 k (by omega) (by omega) (by omega)
    rw [List.drop_zero] at this
    exact this
theorem sumOf_loop (t : ByteArray) (h2 : t.size ≤ 1048576) (d : Nat) : ∀ (i : Nat) (n : Int) (k : Nat), i + d = t.size → 0 ≤ n → n < 65521 → impl_sumOf.l0 (k + d + 1) t n t.size i = some (sumL (t.data.toList.drop i) n) := by
  induction d with
  | zero =>
    intro i n k hi h0 h1
    rw [impl_sumOf.l0, if_neg (by omega), sum_done t i (by omega)]
  | succ d ih =>
    intro i n k hi h0 h1
    rw [impl_sumOf.l0, if_pos (by omega), if_pos (by omega), if_pos (by omega), sum_arith h0 h1 (bt_range t i), nat_wrap (m := t.size) (by omega) h2, sum_step t i (by omega)]
    exact ih (i + 1) _ k (by omega) (mod_range _).1 (mod_range _).2
theorem sumOf_eq {t : ByteArray} (h2 : t.size ≤ 1048576) : Ev (fun k => impl_sumOf.f k t) (sumP t) :=
  Ev.val (t.size + 1) fun k => by
    have := sumOf_loop t h2 t.size 0 1 k (by omega) (by omega) (by omega)
    rw [List.drop_zero] at this
    exact this
def sum2 (t : ByteArray) : ByteArray := strOfNums [sumP t % 256, sumP t / 256]
theorem sum_two (t : ByteArray) : [Int.tmod (sumP t) 256 % 256, wrap64 (Int.tdiv (sumP t) 256) % 256] = [sumP t % 256, sumP t / 256] := by
  have := sumP_range t
  generalize sumP t = s at *
  rw [tmodE (by omega), tdivE (by omega), wid (by omega) (by omega), show s % 256 % 256 = s % 256 by omega, show s / 256 % 256 = s / 256 by omega]
theorem sumText_eq {t : ByteArray} (h2 : t.size ≤ 1048576) : Ev (fun k => impl_sumText.f k t) (sum2 t) :=
  (sumOf_eq h2).bind (Ev.const (by rw [sum_two]; rfl))
end Go.Proofs.Ytfafehhallbjiaa.H
