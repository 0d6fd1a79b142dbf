/- Several of our texts, one behind the other, without what this claim does not need: ReqT, PFnExactRequestTextx1, StmFnExactRequestText, WireP, WireQ, ReqP, ReqQ, PureFnExactRequestText. -/
import Derived.Test.YtnppmhijoaeibaaZ3724bc8e
import Derived.Test.YtnppmhijoaeibaaZd89880a1
import Derived.Test.YtnppmhijoaeibaaProg
import Derived.Below
import Derived.Deep.Draws
import Derived.Deep.AppendLies
import Derived.Maps.AppendAt
import Derived.OwnWalk
import Derived.Laws.BytesArg
import Derived.Laws.MakeOwn
import Derived.Laws.OwnMore
import Derived.Deep.OwnRows
import Derived.Tactics
import Derived.Lib.ConvBytes
import Derived.Laws.Slices
import Derived.WalkKit
import Derived.KernelRfl
import Derived.RowKit3
import Derived.Deep.LoopGhost
import Derived.Deep.QuietTactic
import Derived.BigQuiet
import Derived.WideLaws
import Derived.Deep.DeepCutAuto
import Derived.Deep.CutBlock
import Derived.Deep.RegionHeld3
import Derived.Laws.Rows
import Derived.Lib.AppendStr
import Derived.ArgAppend
import Derived.Laws.IdiomCopy
import Derived.OrdersHeld
import Derived.Laws.BitsLemmas
import Derived.RowKit
import Derived.Test.YtnppmhijoaeibaaZ4755b32a
import Derived.Test.YtnppmhijoaeibaaZ0bed13a2
import Derived.Test.YtnppmhijoaeibaaZe0294c03
import Derived.Test.YtnppmhijoaeibaaZ8926b378
import Derived.Test.YtnppmhijoaeibaaZb6f47ebf
import Derived.Test.YtnppmhijoaeibaaZ1a966424
import Derived.Test.YtnppmhijoaeibaaZ84b544cc
import Derived.Test.YtnppmhijoaeibaaZa2c02870
import Derived.Test.YtnppmhijoaeibaaZ2b01c088
import Derived.Test.YtnppmhijoaeibaaZ7d175f39
import Derived.Test.YtnppmhijoaeibaaZ28edcc7d
import Derived.Test.YtnppmhijoaeibaaZ78888754
import Derived.Test.YtnppmhijoaeibaaZa1f1e024
import Derived.Test.YtnppmhijoaeibaaZ54c78e3a
set_option linter.unusedVariables false
set_option linter.unusedSimpArgs false
namespace Go.Proofs.Ytnppmhijoaeibaa.H
open Go.RowKit Go.Proofs.YtnppmhijoaeibaaW.PrintWords Go.Proofs.YtnppmhijoaeibaaW.PrintLast Go.Proofs.Ytnppmhijoaeibaa.Q
def impl_RequestText.f (k : Nat) (a0 a1 a2 a3 a4 a5 a6 a7 : Int) (a8 : ByteArray) : Option (ByteArray × Int) :=
  (impl_RequestOK.f k a0 a1 a2 a3 a4 a5 a6 a7 a8).bind fun t => if t = true then
    if (a0 < 2097152 ∧ a1 < 2097152 ∧ a2 < 2097152 ∧ a3 < 2097152) then
      if a0 = 7 then
        if (a4 < 2097152 ∧ a5 < 2097152 ∧ a6 < 2097152 ∧ a7 < 2097152) then
          (impl_text.f a8).bind fun tx => if tx.size ≤ 1000000 then (impl_frame.f k (strOfNums (numsL [a0, a1, a2, a3] ++ numsL [a4, a5, a6, a7]) ++ tx)).bind fun r => some (r, 0) else none
        else none
      else (impl_frame.f k (strOfNums (numsL [a0, a1, a2, a3]))).bind fun r => some (r, 0)
    else none
  else some (⟨#[]⟩, 1)
theorem impl_RequestText.mono : ∀ a0 a1 a2 a3 a4 a5 a6 a7 a8 k, LeO (impl_RequestText.f k a0 a1 a2 a3 a4 a5 a6 a7 a8) (impl_RequestText.f (k + 1) a0 a1 a2 a3 a4 a5 a6 a7 a8) := by
  intro a0 a1 a2 a3 a4 a5 a6 a7 a8 k
  unfold impl_RequestText.f
  repeat' first
    | (with_reducible exact impl_RequestOK.mono _ _ _ _ _ _ _ _ _ _)
    | (with_reducible exact impl_frame.mono _ _)
    | (with_reducible exact LeO.refl _)
    | (with_reducible exact LeO.none _)
    | (with_reducible refine LeO.ite ?_ ?_)
    | (with_reducible refine LeO.bind ?_ (fun _ => ?_))
set_option maxHeartbeats 4000000 in
set_option maxRecDepth 100000 in
theorem impl_RequestText.calls (k : Nat) (a0 a1 a2 a3 a4 a5 a6 a7 : Int) (a8 : ByteArray) (r1 : ByteArray) (r2 : Int) (w : World) (h : impl_RequestText.f k a0 a1 a2 a3 a4 a5 a6 a7 a8 = some (r1, r2)) :
    Calls Try.prog 29 #[.agg #[.int .i64 a0, .int .i64 a1, .int .i64 a2, .int .i64 a3, .int .i64 a4, .int .i64 a5, .int .i64 a6, .int .i64 a7, .string a8]] w fun e w' => e = .returned (.tuple #[.string r1, .int .i64 r2]) ∧ Below w.heap.size w w' := by
  have hu44 := Try.underlying44
  have hu42 := Try.underlying42
  unfold impl_RequestText.f at h
  obtain ⟨t, ht, h⟩ := Option.bind_eq_some_iff.1 h
  have HT := Aside0.mk ht
  clear ht
  cases t with
  | false =>
    rw [if_neg (by simp)] at h
    simp only [Option.some.injEq, Prod.mk.injEq] at h
    obtain ⟨rfl, rfl⟩ := h
    go_enter Try.func29, Try.ntmps29
    go_wp2_with (first | ((with_reducible refine gate_dst (N := 1) rfl ?_); refine box_event ?hg (N := 1) ?hd (cs := #[.int .i64 a0, .int .i64 a1, .int .i64 a2, .int .i64 a3, .int .i64 a4, .int .i64 a5, .int .i64 a6, .int .i64 a7, .string a8]) (t := 44) ?hr ?_; (case hd => rfl); (case hg => rfl); (case hr => first | (go_simp; done) | (go_simp; rfl)); intro gq hgq w1 hq1 hb1; have GQ := Lib.hid hgq; clear hgq; (try clear hcz_0 hcz_1 hcz_2 hcz_3 hcz_4 hcz_5 hcz_6 hcz_7 hcz_8); have hcz_0 : w1.cell? ⟨gq, 0, none⟩ = some (.int .i64 a0) := (blk_cell hq1 0).trans rfl; have hcz_1 : w1.cell? ⟨gq, 1, none⟩ = some (.int .i64 a1) := (blk_cell hq1 1).trans rfl; have hcz_2 : w1.cell? ⟨gq, 2, none⟩ = some (.int .i64 a2) := (blk_cell hq1 2).trans rfl; have hcz_3 : w1.cell? ⟨gq, 3, none⟩ = some (.int .i64 a3) := (blk_cell hq1 3).trans rfl; have hcz_4 : w1.cell? ⟨gq, 4, none⟩ = some (.int .i64 a4) := (blk_cell hq1 4).trans rfl; have hcz_5 : w1.cell? ⟨gq, 5, none⟩ = some (.int .i64 a5) := (blk_cell hq1 5).trans rfl; have hcz_6 : w1.cell? ⟨gq, 6, none⟩ = some (.int .i64 a6) := (blk_cell hq1 6).trans rfl; have hcz_7 : w1.cell? ⟨gq, 7, none⟩ = some (.int .i64 a7) := (blk_cell hq1 7).trans rfl; have hcz_8 : w1.cell? ⟨gq, 8, none⟩ = some (.string a8) := (blk_cell hq1 8).trans rfl) | ((with_reducible refine gate_callee (f := 63) rfl ?_); refine goesL_ (some 7) rfl rfl Try.func63 (by kernel_rfl) rfl #[.agg #[.int .i64 a0, .int .i64 a1, .int .i64 a2, .int .i64 a3, .int .i64 a4, .int .i64 a5, .int .i64 a6, .int .i64 a7, .string a8]] rfl (by (try simp only [List.map_toArray, List.map_cons, List.map_nil]); first | done | rfl) ?_; (with_reducible refine (impl_RequestOK.calls k _ _ _ _ _ _ _ _ _ false _ HT.out).mono ?_); rintro e w2 ⟨rfl, hb2⟩; refine ⟨_, rfl, ?_⟩; have HB2 := Lib.hid (show Below w.heap.size w w2 from hb1.trans (hb2.mono hb1.size)); have hq2 := blk_below hq1 hb2; clear hb1 hb2 hq1; (try clear hcz_0 hcz_1 hcz_2 hcz_3 hcz_4 hcz_5 hcz_6 hcz_7 hcz_8); have hcz_0 : w2.cell? ⟨gq, 0, none⟩ = some (.int .i64 a0) := (blk_cell hq2 0).trans rfl; have hcz_1 : w2.cell? ⟨gq, 1, none⟩ = some (.int .i64 a1) := (blk_cell hq2 1).trans rfl; have hcz_2 : w2.cell? ⟨gq, 2, none⟩ = some (.int .i64 a2) := (blk_cell hq2 2).trans rfl; have hcz_3 : w2.cell? ⟨gq, 3, none⟩ = some (.int .i64 a3) := (blk_cell hq2 3).trans rfl; have hcz_4 : w2.cell? ⟨gq, 4, none⟩ = some (.int .i64 a4) := (blk_cell hq2 4).trans rfl; have hcz_5 : w2.cell? ⟨gq, 5, none⟩ = some (.int .i64 a5) := (blk_cell hq2 5).trans rfl; have hcz_6 : w2.cell? ⟨gq, 6, none⟩ = some (.int .i64 a6) := (blk_cell hq2 6).trans rfl; have hcz_7 : w2.cell? ⟨gq, 7, none⟩ = some (.int .i64 a7) := (blk_cell hq2 7).trans rfl; have hcz_8 : w2.cell? ⟨gq, 8, none⟩ = some (.string a8) := (blk_cell hq2 8).trans rfl))
    go_ret2
    exact ⟨rfl, HB2.out⟩
  | true =>
    rw [if_pos rfl] at h
    by_cases hc : a0 < 2097152 ∧ a1 < 2097152 ∧ a2 < 2097152 ∧ a3 < 2097152
    · rw [if_pos hc] at h
      have HC := Lib.hid hc
      have HH := Lib.hid h
      clear h hc
      have hx1 : ∀ x ∈ [a0, a1, a2, a3], x < 2097152 := fun x hx => by
        have := HC.out
        simp at hx
        omega
      have HX1 := Lib.hid hx1
      clear hx1
      go_enter Try.func29, Try.ntmps29
      go_wp2_with (first | ((with_reducible refine gate_dst (N := 1) rfl ?_); refine box_event ?hg (N := 1) ?hd (cs := #[.int .i64 a0, .int .i64 a1, .int .i64 a2, .int .i64 a3, .int .i64 a4, .int .i64 a5, .int .i64 a6, .int .i64 a7, .string a8]) (t := 44) ?hr ?_; (case hd => rfl); (case hg => rfl); (case hr => first | (go_simp; done) | (go_simp; rfl)); intro gq hgq w1 hq1 hb1; have GQ := Lib.hid hgq; clear hgq; (try clear hcz_0 hcz_1 hcz_2 hcz_3 hcz_4 hcz_5 hcz_6 hcz_7 hcz_8); have hcz_0 : w1.cell? ⟨gq, 0, none⟩ = some (.int .i64 a0) := (blk_cell hq1 0).trans rfl; have hcz_1 : w1.cell? ⟨gq, 1, none⟩ = some (.int .i64 a1) := (blk_cell hq1 1).trans rfl; have hcz_2 : w1.cell? ⟨gq, 2, none⟩ = some (.int .i64 a2) := (blk_cell hq1 2).trans rfl; have hcz_3 : w1.cell? ⟨gq, 3, none⟩ = some (.int .i64 a3) := (blk_cell hq1 3).trans rfl; have hcz_4 : w1.cell? ⟨gq, 4, none⟩ = some (.int .i64 a4) := (blk_cell hq1 4).trans rfl; have hcz_5 : w1.cell? ⟨gq, 5, none⟩ = some (.int .i64 a5) := (blk_cell hq1 5).trans rfl; have hcz_6 : w1.cell? ⟨gq, 6, none⟩ = some (.int .i64 a6) := (blk_cell hq1 6).trans rfl; have hcz_7 : w1.cell? ⟨gq, 7, none⟩ = some (.int .i64 a7) := (blk_cell hq1 7).trans rfl; have hcz_8 : w1.cell? ⟨gq, 8, none⟩ = some (.string a8) := (blk_cell hq1 8).trans rfl) | ((with_reducible refine gate_callee (f := 63) rfl ?_); refine goesL_ (some 7) rfl rfl Try.func63 (by kernel_rfl) rfl #[.agg #[.int .i64 a0, .int .i64 a1, .int .i64 a2, .int .i64 a3, .int .i64 a4, .int .i64 a5, .int .i64 a6, .int .i64 a7, .string a8]] rfl (by (try simp only [List.map_toArray, List.map_cons, List.map_nil]); first | done | rfl) ?_; (with_reducible refine (impl_RequestOK.calls k _ _ _ _ _ _ _ _ _ true _ HT.out).mono ?_); rintro e w2 ⟨rfl, hb2⟩; refine ⟨_, rfl, ?_⟩; have HB2 := Lib.hid (show Below w.heap.size w w2 from hb1.trans (hb2.mono hb1.size)); have hq2 := blk_below hq1 hb2; clear hb1 hb2 hq1; (try clear hcz_0 hcz_1 hcz_2 hcz_3 hcz_4 hcz_5 hcz_6 hcz_7 hcz_8); have hcz_0 : w2.cell? ⟨gq, 0, none⟩ = some (.int .i64 a0) := (blk_cell hq2 0).trans rfl; have hcz_1 : w2.cell? ⟨gq, 1, none⟩ = some (.int .i64 a1) := (blk_cell hq2 1).trans rfl; have hcz_2 : w2.cell? ⟨gq, 2, none⟩ = some (.int .i64 a2) := (blk_cell hq2 2).trans rfl; have hcz_3 : w2.cell? ⟨gq, 3, none⟩ = some (.int .i64 a3) := (blk_cell hq2 3).trans rfl; have hcz_4 : w2.cell? ⟨gq, 4, none⟩ = some (.int .i64 a4) := (blk_cell hq2 4).trans rfl; have hcz_5 : w2.cell? ⟨gq, 5, none⟩ = some (.int .i64 a5) := (blk_cell hq2 5).trans rfl; have hcz_6 : w2.cell? ⟨gq, 6, none⟩ = some (.int .i64 a6) := (blk_cell hq2 6).trans rfl; have hcz_7 : w2.cell? ⟨gq, 7, none⟩ = some (.int .i64 a7) := (blk_cell hq2 7).trans rfl; have hcz_8 : w2.cell? ⟨gq, 8, none⟩ = some (.string a8) := (blk_cell hq2 8).trans rfl) | ((with_reducible refine gate_dst (N := 4) rfl ?_); refine box_event ?hg (N := 4) ?hd (cs := #[.pointer none, .slice none 0 0]) (t := 75) ?hr ?_; (case hd => rfl); (case hg => rfl); (case hr => first | (go_simp; done) | (go_simp; rfl)); intro gw hgw w3 hw3 hb3; have hq3 := blk_below hq2 hb3; have HB3 := Lib.hid (show Below w.heap.size w w3 from HB2.out.trans (hb3.mono HB2.out.size)); have HW3 := Lib.hid (show IsW w3 w.heap.size gw [] from .inl ⟨by rw [hgw]; exact HB2.out.size, .slice none 0 0, hw3, own_nil _ _ _ _, by simp [Value.ownBlock]⟩); clear hq2 hb3 hgw hw3; (try clear hcz_0 hcz_1 hcz_2 hcz_3 hcz_4 hcz_5 hcz_6 hcz_7 hcz_8); have hcz_0 : w3.cell? ⟨gq, 0, none⟩ = some (.int .i64 a0) := (blk_cell hq3 0).trans rfl; have hcz_1 : w3.cell? ⟨gq, 1, none⟩ = some (.int .i64 a1) := (blk_cell hq3 1).trans rfl; have hcz_2 : w3.cell? ⟨gq, 2, none⟩ = some (.int .i64 a2) := (blk_cell hq3 2).trans rfl; have hcz_3 : w3.cell? ⟨gq, 3, none⟩ = some (.int .i64 a3) := (blk_cell hq3 3).trans rfl; have hcz_4 : w3.cell? ⟨gq, 4, none⟩ = some (.int .i64 a4) := (blk_cell hq3 4).trans rfl; have hcz_5 : w3.cell? ⟨gq, 5, none⟩ = some (.int .i64 a5) := (blk_cell hq3 5).trans rfl; have hcz_6 : w3.cell? ⟨gq, 6, none⟩ = some (.int .i64 a6) := (blk_cell hq3 6).trans rfl; have hcz_7 : w3.cell? ⟨gq, 7, none⟩ = some (.int .i64 a7) := (blk_cell hq3 7).trans rfl; have hcz_8 : w3.cell? ⟨gq, 8, none⟩ = some (.string a8) := (blk_cell hq3 8).trans rfl))
      refine (numbers_lit w.heap.size gw [] [a0, a1, a2, a3] w3 HW3.out HB3.out.size HX1.out (by simp)).mono ?_
      rintro e w5 ⟨rfl, hw5, hb5, hk5⟩
      have hq5 := (hk5.blk _ _ _ _ hq3 (by decide) (by decide)).trans hq3
      have HB5 := Lib.hid (HB3.out.trans hb5)
      have HW5 := Lib.hid hw5
      clear hq3 hb5 hk5 hw5 HB3 HW3
      (try clear hcz_0 hcz_1 hcz_2 hcz_3 hcz_4 hcz_5 hcz_6 hcz_7 hcz_8); have hcz_0 : w5.cell? ⟨gq, 0, none⟩ = some (.int .i64 a0) := (blk_cell hq5 0).trans rfl; have hcz_1 : w5.cell? ⟨gq, 1, none⟩ = some (.int .i64 a1) := (blk_cell hq5 1).trans rfl; have hcz_2 : w5.cell? ⟨gq, 2, none⟩ = some (.int .i64 a2) := (blk_cell hq5 2).trans rfl; have hcz_3 : w5.cell? ⟨gq, 3, none⟩ = some (.int .i64 a3) := (blk_cell hq5 3).trans rfl; have hcz_4 : w5.cell? ⟨gq, 4, none⟩ = some (.int .i64 a4) := (blk_cell hq5 4).trans rfl; have hcz_5 : w5.cell? ⟨gq, 5, none⟩ = some (.int .i64 a5) := (blk_cell hq5 5).trans rfl; have hcz_6 : w5.cell? ⟨gq, 6, none⟩ = some (.int .i64 a6) := (blk_cell hq5 6).trans rfl; have hcz_7 : w5.cell? ⟨gq, 7, none⟩ = some (.int .i64 a7) := (blk_cell hq5 7).trans rfl; have hcz_8 : w5.cell? ⟨gq, 8, none⟩ = some (.string a8) := (blk_cell hq5 8).trans rfl
      by_cases c7 : a0 = 7
      · have HH2 := HH.out
        rw [if_pos c7] at HH2
        by_cases c8 : a4 < 2097152 ∧ a5 < 2097152 ∧ a6 < 2097152 ∧ a7 < 2097152
        · rw [if_pos c8] at HH2
          obtain ⟨tx, ht, HH2⟩ := Option.bind_eq_some_iff.1 HH2
          by_cases c9 : tx.size ≤ 1000000
          · rw [if_pos c9] at HH2
            obtain ⟨r, hr, HH2⟩ := Option.bind_eq_some_iff.1 HH2
            simp only [Option.some.injEq, Prod.mk.injEq] at HH2
            obtain ⟨rfl, rfl⟩ := HH2
            have hx2 : ∀ x ∈ [a4, a5, a6, a7], x < 2097152 := fun x hx => by simp at hx; omega
            have HX2 := Lib.hid hx2
            have HTX := Lib.hid ht
            have HR := Lib.hid hr
            have C9 := Lib.hid c9
            have c7b : (a0 == 7) = true := beq_iff_eq.mpr c7
            clear hx2 ht hr c9 c8 c7 HH HC
            go_wp2_with (first | ((with_reducible refine gate_dst (N := 21) rfl ?_); generalize hw6 : w5.alloc _ = w6; have hb6 : Below w5.heap.size w5 w6 := (by rw [← hw6]; exact (Below.refl _ _).alloc (Nat.le_refl _) _); have he6 : w6.heap[w5.heap.size]? = some (.cells #[.int .i64 a4, .int .i64 a5, .int .i64 a6, .int .i64 a7, .string a8] 42 (0, 0)) := (by rw [← hw6]; exact heap_alloc_new _ _); clear hw6; have hq6 := blk_below hq5 hb6; have HB6 := Lib.hid (show Below w.heap.size w w6 from HB5.out.trans (hb6.mono HB5.out.size)); have HW6 := Lib.hid (HW5.out.below hb6); clear hq5 hb6 HW5 HB5; generalize w5.heap.size = ge at he6 ⊢; (try clear hcz_0 hcz_1 hcz_2 hcz_3 hcz_4 hcz_5 hcz_6 hcz_7 hcz_8); have hcz_0 : w6.cell? ⟨gq, 0, none⟩ = some (.int .i64 a0) := (blk_cell hq6 0).trans rfl; have hcz_1 : w6.cell? ⟨gq, 1, none⟩ = some (.int .i64 a1) := (blk_cell hq6 1).trans rfl; have hcz_2 : w6.cell? ⟨gq, 2, none⟩ = some (.int .i64 a2) := (blk_cell hq6 2).trans rfl; have hcz_3 : w6.cell? ⟨gq, 3, none⟩ = some (.int .i64 a3) := (blk_cell hq6 3).trans rfl; have hcz_4 : w6.cell? ⟨gq, 4, none⟩ = some (.int .i64 a4) := (blk_cell hq6 4).trans rfl; have hcz_5 : w6.cell? ⟨gq, 5, none⟩ = some (.int .i64 a5) := (blk_cell hq6 5).trans rfl; have hcz_6 : w6.cell? ⟨gq, 6, none⟩ = some (.int .i64 a6) := (blk_cell hq6 6).trans rfl; have hcz_7 : w6.cell? ⟨gq, 7, none⟩ = some (.int .i64 a7) := (blk_cell hq6 7).trans rfl; have hcz_8 : w6.cell? ⟨gq, 8, none⟩ = some (.string a8) := (blk_cell hq6 8).trans rfl; (try clear hez_0 hez_1 hez_2 hez_3 hez_4); have hez_0 : w6.cell? ⟨ge, 0, none⟩ = some (.int .i64 a4) := (blk_cell he6 0).trans rfl; have hez_1 : w6.cell? ⟨ge, 1, none⟩ = some (.int .i64 a5) := (blk_cell he6 1).trans rfl; have hez_2 : w6.cell? ⟨ge, 2, none⟩ = some (.int .i64 a6) := (blk_cell he6 2).trans rfl; have hez_3 : w6.cell? ⟨ge, 3, none⟩ = some (.int .i64 a7) := (blk_cell he6 3).trans rfl; have hez_4 : w6.cell? ⟨ge, 4, none⟩ = some (.string a8) := (blk_cell he6 4).trans rfl))
            refine (numbers_lit w.heap.size gw _ [a4, a5, a6, a7] w6 HW6.out HB6.out.size HX2.out (by have := numsL_len [a0, a1, a2, a3]; simp at this ⊢; omega)).mono ?_
            rintro e w8 ⟨rfl, hw8, hb8, hk8⟩
            have he8 := (hk8.blk _ _ _ _ he6 (by decide) (by decide)).trans he6
            have HB8 := Lib.hid (HB6.out.trans hb8)
            have HW8 := Lib.hid hw8
            clear hq6 he6 hb8 hk8 hw8 HB6 HW6
            (try clear hez_0 hez_1 hez_2 hez_3 hez_4); have hez_0 : w8.cell? ⟨ge, 0, none⟩ = some (.int .i64 a4) := (blk_cell he8 0).trans rfl; have hez_1 : w8.cell? ⟨ge, 1, none⟩ = some (.int .i64 a5) := (blk_cell he8 1).trans rfl; have hez_2 : w8.cell? ⟨ge, 2, none⟩ = some (.int .i64 a6) := (blk_cell he8 2).trans rfl; have hez_3 : w8.cell? ⟨ge, 3, none⟩ = some (.int .i64 a7) := (blk_cell he8 3).trans rfl; have hez_4 : w8.cell? ⟨ge, 4, none⟩ = some (.string a8) := (blk_cell he8 4).trans rfl
            go_wp2_with fail
            refine (impl_text.calls a8 tx w8 HTX.out).mono ?_
            rintro e w9 ⟨rfl, hb9⟩
            have HB9 := Lib.hid (HB8.out.trans (hb9.mono HB8.out.size))
            have HW9 := Lib.hid (HW8.out.below hb9)
            clear he8 hb9 HB8 HW8
            go_wp2_with fail
            have hl9 : ([] ++ numsL [a0, a1, a2, a3] ++ numsL [a4, a5, a6, a7]).length + tx.size ≤ 140737488355328 := by
              have e1 := numsL_len [a0, a1, a2, a3]
              have e2 := numsL_len [a4, a5, a6, a7]
              have e3 := C9.out
              rw [List.length_append, List.length_append]
              simp only [List.length_cons, List.length_nil] at e1 e2 ⊢
              omega
            refine (writeW w.heap.size gw _ tx w9 HW9.out hl9 HB9.out.size).mono ?_
            rintro e w10 ⟨rfl, hw10, hb10, hk10⟩
            have HB10 := Lib.hid (HB9.out.trans hb10)
            go_wp2_with fail
            have hr10 : ∀ x ∈ [] ++ numsL [a0, a1, a2, a3] ++ numsL [a4, a5, a6, a7] ++ bytesOf tx, 0 ≤ x ∧ x ≤ 255 := fun x hx => by
              rcases List.mem_append.1 hx with hx | hx
              · rcases List.mem_append.1 hx with hx | hx
                · exact numsL_range HX1.out x (by simpa using hx)
                · exact numsL_range HX2.out x hx
              · exact bytesOf_range tx x hx
            have hne : [] ++ numsL [a0, a1, a2, a3] ++ numsL [a4, a5, a6, a7] ++ bytesOf tx ≠ [] := by
              have := putL_ne a0
              simp [numsL, this]
            refine (stringW w.heap.size gw _ w10 hw10 hr10 hne).mono ?_
            rintro e w11 ⟨rfl, hb11⟩
            rw [strOfNums_bytes, List.nil_append]
            have HB11 := Lib.hid (HB10.out.trans hb11)
            go_wp2_with fail
            refine (impl_frame.calls k _ r w11 HR.out).mono ?_
            rintro e w12 ⟨rfl, hb12⟩
            go_wp2
            go_ret2
            exact ⟨rfl, HB11.out.trans (hb12.mono HB11.out.size)⟩
          · rw [if_neg c9] at HH2; cases HH2
        · rw [if_neg c8] at HH2; cases HH2
      · have HH2 := HH.out
        rw [if_neg c7] at HH2
        obtain ⟨r, hr, HH2⟩ := Option.bind_eq_some_iff.1 HH2
        simp only [Option.some.injEq, Prod.mk.injEq] at HH2
        obtain ⟨rfl, rfl⟩ := HH2
        have HR := Lib.hid hr
        have c7b : (a0 == 7) = false := beq_eq_false_iff_ne.mpr c7
        clear hr c7 HH HC
        go_wp2_with (first | ((with_reducible refine gate_dst (N := 21) rfl ?_); generalize hw6 : w5.alloc _ = w6; have hb6 : Below w5.heap.size w5 w6 := (by rw [← hw6]; exact (Below.refl _ _).alloc (Nat.le_refl _) _); have he6 : w6.heap[w5.heap.size]? = some (.cells #[.int .i64 a4, .int .i64 a5, .int .i64 a6, .int .i64 a7, .string a8] 42 (0, 0)) := (by rw [← hw6]; exact heap_alloc_new _ _); clear hw6; have hq6 := blk_below hq5 hb6; have HB6 := Lib.hid (show Below w.heap.size w w6 from HB5.out.trans (hb6.mono HB5.out.size)); have HW6 := Lib.hid (HW5.out.below hb6); clear hq5 hb6 HW5 HB5; generalize w5.heap.size = ge at he6 ⊢; (try clear hcz_0 hcz_1 hcz_2 hcz_3 hcz_4 hcz_5 hcz_6 hcz_7 hcz_8); have hcz_0 : w6.cell? ⟨gq, 0, none⟩ = some (.int .i64 a0) := (blk_cell hq6 0).trans rfl; have hcz_1 : w6.cell? ⟨gq, 1, none⟩ = some (.int .i64 a1) := (blk_cell hq6 1).trans rfl; have hcz_2 : w6.cell? ⟨gq, 2, none⟩ = some (.int .i64 a2) := (blk_cell hq6 2).trans rfl; have hcz_3 : w6.cell? ⟨gq, 3, none⟩ = some (.int .i64 a3) := (blk_cell hq6 3).trans rfl; have hcz_4 : w6.cell? ⟨gq, 4, none⟩ = some (.int .i64 a4) := (blk_cell hq6 4).trans rfl; have hcz_5 : w6.cell? ⟨gq, 5, none⟩ = some (.int .i64 a5) := (blk_cell hq6 5).trans rfl; have hcz_6 : w6.cell? ⟨gq, 6, none⟩ = some (.int .i64 a6) := (blk_cell hq6 6).trans rfl; have hcz_7 : w6.cell? ⟨gq, 7, none⟩ = some (.int .i64 a7) := (blk_cell hq6 7).trans rfl; have hcz_8 : w6.cell? ⟨gq, 8, none⟩ = some (.string a8) := (blk_cell hq6 8).trans rfl; (try clear hez_0 hez_1 hez_2 hez_3 hez_4); have hez_0 : w6.cell? ⟨ge, 0, none⟩ = some (.int .i64 a4) := (blk_cell he6 0).trans rfl; have hez_1 : w6.cell? ⟨ge, 1, none⟩ = some (.int .i64 a5) := (blk_cell he6 1).trans rfl; have hez_2 : w6.cell? ⟨ge, 2, none⟩ = some (.int .i64 a6) := (blk_cell he6 2).trans rfl; have hez_3 : w6.cell? ⟨ge, 3, none⟩ = some (.int .i64 a7) := (blk_cell he6 3).trans rfl; have hez_4 : w6.cell? ⟨ge, 4, none⟩ = some (.string a8) := (blk_cell he6 4).trans rfl))
        have hr10 : ∀ x ∈ [] ++ numsL [a0, a1, a2, a3], 0 ≤ x ∧ x ≤ 255 := fun x hx => numsL_range HX1.out x (by simpa using hx)
        have hne : [] ++ numsL [a0, a1, a2, a3] ≠ [] := by
          have := putL_ne a0
          simp [numsL, this]
        refine (stringW w.heap.size gw _ w6 HW6.out hr10 hne).mono ?_
        rintro e w11 ⟨rfl, hb11⟩
        rw [List.nil_append]
        have HB11 := Lib.hid (HB6.out.trans hb11)
        go_wp2_with fail
        refine (impl_frame.calls k _ r w11 HR.out).mono ?_
        rintro e w12 ⟨rfl, hb12⟩
        go_wp2
        go_ret2
        exact ⟨rfl, HB11.out.trans (hb12.mono HB11.out.size)⟩
    · rw [if_neg hc] at h; cases h
end Go.Proofs.Ytnppmhijoaeibaa.H
namespace Go.Proofs.Ytnppmhijoaeibaa.Q
open Go.RowKit Go.Proofs.YtnppmhijoaeibaaW.PrintWords Go.Proofs.YtnppmhijoaeibaaW.PrintLast Go.Proofs.YtnppmhijoaeibaaW.PrintMore
open Go.Proofs.Ytnppmhijoaeibaa.H
attribute [local go_sem] max2_int min2_int max_two min_two max_three min_three max_four min_four
set_option linter.unusedVariables false
set_option linter.unusedSimpArgs false
def laws_FnExactRequestText.f (k : Nat) (a0_0 : Int) (a0_1 : Int) (a0_2 : Int) (a0_3 : Int) (a0_4 : Int) (a0_5 : Int) (a0_6 : Int) (a0_7 : Int) (a0_8 : ByteArray) : Option (Bool) := (laws_szRequest.f a0_0 a0_1 a0_2 a0_3 a0_4 a0_5 a0_6 a0_7 a0_8 1048576).bind fun t102 => (if t102 < 0 then (some true) else ((laws_toRequest.f a0_0 a0_1 a0_2 a0_3 a0_4 a0_5 a0_6 a0_7 a0_8).bind fun bt103 => ((spec_RequestText.f k bt103.1 bt103.2.1 bt103.2.2.1 bt103.2.2.2.1 bt103.2.2.2.2.1 bt103.2.2.2.2.2.1 bt103.2.2.2.2.2.2.1 bt103.2.2.2.2.2.2.2.1 bt103.2.2.2.2.2.2.2.2).bind fun bt112 => ((laws_toRequest.f a0_0 a0_1 a0_2 a0_3 a0_4 a0_5 a0_6 a0_7 a0_8).bind fun bt114 => ((impl_RequestText.f k bt114.1 bt114.2.1 bt114.2.2.1 bt114.2.2.2.1 bt114.2.2.2.2.1 bt114.2.2.2.2.2.1 bt114.2.2.2.2.2.2.1 bt114.2.2.2.2.2.2.2.1 bt114.2.2.2.2.2.2.2.2).bind fun bt123 => (if bt123.1.toList = bt112.1.toList then (if bt123.2 = bt112.2 then (some true) else (none)) else (none)))))))
theorem laws_FnExactRequestText.mono : ∀ a0 a1 a2 a3 a4 a5 a6 a7 a8 k, LeO (laws_FnExactRequestText.f k a0 a1 a2 a3 a4 a5 a6 a7 a8) (laws_FnExactRequestText.f (k + 1) a0 a1 a2 a3 a4 a5 a6 a7 a8) := by
  intro a0 a1 a2 a3 a4 a5 a6 a7 a8 k
  unfold laws_FnExactRequestText.f
  repeat' first
      | (with_reducible exact impl_RequestText.mono _ _ _ _ _ _ _ _ _ _)
      | (with_reducible exact spec_RequestText.mono _ _ _ _ _ _ _ _ _ _)
      | (with_reducible exact LeO.refl _)
      | (with_reducible exact LeO.none _)
      | (with_reducible refine LeO.ite ?_ ?_)
      | (with_reducible refine LeO.bind ?_ (fun _ => ?_))
      | exact impl_RequestText.mono _ _ _ _ _ _ _ _ _ _
      | exact spec_RequestText.mono _ _ _ _ _ _ _ _ _ _
      | exact LeO.none _
      | refine LeO.ite ?_ ?_
      | refine LeO.bind ?_ (fun _ => ?_)
set_option maxHeartbeats 8000000 in
set_option maxRecDepth 100000 in
theorem laws_FnExactRequestText.calls (k : Nat) (a0_0 : Int) (a0_1 : Int) (a0_2 : Int) (a0_3 : Int) (a0_4 : Int) (a0_5 : Int) (a0_6 : Int) (a0_7 : Int) (a0_8 : ByteArray) (r : Bool) (w : World) (h : laws_FnExactRequestText.f k a0_0 a0_1 a0_2 a0_3 a0_4 a0_5 a0_6 a0_7 a0_8 = some r) :
    Calls Try.prog 9 #[.agg #[.int .i64 a0_0, .int .i64 a0_1, .int .i64 a0_2, .int .i64 a0_3, .int .i64 a0_4, .int .i64 a0_5, .int .i64 a0_6, .int .i64 a0_7, .string a0_8]] w fun e w' => e = .returned (.bool r) ∧ Below w.heap.size w w' := by
  have hu39 := Try.underlying39
  have HB := Aside0.mk (Below.refl w.heap.size w)
  have H : ((laws_szRequest.f a0_0 a0_1 a0_2 a0_3 a0_4 a0_5 a0_6 a0_7 a0_8 1048576).bind fun t102 => (if t102 < 0 then (some true) else ((laws_toRequest.f a0_0 a0_1 a0_2 a0_3 a0_4 a0_5 a0_6 a0_7 a0_8).bind fun bt103 => ((spec_RequestText.f k bt103.1 bt103.2.1 bt103.2.2.1 bt103.2.2.2.1 bt103.2.2.2.2.1 bt103.2.2.2.2.2.1 bt103.2.2.2.2.2.2.1 bt103.2.2.2.2.2.2.2.1 bt103.2.2.2.2.2.2.2.2).bind fun bt112 => ((laws_toRequest.f a0_0 a0_1 a0_2 a0_3 a0_4 a0_5 a0_6 a0_7 a0_8).bind fun bt114 => ((impl_RequestText.f k bt114.1 bt114.2.1 bt114.2.2.1 bt114.2.2.2.1 bt114.2.2.2.2.1 bt114.2.2.2.2.2.1 bt114.2.2.2.2.2.2.1 bt114.2.2.2.2.2.2.2.1 bt114.2.2.2.2.2.2.2.2).bind fun bt123 => (if bt123.1.toList = bt112.1.toList then (if bt123.2 = bt112.2 then (some true) else (none)) else (none)))))))) = some r := h
  clear h
  replace H := Option.bind_eq_some_iff.mp H
  obtain ⟨t102, A20, H⟩ := H
  replace H : (if t102 < 0 then (some true) else ((laws_toRequest.f a0_0 a0_1 a0_2 a0_3 a0_4 a0_5 a0_6 a0_7 a0_8).bind fun bt103 => ((spec_RequestText.f k bt103.1 bt103.2.1 bt103.2.2.1 bt103.2.2.2.1 bt103.2.2.2.2.1 bt103.2.2.2.2.2.1 bt103.2.2.2.2.2.2.1 bt103.2.2.2.2.2.2.2.1 bt103.2.2.2.2.2.2.2.2).bind fun bt112 => ((laws_toRequest.f a0_0 a0_1 a0_2 a0_3 a0_4 a0_5 a0_6 a0_7 a0_8).bind fun bt114 => ((impl_RequestText.f k bt114.1 bt114.2.1 bt114.2.2.1 bt114.2.2.2.1 bt114.2.2.2.2.1 bt114.2.2.2.2.2.1 bt114.2.2.2.2.2.2.1 bt114.2.2.2.2.2.2.2.1 bt114.2.2.2.2.2.2.2.2).bind fun bt123 => (if bt123.1.toList = bt112.1.toList then (if bt123.2 = bt112.2 then (some true) else (none)) else (none))))))) = some r := H
  have A2 := Aside0.mk A20
  clear A20
  by_cases c3 : t102 < 0
  · rw [if_pos c3] at H
    have c3b0 : decide (t102 < 0) = true := decide_eq_true c3
    clear c3
    obtain rfl := Option.some.inj H
    go_enter Try.func9, Try.ntmps9
    go_wp2_with (first | ((with_reducible refine gate_dst (N := 1) rfl ?_); refine box_event ?hg (N := 1) ?hd (cs := #[.int .i64 a0_0, .int .i64 a0_1, .int .i64 a0_2, .int .i64 a0_3, .int .i64 a0_4, .int .i64 a0_5, .int .i64 a0_6, .int .i64 a0_7, .string a0_8]) (t := 39) ?hr ?_; (case hd => rfl); (case hg => rfl); (case hr => first | (go_simp; done) | (go_simp; rfl)); intro gb101 hg w4 hbox hb; have n0_ := Aside0.mk (below_step (by repeat (first | (with_reducible first | exact HB.out | apply below_alloc | apply pw_below_drewN | apply below_drew1) | exact HB.out)) hb); have n1_ := Aside0.mk (hbox); have n2_ := Aside0.mk ((by rw [hg]; exact (below_size (by repeat (first | (with_reducible first | exact HB.out | apply below_alloc | apply pw_below_drewN | apply below_drew1) | exact HB.out))) : w.heap.size ≤ gb101)); have n3_ := Aside0.mk ((by rw [hg]; exact (below_size (by repeat (first | (with_reducible first | exact HB.out | apply below_alloc | apply pw_below_drewN | apply below_drew1) | exact HB.out))) : w.heap.size ≤ gb101)); clear HB; have HB := n0_; have BK101 := n1_; have GW101 := n2_; have GE101 := n3_; clear n0_ n1_ n2_ n3_; clear hb hbox hg; have hcz5_0 : w4.cell? ⟨gb101, 0, none⟩ = some (.int .i64 a0_0) := (blk_cell BK101.out 0).trans rfl; have hcz5_1 : w4.cell? ⟨gb101, 1, none⟩ = some (.int .i64 a0_1) := (blk_cell BK101.out 1).trans rfl; have hcz5_2 : w4.cell? ⟨gb101, 2, none⟩ = some (.int .i64 a0_2) := (blk_cell BK101.out 2).trans rfl; have hcz5_3 : w4.cell? ⟨gb101, 3, none⟩ = some (.int .i64 a0_3) := (blk_cell BK101.out 3).trans rfl; have hcz5_4 : w4.cell? ⟨gb101, 4, none⟩ = some (.int .i64 a0_4) := (blk_cell BK101.out 4).trans rfl; have hcz5_5 : w4.cell? ⟨gb101, 5, none⟩ = some (.int .i64 a0_5) := (blk_cell BK101.out 5).trans rfl; have hcz5_6 : w4.cell? ⟨gb101, 6, none⟩ = some (.int .i64 a0_6) := (blk_cell BK101.out 6).trans rfl; have hcz5_7 : w4.cell? ⟨gb101, 7, none⟩ = some (.int .i64 a0_7) := (blk_cell BK101.out 7).trans rfl; have hcz5_8 : w4.cell? ⟨gb101, 8, none⟩ = some (.string a0_8) := (blk_cell BK101.out 8).trans rfl; have hfz5_0 := blk_frozen BK101.out 0; have hfz5_1 := blk_frozen BK101.out 1; have hfz5_2 := blk_frozen BK101.out 2; have hfz5_3 := blk_frozen BK101.out 3; have hfz5_4 := blk_frozen BK101.out 4; have hfz5_5 := blk_frozen BK101.out 5; have hfz5_6 := blk_frozen BK101.out 6; have hfz5_7 := blk_frozen BK101.out 7; have hfz5_8 := blk_frozen BK101.out 8) | ((with_reducible refine gate_callee (f := 26) rfl ?_); refine goesL_ (some 10) rfl rfl Try.func26 (by kernel_rfl) rfl #[.agg #[.int .i64 a0_0, .int .i64 a0_1, .int .i64 a0_2, .int .i64 a0_3, .int .i64 a0_4, .int .i64 a0_5, .int .i64 a0_6, .int .i64 a0_7, .string a0_8], .int .i64 1048576] rfl (by (try simp only [List.map_toArray, List.map_cons, List.map_nil]); first | done | rfl | (simp only [List.length_drop, List.length_take]; rfl)) ?_; (with_reducible refine (laws_szRequest.calls a0_0 a0_1 a0_2 a0_3 a0_4 a0_5 a0_6 a0_7 a0_8 1048576 t102 _ A2.out).mono ?_); rintro e w6 ⟨rfl, hb⟩; refine ⟨_, rfl, ?_⟩; have n0_ := Aside0.mk (blk_below (g := gb101) (o := .cells #[.int .i64 a0_0, .int .i64 a0_1, .int .i64 a0_2, .int .i64 a0_3, .int .i64 a0_4, .int .i64 a0_5, .int .i64 a0_6, .int .i64 a0_7, .string a0_8] 39 (0, 0)) (by (with_reducible repeat (first | refine blk_drewN ?_ _ | refine blk_drew ?_ | refine blk_alloc ?_ _)); exact BK101.out) hb); have n1_ := Aside0.mk (below_step (by repeat (first | (with_reducible first | exact HB.out | apply below_alloc | apply pw_below_drewN | apply below_drew1 | refine below_set ?_ GE101.out) | exact HB.out)) hb); clear BK101; clear HB; have BK101 := n0_; have HB := n1_; clear n0_ n1_; (try clear hb); (try clear hb2); (try clear hk); (try clear hi)))
    go_ret
    exact ⟨by first | rfl | (simp [errW_none, errW_some] <;> rfl) | (simp [*, errW_none, errW_some] <;> rfl), by repeat (first | (with_reducible first | exact HB.out | apply below_alloc | apply pw_below_drewN | apply below_drew1 | refine below_set ?_ GE101.out) | exact HB.out)⟩
  · rw [if_neg c3] at H
    have c3b0 : decide (t102 < 0) = false := decide_eq_false c3
    clear c3
    replace H := Option.bind_eq_some_iff.mp H
    obtain ⟨⟨t103, t104, t105, t106, t107, t108, t109, t110, t111⟩, A70, H⟩ := H
    replace H : ((spec_RequestText.f k t103 t104 t105 t106 t107 t108 t109 t110 t111).bind fun bt112 => ((laws_toRequest.f a0_0 a0_1 a0_2 a0_3 a0_4 a0_5 a0_6 a0_7 a0_8).bind fun bt114 => ((impl_RequestText.f k bt114.1 bt114.2.1 bt114.2.2.1 bt114.2.2.2.1 bt114.2.2.2.2.1 bt114.2.2.2.2.2.1 bt114.2.2.2.2.2.2.1 bt114.2.2.2.2.2.2.2.1 bt114.2.2.2.2.2.2.2.2).bind fun bt123 => (if bt123.1.toList = bt112.1.toList then (if bt123.2 = bt112.2 then (some true) else (none)) else (none))))) = some r := H
    have A7 := Aside0.mk A70
    clear A70
    replace H := Option.bind_eq_some_iff.mp H
    obtain ⟨⟨t112, t113⟩, A80, H⟩ := H
    replace H : ((laws_toRequest.f a0_0 a0_1 a0_2 a0_3 a0_4 a0_5 a0_6 a0_7 a0_8).bind fun bt114 => ((impl_RequestText.f k bt114.1 bt114.2.1 bt114.2.2.1 bt114.2.2.2.1 bt114.2.2.2.2.1 bt114.2.2.2.2.2.1 bt114.2.2.2.2.2.2.1 bt114.2.2.2.2.2.2.2.1 bt114.2.2.2.2.2.2.2.2).bind fun bt123 => (if bt123.1.toList = t112.toList then (if bt123.2 = t113 then (some true) else (none)) else (none)))) = some r := H
    have A8 := Aside0.mk A80
    clear A80
    replace H := Option.bind_eq_some_iff.mp H
    obtain ⟨⟨t114, t115, t116, t117, t118, t119, t120, t121, t122⟩, A90, H⟩ := H
    replace H : ((impl_RequestText.f k t114 t115 t116 t117 t118 t119 t120 t121 t122).bind fun bt123 => (if bt123.1.toList = t112.toList then (if bt123.2 = t113 then (some true) else (none)) else (none))) = some r := H
    have A9 := Aside0.mk A90
    clear A90
    replace H := Option.bind_eq_some_iff.mp H
    obtain ⟨⟨t123, t124⟩, A100, H⟩ := H
    replace H : (if t123.toList = t112.toList then (if t124 = t113 then (some true) else (none)) else (none)) = some r := H
    have A10 := Aside0.mk A100
    clear A100
    by_cases c11 : t123.toList = t112.toList
    · rw [if_pos c11] at H
      have c11b0 : (t123.toList == t112.toList) = true := beq_iff_eq.mpr c11
      have c11b1 : (t123.toList != t112.toList) = false := bne_eq_false_iff_eq.mpr c11
      clear c11
      by_cases c12 : t124 = t113
      · rw [if_pos c12] at H
        have c12b0 : (t124 == t113) = true := beq_iff_eq.mpr c12
        have c12b1 : (t124 != t113) = false := bne_eq_false_iff_eq.mpr c12
        clear c12
        obtain rfl := Option.some.inj H
        go_enter Try.func9, Try.ntmps9
        go_wp2_with (first | ((with_reducible refine gate_dst (N := 1) rfl ?_); refine box_event ?hg (N := 1) ?hd (cs := #[.int .i64 a0_0, .int .i64 a0_1, .int .i64 a0_2, .int .i64 a0_3, .int .i64 a0_4, .int .i64 a0_5, .int .i64 a0_6, .int .i64 a0_7, .string a0_8]) (t := 39) ?hr ?_; (case hd => rfl); (case hg => rfl); (case hr => first | (go_simp; done) | (go_simp; rfl)); intro gb101 hg w13 hbox hb; have n0_ := Aside0.mk (below_step (by repeat (first | (with_reducible first | exact HB.out | apply below_alloc | apply pw_below_drewN | apply below_drew1) | exact HB.out)) hb); have n1_ := Aside0.mk (hbox); have n2_ := Aside0.mk ((by rw [hg]; exact (below_size (by repeat (first | (with_reducible first | exact HB.out | apply below_alloc | apply pw_below_drewN | apply below_drew1) | exact HB.out))) : w.heap.size ≤ gb101)); have n3_ := Aside0.mk ((by rw [hg]; exact (below_size (by repeat (first | (with_reducible first | exact HB.out | apply below_alloc | apply pw_below_drewN | apply below_drew1) | exact HB.out))) : w.heap.size ≤ gb101)); clear HB; have HB := n0_; have BK101 := n1_; have GW101 := n2_; have GE101 := n3_; clear n0_ n1_ n2_ n3_; clear hb hbox hg; have hcz14_0 : w13.cell? ⟨gb101, 0, none⟩ = some (.int .i64 a0_0) := (blk_cell BK101.out 0).trans rfl; have hcz14_1 : w13.cell? ⟨gb101, 1, none⟩ = some (.int .i64 a0_1) := (blk_cell BK101.out 1).trans rfl; have hcz14_2 : w13.cell? ⟨gb101, 2, none⟩ = some (.int .i64 a0_2) := (blk_cell BK101.out 2).trans rfl; have hcz14_3 : w13.cell? ⟨gb101, 3, none⟩ = some (.int .i64 a0_3) := (blk_cell BK101.out 3).trans rfl; have hcz14_4 : w13.cell? ⟨gb101, 4, none⟩ = some (.int .i64 a0_4) := (blk_cell BK101.out 4).trans rfl; have hcz14_5 : w13.cell? ⟨gb101, 5, none⟩ = some (.int .i64 a0_5) := (blk_cell BK101.out 5).trans rfl; have hcz14_6 : w13.cell? ⟨gb101, 6, none⟩ = some (.int .i64 a0_6) := (blk_cell BK101.out 6).trans rfl; have hcz14_7 : w13.cell? ⟨gb101, 7, none⟩ = some (.int .i64 a0_7) := (blk_cell BK101.out 7).trans rfl; have hcz14_8 : w13.cell? ⟨gb101, 8, none⟩ = some (.string a0_8) := (blk_cell BK101.out 8).trans rfl; have hfz14_0 := blk_frozen BK101.out 0; have hfz14_1 := blk_frozen BK101.out 1; have hfz14_2 := blk_frozen BK101.out 2; have hfz14_3 := blk_frozen BK101.out 3; have hfz14_4 := blk_frozen BK101.out 4; have hfz14_5 := blk_frozen BK101.out 5; have hfz14_6 := blk_frozen BK101.out 6; have hfz14_7 := blk_frozen BK101.out 7; have hfz14_8 := blk_frozen BK101.out 8) | ((with_reducible refine gate_callee (f := 26) rfl ?_); refine goesL_ (some 10) rfl rfl Try.func26 (by kernel_rfl) rfl #[.agg #[.int .i64 a0_0, .int .i64 a0_1, .int .i64 a0_2, .int .i64 a0_3, .int .i64 a0_4, .int .i64 a0_5, .int .i64 a0_6, .int .i64 a0_7, .string a0_8], .int .i64 1048576] rfl (by (try simp only [List.map_toArray, List.map_cons, List.map_nil]); first | done | rfl | (simp only [List.length_drop, List.length_take]; rfl)) ?_; (with_reducible refine (laws_szRequest.calls a0_0 a0_1 a0_2 a0_3 a0_4 a0_5 a0_6 a0_7 a0_8 1048576 t102 _ A2.out).mono ?_); rintro e w15 ⟨rfl, hb⟩; refine ⟨_, rfl, ?_⟩; have n0_ := Aside0.mk (blk_below (g := gb101) (o := .cells #[.int .i64 a0_0, .int .i64 a0_1, .int .i64 a0_2, .int .i64 a0_3, .int .i64 a0_4, .int .i64 a0_5, .int .i64 a0_6, .int .i64 a0_7, .string a0_8] 39 (0, 0)) (by (with_reducible repeat (first | refine blk_drewN ?_ _ | refine blk_drew ?_ | refine blk_alloc ?_ _)); exact BK101.out) hb); have n1_ := Aside0.mk (below_step (by repeat (first | (with_reducible first | exact HB.out | apply below_alloc | apply pw_below_drewN | apply below_drew1 | refine below_set ?_ GE101.out) | exact HB.out)) hb); clear BK101; clear HB; have BK101 := n0_; have HB := n1_; clear n0_ n1_; (try clear hb); (try clear hb2); (try clear hk); (try clear hi); have hcz16_0 : w15.cell? ⟨gb101, 0, none⟩ = some (.int .i64 a0_0) := (blk_cell BK101.out 0).trans rfl; have hcz16_1 : w15.cell? ⟨gb101, 1, none⟩ = some (.int .i64 a0_1) := (blk_cell BK101.out 1).trans rfl; have hcz16_2 : w15.cell? ⟨gb101, 2, none⟩ = some (.int .i64 a0_2) := (blk_cell BK101.out 2).trans rfl; have hcz16_3 : w15.cell? ⟨gb101, 3, none⟩ = some (.int .i64 a0_3) := (blk_cell BK101.out 3).trans rfl; have hcz16_4 : w15.cell? ⟨gb101, 4, none⟩ = some (.int .i64 a0_4) := (blk_cell BK101.out 4).trans rfl; have hcz16_5 : w15.cell? ⟨gb101, 5, none⟩ = some (.int .i64 a0_5) := (blk_cell BK101.out 5).trans rfl; have hcz16_6 : w15.cell? ⟨gb101, 6, none⟩ = some (.int .i64 a0_6) := (blk_cell BK101.out 6).trans rfl; have hcz16_7 : w15.cell? ⟨gb101, 7, none⟩ = some (.int .i64 a0_7) := (blk_cell BK101.out 7).trans rfl; have hcz16_8 : w15.cell? ⟨gb101, 8, none⟩ = some (.string a0_8) := (blk_cell BK101.out 8).trans rfl; have hfz16_0 := blk_frozen BK101.out 0; have hfz16_1 := blk_frozen BK101.out 1; have hfz16_2 := blk_frozen BK101.out 2; have hfz16_3 := blk_frozen BK101.out 3; have hfz16_4 := blk_frozen BK101.out 4; have hfz16_5 := blk_frozen BK101.out 5; have hfz16_6 := blk_frozen BK101.out 6; have hfz16_7 := blk_frozen BK101.out 7; have hfz16_8 := blk_frozen BK101.out 8) | ((with_reducible refine gate_callee (f := 28) rfl ?_); refine goesL_ (some 15) rfl rfl Try.func28 (by kernel_rfl) rfl #[.agg #[.int .i64 a0_0, .int .i64 a0_1, .int .i64 a0_2, .int .i64 a0_3, .int .i64 a0_4, .int .i64 a0_5, .int .i64 a0_6, .int .i64 a0_7, .string a0_8]] rfl (by (try simp only [List.map_toArray, List.map_cons, List.map_nil]); first | done | rfl | (simp only [List.length_drop, List.length_take]; rfl)) ?_; (with_reducible refine (laws_toRequest.calls a0_0 a0_1 a0_2 a0_3 a0_4 a0_5 a0_6 a0_7 a0_8 t103 t104 t105 t106 t107 t108 t109 t110 t111 _ A7.out).mono ?_); rintro e w17 ⟨rfl, hb⟩; refine ⟨_, rfl, ?_⟩; have n0_ := Aside0.mk (blk_below (g := gb101) (o := .cells #[.int .i64 a0_0, .int .i64 a0_1, .int .i64 a0_2, .int .i64 a0_3, .int .i64 a0_4, .int .i64 a0_5, .int .i64 a0_6, .int .i64 a0_7, .string a0_8] 39 (0, 0)) (by (with_reducible repeat (first | refine blk_drewN ?_ _ | refine blk_drew ?_ | refine blk_alloc ?_ _)); exact BK101.out) hb); have n1_ := Aside0.mk (below_step (by repeat (first | (with_reducible first | exact HB.out | apply below_alloc | apply pw_below_drewN | apply below_drew1 | refine below_set ?_ GE101.out) | exact HB.out)) hb); clear BK101; clear HB; have BK101 := n0_; have HB := n1_; clear n0_ n1_; (try clear hb); (try clear hb2); (try clear hk); (try clear hi)) | ((with_reducible refine gate_callee (f := 27) rfl ?_); refine goesL_ (some 16) rfl rfl Try.func27 (by kernel_rfl) rfl #[.agg #[.int .i64 t103, .int .i64 t104, .int .i64 t105, .int .i64 t106, .int .i64 t107, .int .i64 t108, .int .i64 t109, .int .i64 t110, .string t111]] rfl (by (try simp only [List.map_toArray, List.map_cons, List.map_nil]); first | done | rfl | (simp only [List.length_drop, List.length_take]; rfl)) ?_; (with_reducible refine (spec_RequestText.calls k t103 t104 t105 t106 t107 t108 t109 t110 t111 t112 t113 _ A8.out).mono ?_); rintro e w18 ⟨rfl, hb⟩; refine ⟨_, rfl, ?_⟩; have n0_ := Aside0.mk (blk_below (g := gb101) (o := .cells #[.int .i64 a0_0, .int .i64 a0_1, .int .i64 a0_2, .int .i64 a0_3, .int .i64 a0_4, .int .i64 a0_5, .int .i64 a0_6, .int .i64 a0_7, .string a0_8] 39 (0, 0)) (by (with_reducible repeat (first | refine blk_drewN ?_ _ | refine blk_drew ?_ | refine blk_alloc ?_ _)); exact BK101.out) hb); have n1_ := Aside0.mk (below_step (by repeat (first | (with_reducible first | exact HB.out | apply below_alloc | apply pw_below_drewN | apply below_drew1 | refine below_set ?_ GE101.out) | exact HB.out)) hb); clear BK101; clear HB; have BK101 := n0_; have HB := n1_; clear n0_ n1_; (try clear hb); (try clear hb2); (try clear hk); (try clear hi); have hcz19_0 : w18.cell? ⟨gb101, 0, none⟩ = some (.int .i64 a0_0) := (blk_cell BK101.out 0).trans rfl; have hcz19_1 : w18.cell? ⟨gb101, 1, none⟩ = some (.int .i64 a0_1) := (blk_cell BK101.out 1).trans rfl; have hcz19_2 : w18.cell? ⟨gb101, 2, none⟩ = some (.int .i64 a0_2) := (blk_cell BK101.out 2).trans rfl; have hcz19_3 : w18.cell? ⟨gb101, 3, none⟩ = some (.int .i64 a0_3) := (blk_cell BK101.out 3).trans rfl; have hcz19_4 : w18.cell? ⟨gb101, 4, none⟩ = some (.int .i64 a0_4) := (blk_cell BK101.out 4).trans rfl; have hcz19_5 : w18.cell? ⟨gb101, 5, none⟩ = some (.int .i64 a0_5) := (blk_cell BK101.out 5).trans rfl; have hcz19_6 : w18.cell? ⟨gb101, 6, none⟩ = some (.int .i64 a0_6) := (blk_cell BK101.out 6).trans rfl; have hcz19_7 : w18.cell? ⟨gb101, 7, none⟩ = some (.int .i64 a0_7) := (blk_cell BK101.out 7).trans rfl; have hcz19_8 : w18.cell? ⟨gb101, 8, none⟩ = some (.string a0_8) := (blk_cell BK101.out 8).trans rfl; have hfz19_0 := blk_frozen BK101.out 0; have hfz19_1 := blk_frozen BK101.out 1; have hfz19_2 := blk_frozen BK101.out 2; have hfz19_3 := blk_frozen BK101.out 3; have hfz19_4 := blk_frozen BK101.out 4; have hfz19_5 := blk_frozen BK101.out 5; have hfz19_6 := blk_frozen BK101.out 6; have hfz19_7 := blk_frozen BK101.out 7; have hfz19_8 := blk_frozen BK101.out 8) | ((with_reducible refine gate_callee (f := 28) rfl ?_); refine goesL_ (some 21) rfl rfl Try.func28 (by kernel_rfl) rfl #[.agg #[.int .i64 a0_0, .int .i64 a0_1, .int .i64 a0_2, .int .i64 a0_3, .int .i64 a0_4, .int .i64 a0_5, .int .i64 a0_6, .int .i64 a0_7, .string a0_8]] rfl (by (try simp only [List.map_toArray, List.map_cons, List.map_nil]); first | done | rfl | (simp only [List.length_drop, List.length_take]; rfl)) ?_; (with_reducible refine (laws_toRequest.calls a0_0 a0_1 a0_2 a0_3 a0_4 a0_5 a0_6 a0_7 a0_8 t114 t115 t116 t117 t118 t119 t120 t121 t122 _ A9.out).mono ?_); rintro e w20 ⟨rfl, hb⟩; refine ⟨_, rfl, ?_⟩; have n0_ := Aside0.mk (blk_below (g := gb101) (o := .cells #[.int .i64 a0_0, .int .i64 a0_1, .int .i64 a0_2, .int .i64 a0_3, .int .i64 a0_4, .int .i64 a0_5, .int .i64 a0_6, .int .i64 a0_7, .string a0_8] 39 (0, 0)) (by (with_reducible repeat (first | refine blk_drewN ?_ _ | refine blk_drew ?_ | refine blk_alloc ?_ _)); exact BK101.out) hb); have n1_ := Aside0.mk (below_step (by repeat (first | (with_reducible first | exact HB.out | apply below_alloc | apply pw_below_drewN | apply below_drew1 | refine below_set ?_ GE101.out) | exact HB.out)) hb); clear BK101; clear HB; have BK101 := n0_; have HB := n1_; clear n0_ n1_; (try clear hb); (try clear hb2); (try clear hk); (try clear hi)) | ((with_reducible refine gate_callee (f := 29) rfl ?_); refine goesL_ (some 22) rfl rfl Try.func29 (by kernel_rfl) rfl #[.agg #[.int .i64 t114, .int .i64 t115, .int .i64 t116, .int .i64 t117, .int .i64 t118, .int .i64 t119, .int .i64 t120, .int .i64 t121, .string t122]] rfl (by (try simp only [List.map_toArray, List.map_cons, List.map_nil]); first | done | rfl | (simp only [List.length_drop, List.length_take]; rfl)) ?_; (with_reducible refine (impl_RequestText.calls k t114 t115 t116 t117 t118 t119 t120 t121 t122 t123 t124 _ A10.out).mono ?_); rintro e w21 ⟨rfl, hb⟩; refine ⟨_, rfl, ?_⟩; have n0_ := Aside0.mk (blk_below (g := gb101) (o := .cells #[.int .i64 a0_0, .int .i64 a0_1, .int .i64 a0_2, .int .i64 a0_3, .int .i64 a0_4, .int .i64 a0_5, .int .i64 a0_6, .int .i64 a0_7, .string a0_8] 39 (0, 0)) (by (with_reducible repeat (first | refine blk_drewN ?_ _ | refine blk_drew ?_ | refine blk_alloc ?_ _)); exact BK101.out) hb); have n1_ := Aside0.mk (below_step (by repeat (first | (with_reducible first | exact HB.out | apply below_alloc | apply pw_below_drewN | apply below_drew1 | refine below_set ?_ GE101.out) | exact HB.out)) hb); clear BK101; clear HB; have BK101 := n0_; have HB := n1_; clear n0_ n1_; (try clear hb); (try clear hb2); (try clear hk); (try clear hi)))
        go_ret
        exact ⟨by first | rfl | (simp [errW_none, errW_some] <;> rfl) | (simp [*, errW_none, errW_some] <;> rfl), by repeat (first | (with_reducible first | exact HB.out | apply below_alloc | apply pw_below_drewN | apply below_drew1 | refine below_set ?_ GE101.out) | exact HB.out)⟩
      · rw [if_neg c12] at H
        exact absurd H (by simp)
    · rw [if_neg c11] at H
      exact absurd H (by simp)
end Go.Proofs.Ytnppmhijoaeibaa.Q
namespace Go.Proofs.Ytnppmhijoaeibaa.Q
open Go.RowKit Go.Proofs.YtnppmhijoaeibaaW.PrintWords Go.Proofs.YtnppmhijoaeibaaW.PrintLast Go.Proofs.Ytnppmhijoaeibaa.H
set_option linter.unusedVariables false
set_option linter.unusedSimpArgs false
namespace RowFnExactRequestText
def wf_i64 (x : Int) : Prop := (Lit.int .i64 x).wf = true
theorem opn3 : Opn 3 (Kd.int .i64) wf_i64 := opn_int Try.underlying3
def wf_str (x : ByteArray) : Prop := x.size ≤ maxLen
theorem opn9 : Opn 9 Kd.string wf_str := opn_str Try.underlying9
theorem opt37 {H : Type} (enc : TypeId × Value → H) (W : World) (fuel : Nat) (cs : List Value) (x : DataW H × List MemPlace) (h : DataW.trod enc Try.prog W 0 (fun _ => true) true fuel 37 cs = some x) :
    ∃ (a0 : Int) (a1 : Int) (a2 : Int) (a3 : Int) (a4 : ByteArray), cs = [.int .i64 a0, .int .i64 a1, .int .i64 a2, .int .i64 a3, .string a4] ∧ wf_i64 a0 ∧ wf_i64 a1 ∧ wf_i64 a2 ∧ wf_i64 a3 ∧ wf_str a4 := by
  obtain ⟨xs, n, _, _, hl, hx, hf⟩ := DataW.trod_struct Try.underlying37 h
  rw [show Try.prog.cellsOf 37 = 5 from by kernel_rfl] at hl
  have hx2 : xs.length = 5 := hx
  obtain ⟨q0, t0, rfl, b0⟩ := cons_of hl
  obtain ⟨q1, t1, rfl, b1⟩ := cons_of b0
  obtain ⟨q2, t2, rfl, b2⟩ := cons_of b1
  obtain ⟨q3, t3, rfl, b3⟩ := cons_of b2
  obtain ⟨q4, t4, rfl, b4⟩ := cons_of b3
  obtain rfl := List.eq_nil_of_length_eq_zero b4
  have g0 : DataW.trod enc Try.prog W 0 (fun _ => true) true n 3 (([q0, q1, q2, q3, q4].drop 0).take (Try.prog.cellsOf 3)) = some (xs[0]'(by rw [hx2]; decide)) := (hf 0 _ rfl).trans (List.getElem?_eq_getElem (by rw [hx2]; decide))
  rw [show Try.prog.cellsOf 3 = 1 from by kernel_rfl] at g0
  simp only [List.drop_zero, List.drop_succ_cons, List.take_succ_cons, List.take_zero] at g0
  obtain ⟨a0, e0, w0⟩ := opn3 enc W n _ _ g0
  cases e0
  have g1 : DataW.trod enc Try.prog W 0 (fun _ => true) true n 3 (([.int .i64 a0, q1, q2, q3, q4].drop 1).take (Try.prog.cellsOf 3)) = some (xs[1]'(by rw [hx2]; decide)) := (hf 1 _ rfl).trans (List.getElem?_eq_getElem (by rw [hx2]; decide))
  rw [show Try.prog.cellsOf 3 = 1 from by kernel_rfl] at g1
  simp only [List.drop_zero, List.drop_succ_cons, List.take_succ_cons, List.take_zero] at g1
  obtain ⟨a1, e1, w1⟩ := opn3 enc W n _ _ g1
  cases e1
  have g2 : DataW.trod enc Try.prog W 0 (fun _ => true) true n 3 (([.int .i64 a0, .int .i64 a1, q2, q3, q4].drop 2).take (Try.prog.cellsOf 3)) = some (xs[2]'(by rw [hx2]; decide)) := (hf 2 _ rfl).trans (List.getElem?_eq_getElem (by rw [hx2]; decide))
  rw [show Try.prog.cellsOf 3 = 1 from by kernel_rfl] at g2
  simp only [List.drop_zero, List.drop_succ_cons, List.take_succ_cons, List.take_zero] at g2
  obtain ⟨a2, e2, w2⟩ := opn3 enc W n _ _ g2
  cases e2
  have g3 : DataW.trod enc Try.prog W 0 (fun _ => true) true n 3 (([.int .i64 a0, .int .i64 a1, .int .i64 a2, q3, q4].drop 3).take (Try.prog.cellsOf 3)) = some (xs[3]'(by rw [hx2]; decide)) := (hf 3 _ rfl).trans (List.getElem?_eq_getElem (by rw [hx2]; decide))
  rw [show Try.prog.cellsOf 3 = 1 from by kernel_rfl] at g3
  simp only [List.drop_zero, List.drop_succ_cons, List.take_succ_cons, List.take_zero] at g3
  obtain ⟨a3, e3, w3⟩ := opn3 enc W n _ _ g3
  cases e3
  have g4 : DataW.trod enc Try.prog W 0 (fun _ => true) true n 9 (([.int .i64 a0, .int .i64 a1, .int .i64 a2, .int .i64 a3, q4].drop 4).take (Try.prog.cellsOf 9)) = some (xs[4]'(by rw [hx2]; decide)) := (hf 4 _ rfl).trans (List.getElem?_eq_getElem (by rw [hx2]; decide))
  rw [show Try.prog.cellsOf 9 = 1 from by kernel_rfl] at g4
  simp only [List.drop_zero, List.drop_succ_cons, List.take_succ_cons, List.take_zero] at g4
  obtain ⟨a4, e4, w4⟩ := opn9 enc W n _ _ g4
  cases e4
  exact ⟨a0, a1, a2, a3, a4, rfl, w0, w1, w2, w3, w4⟩
theorem opt39 {H : Type} (enc : TypeId × Value → H) (W : World) (fuel : Nat) (cs : List Value) (x : DataW H × List MemPlace) (h : DataW.trod enc Try.prog W 0 (fun _ => true) true fuel 39 cs = some x) :
    ∃ (a0 : Int) (a1 : Int) (a2 : Int) (a3 : Int) (a4 : Int) (a5 : Int) (a6 : Int) (a7 : Int) (a8 : ByteArray), cs = [.int .i64 a0, .int .i64 a1, .int .i64 a2, .int .i64 a3, .int .i64 a4, .int .i64 a5, .int .i64 a6, .int .i64 a7, .string a8] ∧ wf_i64 a0 ∧ wf_i64 a1 ∧ wf_i64 a2 ∧ wf_i64 a3 ∧ wf_i64 a4 ∧ wf_i64 a5 ∧ wf_i64 a6 ∧ wf_i64 a7 ∧ wf_str a8 := by
  obtain ⟨xs, n, _, _, hl, hx, hf⟩ := DataW.trod_struct Try.underlying39 h
  rw [show Try.prog.cellsOf 39 = 9 from by kernel_rfl] at hl
  have hx2 : xs.length = 5 := hx
  obtain ⟨q0, t0, rfl, b0⟩ := cons_of hl
  obtain ⟨q1, t1, rfl, b1⟩ := cons_of b0
  obtain ⟨q2, t2, rfl, b2⟩ := cons_of b1
  obtain ⟨q3, t3, rfl, b3⟩ := cons_of b2
  obtain ⟨q4, t4, rfl, b4⟩ := cons_of b3
  obtain ⟨q5, t5, rfl, b5⟩ := cons_of b4
  obtain ⟨q6, t6, rfl, b6⟩ := cons_of b5
  obtain ⟨q7, t7, rfl, b7⟩ := cons_of b6
  obtain ⟨q8, t8, rfl, b8⟩ := cons_of b7
  obtain rfl := List.eq_nil_of_length_eq_zero b8
  have g0 : DataW.trod enc Try.prog W 0 (fun _ => true) true n 3 (([q0, q1, q2, q3, q4, q5, q6, q7, q8].drop 0).take (Try.prog.cellsOf 3)) = some (xs[0]'(by rw [hx2]; decide)) := (hf 0 _ rfl).trans (List.getElem?_eq_getElem (by rw [hx2]; decide))
  rw [show Try.prog.cellsOf 3 = 1 from by kernel_rfl] at g0
  simp only [List.drop_zero, List.drop_succ_cons, List.take_succ_cons, List.take_zero] at g0
  obtain ⟨a0, e0, w0⟩ := opn3 enc W n _ _ g0
  cases e0
  have g1 : DataW.trod enc Try.prog W 0 (fun _ => true) true n 3 (([.int .i64 a0, q1, q2, q3, q4, q5, q6, q7, q8].drop 1).take (Try.prog.cellsOf 3)) = some (xs[1]'(by rw [hx2]; decide)) := (hf 1 _ rfl).trans (List.getElem?_eq_getElem (by rw [hx2]; decide))
  rw [show Try.prog.cellsOf 3 = 1 from by kernel_rfl] at g1
  simp only [List.drop_zero, List.drop_succ_cons, List.take_succ_cons, List.take_zero] at g1
  obtain ⟨a1, e1, w1⟩ := opn3 enc W n _ _ g1
  cases e1
  have g2 : DataW.trod enc Try.prog W 0 (fun _ => true) true n 3 (([.int .i64 a0, .int .i64 a1, q2, q3, q4, q5, q6, q7, q8].drop 2).take (Try.prog.cellsOf 3)) = some (xs[2]'(by rw [hx2]; decide)) := (hf 2 _ rfl).trans (List.getElem?_eq_getElem (by rw [hx2]; decide))
  rw [show Try.prog.cellsOf 3 = 1 from by kernel_rfl] at g2
  simp only [List.drop_zero, List.drop_succ_cons, List.take_succ_cons, List.take_zero] at g2
  obtain ⟨a2, e2, w2⟩ := opn3 enc W n _ _ g2
  cases e2
  have g3 : DataW.trod enc Try.prog W 0 (fun _ => true) true n 3 (([.int .i64 a0, .int .i64 a1, .int .i64 a2, q3, q4, q5, q6, q7, q8].drop 3).take (Try.prog.cellsOf 3)) = some (xs[3]'(by rw [hx2]; decide)) := (hf 3 _ rfl).trans (List.getElem?_eq_getElem (by rw [hx2]; decide))
  rw [show Try.prog.cellsOf 3 = 1 from by kernel_rfl] at g3
  simp only [List.drop_zero, List.drop_succ_cons, List.take_succ_cons, List.take_zero] at g3
  obtain ⟨a3, e3, w3⟩ := opn3 enc W n _ _ g3
  cases e3
  have g4 : DataW.trod enc Try.prog W 0 (fun _ => true) true n 37 (([.int .i64 a0, .int .i64 a1, .int .i64 a2, .int .i64 a3, q4, q5, q6, q7, q8].drop 4).take (Try.prog.cellsOf 37)) = some (xs[4]'(by rw [hx2]; decide)) := (hf 4 _ rfl).trans (List.getElem?_eq_getElem (by rw [hx2]; decide))
  rw [show Try.prog.cellsOf 37 = 5 from by kernel_rfl] at g4
  simp only [List.drop_zero, List.drop_succ_cons, List.take_succ_cons, List.take_zero] at g4
  obtain ⟨a4, a5, a6, a7, a8, e4, w4, w5, w6, w7, w8⟩ := opt37 enc W n _ _ g4
  cases e4
  exact ⟨a0, a1, a2, a3, a4, a5, a6, a7, a8, rfl, w0, w1, w2, w3, w4, w5, w6, w7, w8⟩
end RowFnExactRequestText
open RowFnExactRequestText in
def laws_FnExactRequestText.Pure : Prop := ∀ (a0_0 : Int) (a0_1 : Int) (a0_2 : Int) (a0_3 : Int) (a0_4 : Int) (a0_5 : Int) (a0_6 : Int) (a0_7 : Int) (a0_8 : ByteArray), wf_i64 a0_0 → wf_i64 a0_1 → wf_i64 a0_2 → wf_i64 a0_3 → wf_i64 a0_4 → wf_i64 a0_5 → wf_i64 a0_6 → wf_i64 a0_7 → wf_str a0_8 → ∃ k, laws_FnExactRequestText.f k a0_0 a0_1 a0_2 a0_3 a0_4 a0_5 a0_6 a0_7 a0_8 = some true
end Go.Proofs.Ytnppmhijoaeibaa.Q
set_option linter.unusedVariables false
set_option linter.unusedSimpArgs false
namespace Go.Proofs.Ytnppmhijoaeibaa.H
open Go.RowKit Go.Proofs.YtnppmhijoaeibaaW.PrintWords Go.Proofs.Ytnppmhijoaeibaa.Q
theorem tmodE {a b : Int} (h : 0 ≤ a) : Int.tmod a b = a % b := Int.tmod_eq_emod_of_nonneg h
theorem tdivE {a b : Int} (h : 0 ≤ a) : Int.tdiv a b = a / b := Int.tdiv_eq_ediv_of_nonneg h
theorem Ev.val {α : Type} {g : Nat → Option α} {r : α} (K : Nat) (h : ∀ k, g (k + K) = some r) : Ev g r := ⟨K, fun k hk => by have := h (k - K); rwa [Nat.sub_add_cancel hk] at this⟩
theorem Ev.const {α : Type} {x : Option α} {r : α} (h : x = some r) : Ev (fun _ => x) r := ⟨0, fun _ _ => h⟩
def putS (n : Int) : ByteArray := strOfNums (putL n)
theorem strOfNums_size (xs : List Int) : (strOfNums xs).size = xs.length := by simp [strOfNums, ByteArray.size]
theorem putS_size (n : Int) : (putS n).size = (putL n).length := strOfNums_size _
theorem putS_len (n : Int) : (putS n).size ≤ 3 := by rw [putS_size]; exact putL_len n
theorem number_eq {n : Int} (h : n < 2097152) : impl_number.f n = some (putS n) := by unfold impl_number.f; rw [if_pos h]; rfl
theorem l01Put_eq {n : Int} (h0 : 0 ≤ n) (h : n < 2097152) : Ev (fun k => spec_l01Put.f k n) (putS n) := by
  refine Ev.val 4 fun k => ?_
  unfold spec_l01Put.f putS putL
  by_cases h3 : 16383 < n
  · simp (disch := omega) only [spec_l01Put.l0, if_pos, if_neg, wid, tmodE, tdivE, List.length_nil, List.length_append, List.length_cons, List.nil_append, List.cons_append, h3]
    congr 2
    simp; omega
  · by_cases h2 : 127 < n
    · simp (disch := omega) only [spec_l01Put.l0, if_pos, if_neg, wid, tmodE, tdivE, List.length_nil, List.length_append, List.length_cons, List.nil_append, List.cons_append, h3, h2]
      congr 2
      simp; omega
    · simp (disch := omega) only [spec_l01Put.l0, if_pos, if_neg, wid, tmodE, tdivE, List.length_nil, List.length_append, List.length_cons, List.nil_append, List.cons_append, h3, h2]
      rw [if_neg (by simp)]
end Go.Proofs.Ytnppmhijoaeibaa.H
set_option linter.unusedVariables false
set_option linter.unusedSimpArgs false
namespace Go.Proofs.Ytnppmhijoaeibaa.H
open Go.RowKit Go.Proofs.YtnppmhijoaeibaaW.PrintWords Go.Proofs.Ytnppmhijoaeibaa.Q
def sumL (l : List UInt8) (n : Int) : Int := l.foldl (fun n b => (31 * n + b.toNat) % 65521) n
def sumP (t : ByteArray) : Int := sumL t.data.toList 1
theorem sumL_range (l : List UInt8) : ∀ {n : Int}, 0 ≤ n → n < 65521 → 0 ≤ sumL l n ∧ sumL l n < 65521 := by
  induction l with
  | nil => intro n h0 h1; exact ⟨h0, h1⟩
  | cons b l ih => intro n h0 h1; exact ih (n := (31 * n + b.toNat) % 65521) (by omega) (by omega)
theorem sumP_range (t : ByteArray) : 0 ≤ sumP t ∧ sumP t < 65521 := sumL_range _ (by omega) (by omega)
theorem bt_nat (t : ByteArray) (i : Nat) (h : i < t.size) : bt t i = (t[i].toNat : Int) := by unfold bt; simp [h]
theorem drop_step (t : ByteArray) (i : Nat) (h : i < t.size) : t.data.toList.drop i = t[i] :: t.data.toList.drop (i + 1) := by
  rw [List.drop_eq_getElem_cons (by simpa using h)]; rfl
theorem sum_step (t : ByteArray) (i : Nat) (h : i < t.size) (n : Int) : sumL (t.data.toList.drop i) n = sumL (t.data.toList.drop (i + 1)) ((31 * n + bt t i) % 65521) := by
  rw [drop_step t i h, bt_nat t i h]; rfl
theorem sum_done (t : ByteArray) (i : Nat) (h : t.size ≤ i) (n : Int) : sumL (t.data.toList.drop i) n = n := by
  rw [List.drop_of_length_le (by simpa using h)]; rfl
theorem sum_arith {n b : Int} (h0 : 0 ≤ n) (h1 : n < 65521) (b0 : 0 ≤ b ∧ b ≤ 255) : Int.tmod (wrap64 (wrap64 (31 * n) + wrap64 b)) 65521 = (31 * n + b) % 65521 := by
  rw [wid (x := 31 * n) (by omega) (by omega), wid (x := b) (by omega) (by omega), wid (by omega) (by omega), tmodE (by omega)]
theorem mod_range (x : Int) : 0 ≤ x % 65521 ∧ x % 65521 < 65521 := by omega
theorem nat_wrap {i : Nat} {m : Nat} (h : i < m) (hm : m ≤ 1048576) : wrap64 ((i : Int) + 1) = ((i + 1 : Nat) : Int) := by rw [wid (by omega) (by omega)]; omega
theorem l01Sum_loop (t : ByteArray) (h2 : t.size ≤ 1048576) (d : Nat) : ∀ (i : Nat) (n : Int) (k : Nat), i + d = t.size → 0 ≤ n → n < 65521 → spec_l01Sum.l0 (k + d + 1) t n i = some (sumL (t.data.toList.drop i) n) := by
  induction d with
  | zero =>
    intro i n k hi h0 h1
    rw [spec_l01Sum.l0, if_neg (by omega), sum_done t i (by omega)]
  | succ d ih =>
    intro i n k hi h0 h1
    rw [spec_l01Sum.l0, if_pos (by omega), if_pos (by omega), sum_arith h0 h1 (bt_range t i), nat_wrap (m := t.size) (by omega) h2, sum_step t i (by omega)]
    exact ih (i + 1) _ k (by omega) (mod_range _).1 (mod_range _).2
theorem l01Sum_eq {t : ByteArray} (h2 : t.size ≤ 1048576) : Ev (fun k => spec_l01Sum.f k t) (sumP t) :=
  Ev.val (t.size + 1) fun k => by
    have := l01Sum_loop t h2 t.size 0 1 k (by omega) (by omega) (by omega)
    rw [List.drop_zero] at this
    exact this
theorem sumOf_loop (t : ByteArray) (h2 : t.size ≤ 1048576) (d : Nat) : ∀ (i : Nat) (n : Int) (k : Nat), i + d = t.size → 0 ≤ n → n < 65521 → impl_sumOf.l0 (k + d + 1) t n t.size i = some (sumL (t.data.toList.drop i) n) := by
  induction d with
  | zero =>
    intro i n k hi h0 h1
    rw [impl_sumOf.l0, if_neg (by omega), sum_done t i (by omega)]
  | succ d ih =>
    intro i n k hi h0 h1
    rw [impl_sumOf.l0, if_pos (by omega), if_pos (by omega), if_pos (by omega), sum_arith h0 h1 (bt_range t i), nat_wrap (m := t.size) (by omega) h2, sum_step t i (by omega)]
    exact ih (i + 1) _ k (by omega) (mod_range _).1 (mod_range _).2
theorem sumOf_eq {t : ByteArray} (h2 : t.size ≤ 1048576) : Ev (fun k => impl_sumOf.f k t) (sumP t) :=
  Ev.val (t.size + 1) fun k => by
    have := sumOf_loop t h2 t.size 0 1 k (by omega) (by omega) (by omega)
    rw [List.drop_zero] at this
    exact this
def sum2 (t : ByteArray) : ByteArray := strOfNums [sumP t % 256, sumP t / 256]
theorem sum2_size (t : ByteArray) : (sum2 t).size = 2 := strOfNums_size _
theorem sum_two (t : ByteArray) : [Int.tmod (sumP t) 256 % 256, wrap64 (Int.tdiv (sumP t) 256) % 256] = [sumP t % 256, sumP t / 256] := by
  have := sumP_range t
  generalize sumP t = s at *
  rw [tmodE (by omega), tdivE (by omega), wid (by omega) (by omega), show s % 256 % 256 = s % 256 by omega, show s / 256 % 256 = s / 256 by omega]
theorem sumText_eq {t : ByteArray} (h2 : t.size ≤ 1048576) : Ev (fun k => impl_sumText.f k t) (sum2 t) :=
  (sumOf_eq h2).bind (Ev.const (by rw [sum_two]; rfl))
def textS (t : ByteArray) : ByteArray := putS t.size ++ t
theorem textS_size (t : ByteArray) : (textS t).size = (putS t.size).size + t.size := by unfold textS; simp
theorem textS_len (t : ByteArray) : (textS t).size ≤ t.size + 3 := by have := putS_len t.size; rw [textS_size]; omega
theorem text_eq {t : ByteArray} (h2 : t.size ≤ 1048576) : impl_text.f t = some (textS t) := by
  unfold impl_text.f
  have := putS_len t.size
  rw [number_eq (by omega), Option.bind_some, if_pos (by omega)]; rfl
theorem l01PutText_eq {t : ByteArray} (h2 : t.size ≤ 1048576) : Ev (fun k => spec_l01PutText.f k t) (textS t) :=
  (l01Put_eq (n := t.size) (by omega) (by omega)).bind (Ev.const (by have := putS_len t.size; rw [if_pos (by omega)]; rfl))
def coS : ByteArray := ⟨#[67, 79]⟩
def bodyS (t : ByteArray) : ByteArray := coS ++ textS t
theorem bodyS_size (t : ByteArray) : (bodyS t).size = 2 + (textS t).size := by unfold bodyS; rw [ByteArray.size_append]; rfl
def frameS (t : ByteArray) : ByteArray := bodyS t ++ sum2 (bodyS t)
theorem l01Frame_eq {t : ByteArray} (h2 : t.size ≤ 1000000) : Ev (fun k => spec_l01Frame.f k t) (frameS t) := by
  have hl := textS_len t
  have hb := bodyS_size t
  refine (l01PutText_eq (by omega)).bind ?_
  rw [show (fun n => (fun k t119 => if 2 + ByteArray.size t119 ≤ 9223372036854775807 then (spec_l01Sum.f k ((⟨#[67, 79]⟩ : ByteArray) ++ t119)).bind fun t120 => ((some (([(Int.tmod t120 256) % 256, (wrap64 (Int.tdiv t120 256)) % 256] : List Int) : List Int)).bind fun y121 => (if ((⟨#[67, 79]⟩ : ByteArray) ++ t119).size + (strOfNums y121).size ≤ 9223372036854775807 then (some (((⟨#[67, 79]⟩ : ByteArray) ++ t119) ++ (strOfNums y121))) else (none))) else none) n (textS t)) =
    fun n => (spec_l01Sum.f n (bodyS t)).bind fun s => if (bodyS t).size + 2 ≤ 9223372036854775807 then some (bodyS t ++ strOfNums [(Int.tmod s 256) % 256, (wrap64 (Int.tdiv s 256)) % 256]) else none from by
      funext n; simp only []; rw [if_pos (by omega)]; rfl]
  refine (l01Sum_eq (by omega)).bind (Ev.const ?_)
  rw [if_pos (by omega), sum_two]; rfl
theorem frame_eq {t : ByteArray} (h2 : t.size ≤ 1000000) : Ev (fun k => impl_frame.f k t) (frameS t) := by
  have hl := textS_len t
  have hb := bodyS_size t
  refine Ev.congr (f := fun k => (impl_sumText.f k (bodyS t)).bind fun s => if (bodyS t).size + s.size ≤ 9223372036854775807 then some (bodyS t ++ s) else none) (fun k => ?_) ((sumText_eq (by omega)).bind (Ev.const ?_))
  · unfold impl_frame.f; rw [text_eq (by omega), Option.bind_some, if_pos (by omega)]; rfl
  · rw [if_pos (by rw [sum2_size]; omega)]; rfl
end Go.Proofs.Ytnppmhijoaeibaa.H
set_option linter.unusedVariables false
set_option linter.unusedSimpArgs false
namespace Go.Proofs.Ytnppmhijoaeibaa.H
open Go.RowKit Go.Proofs.YtnppmhijoaeibaaW.PrintWords Go.Proofs.YtnppmhijoaeibaaW.PrintLast Go.Proofs.YtnppmhijoaeibaaW.PrintMore Go.Proofs.Ytnppmhijoaeibaa.Q
theorem within_eq (a b c : Int) : impl_within.f a b c = some (decide (b ≤ a ∧ a ≤ c)) := by
  unfold impl_within.f
  by_cases h : a ≥ b
  · rw [if_pos h]; congr 1; simp; omega
  · rw [if_neg h]; congr 1; simp; omega
theorem l01In_eq (a b c : Int) : spec_l01In.f a b c = some (decide (b ≤ a ∧ a ≤ c)) := by
  unfold spec_l01In.f
  by_cases h : a ≥ b
  · rw [if_pos h]; congr 1; simp; omega
  · rw [if_neg h]; congr 1; simp; omega
theorem toList_nil (a : ByteArray) : (a.toList = ([] : List UInt8)) = (a.size = 0) := by
  rw [Lib.toList_data]
  apply propext
  rw [← List.length_eq_zero_iff, data_length]
def EOK (a0 a1 a2 a3 : Int) (t : ByteArray) : Prop :=
  1 ≤ a1 ∧ a1 ≤ 999999 ∧ ((a0 = 1 ∧ 1 ≤ a2 ∧ a2 ≤ 8 ∧ 0 ≤ a3 ∧ a3 ≤ 12 ∧ t.size = 0) ∨ ((a0 = 2 ∨ a0 = 7 ∨ a0 = 9) ∧ a2 = 0 ∧ a3 = 0 ∧ t.size = 0) ∨ (a0 = 3 ∧ a2 = 0 ∧ a3 = 0 ∧ t.size ≤ 20) ∨
    (a0 = 4 ∧ 0 ≤ a2 ∧ a2 ≤ 99 ∧ a3 = 0 ∧ t.size = 0) ∨ (a0 = 5 ∧ 1 ≤ a2 ∧ a2 ≤ 999999 ∧ 0 ≤ a3 ∧ a3 ≤ 12 ∧ t.size = 0) ∨ (a0 = 6 ∧ 1 ≤ a2 ∧ a2 ≤ 8 ∧ a3 = 0 ∧ t.size = 0) ∨ (a0 = 8 ∧ 0 ≤ a2 ∧ a2 ≤ 20 ∧ a3 = 0 ∧ t.size = 0))
instance (a0 a1 a2 a3 : Int) (t : ByteArray) : Decidable (EOK a0 a1 a2 a3 t) := by unfold EOK; infer_instance
theorem some_dec {p q : Prop} [Decidable p] [Decidable q] (h : p ↔ q) : (some (decide p) : Option Bool) = some (decide q) := by congr 1; exact decide_eq_decide.2 h
theorem some_no {q : Prop} [Decidable q] (h : ¬ q) : (some false : Option Bool) = some (decide q) := by congr 1; exact (decide_eq_false h).symm
theorem beq_dec (a b : Int) : (a == b) = decide (a = b) := rfl
theorem ite_eq {c : Prop} [Decidable c] {a b r : Option Bool} (h1 : c → a = r) (h2 : ¬ c → b = r) : (if c then a else b) = r := by
  by_cases h : c
  · rw [if_pos h]; exact h1 h
  · rw [if_neg h]; exact h2 h
theorem impl_EditOK_eq (k : Nat) (a0 a1 a2 a3 : Int) (t : ByteArray) : impl_EditOK.f (k + 1) a0 a1 a2 a3 t = some (decide (EOK a0 a1 a2 a3 t)) := by
  unfold impl_EditOK.f impl_EditOK.j0
  simp only [within_eq, Option.bind_some, decide_eq_true_eq, beq_dec]
  repeat' (with_reducible refine ite_eq (fun _ => ?_) (fun _ => ?_))
  all_goals first
    | exact some_dec (by unfold EOK; omega)
    | exact some_no (by unfold EOK; omega)
theorem spec_EditOK_eq (k : Nat) (a0 a1 a2 a3 : Int) (t : ByteArray) : spec_EditOK.f (k + 2) a0 a1 a2 a3 t = some (decide (EOK a0 a1 a2 a3 t)) := by
  unfold spec_EditOK.f spec_EditOK.j0 spec_EditOK.j1 spec_l02Kind.f
  simp only [l01In_eq, Option.bind_some, decide_eq_true_eq, beq_dec, toList_nil, if_true]
  repeat' (with_reducible refine ite_eq (fun _ => ?_) (fun _ => ?_))
  all_goals first
    | exact some_dec (by unfold EOK; omega)
    | exact some_no (by unfold EOK; omega)
def NOE (a4 a5 a6 a7 : Int) (t : ByteArray) : Prop := a4 = 0 ∧ a5 = 0 ∧ a6 = 0 ∧ a7 = 0 ∧ t.size = 0
def ROK (a0 a1 a2 a3 a4 a5 a6 a7 : Int) (t : ByteArray) : Prop :=
  (a0 = 1 ∧ a1 = 0 ∧ a2 = 0 ∧ a3 = 0 ∧ NOE a4 a5 a6 a7 t) ∨ ((a0 = 2 ∨ a0 = 3 ∨ a0 = 8 ∨ a0 = 9) ∧ 1 ≤ a1 ∧ a1 ≤ 999 ∧ a2 = 0 ∧ a3 = 0 ∧ NOE a4 a5 a6 a7 t) ∨
  (a0 = 4 ∧ 1 ≤ a1 ∧ a1 ≤ 999 ∧ 1 ≤ a2 ∧ a2 ≤ 999999 ∧ 1 ≤ a3 ∧ a3 ≤ 5 ∧ NOE a4 a5 a6 a7 t) ∨ ((a0 = 5 ∨ a0 = 6 ∨ a0 = 10) ∧ 1 ≤ a1 ∧ a1 ≤ 999 ∧ 1 ≤ a2 ∧ a2 ≤ 999999 ∧ a3 = 0 ∧ NOE a4 a5 a6 a7 t) ∨
  (a0 = 7 ∧ 1 ≤ a1 ∧ a1 ≤ 999 ∧ a2 = 0 ∧ a3 = 0 ∧ EOK a4 a5 a6 a7 t) ∨ (a0 = 11 ∧ a1 = 0 ∧ a2 = 0 ∧ 1 ≤ a3 ∧ a3 ≤ 500 ∧ NOE a4 a5 a6 a7 t)
instance (a4 a5 a6 a7 : Int) (t : ByteArray) : Decidable (NOE a4 a5 a6 a7 t) := by unfold NOE; infer_instance
instance (a0 a1 a2 a3 a4 a5 a6 a7 : Int) (t : ByteArray) : Decidable (ROK a0 a1 a2 a3 a4 a5 a6 a7 t) := by unfold ROK; infer_instance
theorem noe_bool (a4 a5 a6 a7 : Int) (t : ByteArray) : ((!(a4 == 0) || (!(a5 == 0) || (!(a6 == 0) || (!(a7 == 0) || (!(t.toList == ([] : List UInt8))))))) = true) = ¬ NOE a4 a5 a6 a7 t := by
  have e : (t.toList == ([] : List UInt8)) = decide (t.size = 0) := by
    by_cases h : t.size = 0
    · rw [decide_eq_true h, beq_iff_eq, toList_nil]; exact h
    · rw [decide_eq_false h, beq_eq_false_iff_ne]; exact fun h2 => h (by rwa [toList_nil] at h2)
  rw [e]
  apply propext
  unfold NOE
  simp only [beq_dec, Bool.or_eq_true, Bool.not_eq_true', decide_eq_false_iff_not]
  omega
theorem noe_eok {a4 a5 a6 a7 : Int} {t : ByteArray} (h : NOE a4 a5 a6 a7 t) : ¬ EOK a4 a5 a6 a7 t := fun h2 => by unfold NOE at h; unfold EOK at h2; omega
theorem req_j2 (k : Nat) (x3 x4 x5 x6 x7 : Int) (b : Bool) (a0 a1 a2 a3 a4 a5 a6 a7 : Int) (t : ByteArray) : impl_RequestOK.j2 (k + 1) x3 x4 x5 x6 x7 b a0 a1 a2 a3 a4 a5 a6 a7 t = some (decide (b = false ∧ x3 ≤ a1 ∧ a1 ≤ x4 ∧ mn x5 1 ≤ a2 ∧ a2 ≤ x5 ∧ x6 ≤ a3 ∧ a3 ≤ x7)) := by
  unfold impl_RequestOK.j2
  simp only [within_eq, Option.bind_some, decide_eq_true_eq]
  cases b with
  | true => rw [if_pos rfl]; exact some_no (by simp)
  | false =>
    rw [if_neg (by simp)]
    repeat' (with_reducible refine ite_eq (fun _ => ?_) (fun _ => ?_))
    all_goals first
      | exact some_dec (by simp; omega)
      | exact some_no (by simp; omega)
def REOK (a0 a4 a5 a6 a7 : Int) (t : ByteArray) : Prop := (a0 = 7 ∧ EOK a4 a5 a6 a7 t) ∨ (a0 ≠ 7 ∧ NOE a4 a5 a6 a7 t)
instance (a0 a4 a5 a6 a7 : Int) (t : ByteArray) : Decidable (REOK a0 a4 a5 a6 a7 t) := by unfold REOK; infer_instance
theorem req_j1 (k : Nat) (x3 x4 x5 x6 x7 : Int) (a0 a1 a2 a3 a4 a5 a6 a7 : Int) (t : ByteArray) : impl_RequestOK.j1 (k + 2) x3 x4 x5 x6 x7 a0 a1 a2 a3 a4 a5 a6 a7 t = some (decide (REOK a0 a4 a5 a6 a7 t ∧ x3 ≤ a1 ∧ a1 ≤ x4 ∧ mn x5 1 ≤ a2 ∧ a2 ≤ x5 ∧ x6 ≤ a3 ∧ a3 ≤ x7)) := by
  unfold impl_RequestOK.j1
  simp only [impl_EditOK_eq, req_j2, Option.bind_some]
  by_cases h7 : a0 = 7
  · by_cases hE : EOK a4 a5 a6 a7 t
    · rw [if_neg (by simp [h7, hE]), if_pos h7]; exact some_dec (by unfold REOK; simp [h7, hE])
    · rw [if_pos (by simp [h7, hE])]; exact some_dec (by unfold REOK; simp [h7, hE])
  · by_cases hN : NOE a4 a5 a6 a7 t
    · have hE := noe_eok hN
      rw [if_neg (by simp [h7, hE]), if_neg h7]
      have := noe_bool a4 a5 a6 a7 t
      have hb : (!(a4 == 0) || (!(a5 == 0) || (!(a6 == 0) || (!(a7 == 0) || (!(t.toList == ([] : List UInt8))))))) = false := Bool.eq_false_iff.2 (fun h => by rw [noe_bool] at h; exact h hN)
      rw [hb]; exact some_dec (by unfold REOK; simp [h7, hN])
    · by_cases hE : EOK a4 a5 a6 a7 t
      · rw [if_pos (by simp [h7, hE])]; exact some_dec (by unfold REOK; simp [h7, hN])
      · rw [if_neg (by simp [h7, hE]), if_neg h7]
        have hb : (!(a4 == 0) || (!(a5 == 0) || (!(a6 == 0) || (!(a7 == 0) || (!(t.toList == ([] : List UInt8))))))) = true := by rw [noe_bool]; exact hN
        rw [hb]; exact some_dec (by unfold REOK; simp [h7, hN])
theorem as_int (p : Prop) [Decidable p] : ∃ e : Int, p ↔ e = 1 := ⟨if p then 1 else 0, by split <;> simp [*]⟩
set_option maxHeartbeats 4000000 in
theorem impl_RequestOK_eq (k : Nat) (a0 a1 a2 a3 a4 a5 a6 a7 : Int) (t : ByteArray) : impl_RequestOK.f (k + 3) a0 a1 a2 a3 a4 a5 a6 a7 t = some (decide (ROK a0 a1 a2 a3 a4 a5 a6 a7 t)) := by
  unfold impl_RequestOK.f impl_RequestOK.j0
  simp only [req_j1, beq_dec, decide_eq_true_eq, mn]
  obtain ⟨e, hE⟩ := as_int (EOK a4 a5 a6 a7 t)
  obtain ⟨m, hN⟩ := as_int (NOE a4 a5 a6 a7 t)
  repeat' (with_reducible refine ite_eq (fun _ => ?_) (fun _ => ?_))
  all_goals first
    | exact some_dec (by unfold ROK REOK; rw [hE, hN]; omega)
    | exact some_no (by unfold ROK; rw [hE, hN]; omega)
set_option maxHeartbeats 4000000 in
theorem spec_RequestOK_eq (k : Nat) (a0 a1 a2 a3 a4 a5 a6 a7 : Int) (t : ByteArray) : spec_RequestOK.f (k + 5) a0 a1 a2 a3 a4 a5 a6 a7 t = some (decide (ROK a0 a1 a2 a3 a4 a5 a6 a7 t)) := by
  obtain ⟨e, hE⟩ := as_int (EOK a4 a5 a6 a7 t)
  obtain ⟨m, hN⟩ := as_int (NOE a4 a5 a6 a7 t)
  have hb : ∃ b : Bool, (!(a4 == 0) || (!(a5 == 0) || (!(a6 == 0) || (!(a7 == 0) || (!(t.toList == ([] : List UInt8))))))) = b ∧ (b = true ↔ m ≠ 1) := ⟨_, rfl, by rw [noe_bool, hN]⟩
  obtain ⟨b, hb, hb2⟩ := hb
  unfold spec_RequestOK.f
  rw [hb]
  clear hb
  unfold spec_RequestOK.j0 spec_RequestOK.j1 spec_RequestOK.j2 spec_l07Mode.f
  simp only [spec_EditOK_eq, l01In_eq, hb2, Option.bind_some, decide_eq_true_eq, beq_dec, if_true]
  repeat' (with_reducible refine ite_eq (fun _ => ?_) (fun _ => ?_))
  all_goals first
    | exact some_dec (by unfold ROK; rw [hE, hN]; omega)
    | exact some_no (by unfold ROK; rw [hE, hN]; omega)
    | contradiction
    | (exfalso; omega)
end Go.Proofs.Ytnppmhijoaeibaa.H
set_option linter.unusedVariables false
set_option linter.unusedSimpArgs false
namespace Go.Proofs.Ytnppmhijoaeibaa.H
open Go.RowKit Go.Proofs.YtnppmhijoaeibaaW.PrintWords Go.Proofs.YtnppmhijoaeibaaW.PrintLast Go.Proofs.YtnppmhijoaeibaaW.PrintMore Go.Proofs.Ytnppmhijoaeibaa.Q
theorem rd_get {xs : List Int} {i : Nat} (h : i < xs.length) : rd xs (i : Int) = xs[i] := by unfold rd; rw [Int.toNat_natCast, List.getD_eq_getElem?_getD, List.getElem?_eq_getElem h]; rfl
theorem numsL_step (xs : List Int) (i : Nat) (h : i < xs.length) : numsL (xs.drop i) = putL (rd xs i) ++ numsL (xs.drop (i + 1)) := by
  rw [List.drop_eq_getElem_cons h, rd_get h]; rfl
theorem strOfNums_app (a b : List Int) : strOfNums (a ++ b) = strOfNums a ++ strOfNums b := by
  apply ByteArray.ext
  apply Array.ext'
  rw [ByteArray.data_append, Array.toList_append]
  simp [strOfNums]
theorem l10Numbers_loop (xs : List Int) (hx : ∀ x ∈ xs, 0 ≤ x ∧ x < 2097152) (hl : xs.length ≤ 1048576) (d : Nat) : ∀ (i : Nat) (x : ByteArray), i + d = xs.length → x.size ≤ 3 * i + 1048576 → Ev (fun k => spec_l10Numbers.l0 k xs x i) (x ++ strOfNums (numsL (xs.drop i))) := by
  induction d with
  | zero =>
    intro i x hi hs
    refine Ev.val 1 fun k => ?_
    rw [spec_l10Numbers.l0, if_neg (by omega), List.drop_of_length_le (by omega)]
    congr 1
    apply ByteArray.ext
    apply Array.ext'
    rw [ByteArray.data_append, Array.toList_append]
    simp [numsL, strOfNums]
  | succ d ih =>
    intro i x hi hs
    have hm := hx _ (List.getElem_mem (show i < xs.length by omega))
    rw [← rd_get] at hm
    have hp := putL_len (rd xs i)
    have hz : (putS (rd xs i)).size = (putL (rd xs i)).length := putS_size _
    refine Ev.step (f := fun k => (spec_l01Put.f k (rd xs i)).bind fun t => if x.size + t.size ≤ 9223372036854775807 then spec_l10Numbers.l0 k xs (x ++ t) ((i + 1 : Nat) : Int) else none) (fun k => ?_) ?_
    · rw [spec_l10Numbers.l0, if_pos (by omega), if_pos (by omega), nat_wrap (m := xs.length) (by omega) hl]
    · refine (l01Put_eq hm.1 hm.2).bind ?_
      have h := ih (i + 1) (x ++ putS (rd xs i)) (by omega) (by rw [ByteArray.size_append]; omega)
      rw [numsL_step xs i (by omega), strOfNums_app, ← ByteArray.append_assoc]
      refine Ev.congr (fun k => if_pos (by omega)) h
theorem l10Numbers_eq {xs : List Int} (hx : ∀ x ∈ xs, 0 ≤ x ∧ x < 2097152) (hl : xs.length ≤ 1048576) : Ev (fun k => spec_l10Numbers.f k xs) (strOfNums (numsL xs)) := by
  have h := l10Numbers_loop xs hx hl xs.length 0 ⟨#[]⟩ (by omega) (by show 0 ≤ _; omega)
  rw [List.drop_zero] at h
  have e : (⟨#[]⟩ : ByteArray) ++ strOfNums (numsL xs) = strOfNums (numsL xs) := by
    apply ByteArray.ext
    apply Array.ext'
    rw [ByteArray.data_append, Array.toList_append]
    rfl
  rw [e] at h
  exact h
theorem numsS_size (xs : List Int) : (strOfNums (numsL xs)).size ≤ 3 * xs.length := by rw [strOfNums_size]; exact numsL_len xs
def reqB (a0 a1 a2 a3 a4 a5 a6 a7 : Int) (t : ByteArray) : ByteArray :=
  if a0 = 7 then strOfNums (numsL [a0, a1, a2, a3]) ++ (strOfNums (numsL [a4, a5, a6, a7]) ++ textS t) else strOfNums (numsL [a0, a1, a2, a3])
theorem rok_nums {a0 a1 a2 a3 a4 a5 a6 a7 : Int} {t : ByteArray} (h : ROK a0 a1 a2 a3 a4 a5 a6 a7 t) : (0 ≤ a0 ∧ a0 ≤ 999999) ∧ (0 ≤ a1 ∧ a1 ≤ 999999) ∧ (0 ≤ a2 ∧ a2 ≤ 999999) ∧ (0 ≤ a3 ∧ a3 ≤ 999999) ∧ (a0 = 7 → (0 ≤ a4 ∧ a4 ≤ 999999) ∧ (0 ≤ a5 ∧ a5 ≤ 999999) ∧ (0 ≤ a6 ∧ a6 ≤ 999999) ∧ (0 ≤ a7 ∧ a7 ≤ 999999) ∧ t.size ≤ 20) := by
  refine ⟨?_, ?_, ?_, ?_, fun h7 => ?_⟩
  · unfold ROK at h; omega
  · unfold ROK at h; omega
  · unfold ROK at h; omega
  · unfold ROK at h; omega
  · have hE : EOK a4 a5 a6 a7 t := by
      unfold ROK at h
      rcases h with h | h | h | h | h | h
      · omega
      · omega
      · omega
      · omega
      · exact h.2.2.2.2.2
      · omega
    unfold EOK at hE
    omega
theorem l10Request_eq {a0 a1 a2 a3 a4 a5 a6 a7 : Int} {t : ByteArray} (h : ROK a0 a1 a2 a3 a4 a5 a6 a7 t) : Ev (fun k => spec_l10Request.f k a0 a1 a2 a3 a4 a5 a6 a7 t) (frameS (reqB a0 a1 a2 a3 a4 a5 a6 a7 t)) := by
  obtain ⟨h0, h1, h2, h3, h7⟩ := rok_nums h
  unfold spec_l10Request.f
  refine (l10Numbers_eq (xs := [a0, a1, a2, a3]) (fun x hx => by simp at hx; omega) (by simp)).bind ?_
  have z1 := numsS_size [a0, a1, a2, a3]
  simp only [List.length_cons, List.length_nil] at z1
  unfold reqB
  by_cases c : a0 = 7
  · obtain ⟨h4, h5, h6, h8, h9⟩ := h7 c
    simp only [if_pos c]
    refine (l10Numbers_eq (xs := [a4, a5, a6, a7]) (fun x hx => by simp at hx; omega) (by simp)).bind ?_
    refine (l01PutText_eq (t := t) (by omega)).bind ?_
    have z2 := numsS_size [a4, a5, a6, a7]
    simp only [List.length_cons, List.length_nil] at z2
    have z3 := textS_len t
    have z4 : (strOfNums (numsL [a4, a5, a6, a7]) ++ textS t).size = (strOfNums (numsL [a4, a5, a6, a7])).size + (textS t).size := ByteArray.size_append
    have z5 : (strOfNums (numsL [a0, a1, a2, a3]) ++ (strOfNums (numsL [a4, a5, a6, a7]) ++ textS t)).size = (strOfNums (numsL [a0, a1, a2, a3])).size + (strOfNums (numsL [a4, a5, a6, a7]) ++ textS t).size := ByteArray.size_append
    refine Ev.congr (fun k => (if_pos (by omega)).trans (if_pos (by omega))) ((l01Frame_eq (by omega)).bind (Ev.const rfl))
  · simp only [if_neg c]
    exact (l01Frame_eq (by omega)).bind (Ev.const rfl)
theorem RequestText_eq (a0 a1 a2 a3 a4 a5 a6 a7 : Int) (t : ByteArray) : Ev (fun k => impl_RequestText.f k a0 a1 a2 a3 a4 a5 a6 a7 t) (if ROK a0 a1 a2 a3 a4 a5 a6 a7 t then (frameS (reqB a0 a1 a2 a3 a4 a5 a6 a7 t), 0) else (⟨#[]⟩, 1)) := by
  unfold impl_RequestText.f
  refine (Ev.val 3 (fun k => impl_RequestOK_eq k a0 a1 a2 a3 a4 a5 a6 a7 t)).bind ?_
  by_cases h : ROK a0 a1 a2 a3 a4 a5 a6 a7 t
  · obtain ⟨h0, h1, h2, h3, h7⟩ := rok_nums h
    simp only [decide_eq_true h, if_true, if_pos h]
    refine Ev.congr (fun k => if_pos ⟨by omega, by omega, by omega, by omega⟩) ?_
    unfold reqB
    have z1 := numsS_size [a0, a1, a2, a3]
    simp only [List.length_cons, List.length_nil] at z1
    by_cases c : a0 = 7
    · obtain ⟨h4, h5, h6, h8, h9⟩ := h7 c
      have z2 := numsS_size [a4, a5, a6, a7]
      simp only [List.length_cons, List.length_nil] at z2
      have z3 := textS_len t
      have z4 : (strOfNums (numsL [a4, a5, a6, a7]) ++ textS t).size = (strOfNums (numsL [a4, a5, a6, a7])).size + (textS t).size := ByteArray.size_append
      have z5 : (strOfNums (numsL [a0, a1, a2, a3]) ++ (strOfNums (numsL [a4, a5, a6, a7]) ++ textS t)).size = (strOfNums (numsL [a0, a1, a2, a3])).size + (strOfNums (numsL [a4, a5, a6, a7]) ++ textS t).size := ByteArray.size_append
      simp only [if_pos c, text_eq (t := t) (by omega), Option.bind_some]
      refine Ev.congr (fun k => (if_pos ⟨by omega, by omega, by omega, by omega⟩).trans (if_pos (by omega))) ?_
      rw [strOfNums_app, ByteArray.append_assoc]
      exact (frame_eq (by omega)).bind (Ev.const rfl)
    · simp only [if_neg c]
      exact (frame_eq (by omega)).bind (Ev.const rfl)
  · simp only [decide_eq_false h, if_neg h]
    exact Ev.const rfl
theorem RequestText_eqs (a0 a1 a2 a3 a4 a5 a6 a7 : Int) (t : ByteArray) : Ev (fun k => spec_RequestText.f k a0 a1 a2 a3 a4 a5 a6 a7 t) (if ROK a0 a1 a2 a3 a4 a5 a6 a7 t then (frameS (reqB a0 a1 a2 a3 a4 a5 a6 a7 t), 0) else (⟨#[]⟩, 1)) := by
  unfold spec_RequestText.f
  refine (Ev.val 5 (fun k => spec_RequestOK_eq k a0 a1 a2 a3 a4 a5 a6 a7 t)).bind ?_
  by_cases h : ROK a0 a1 a2 a3 a4 a5 a6 a7 t
  · simp only [decide_eq_true h, if_true, if_pos h]
    exact (l10Request_eq h).bind (Ev.const rfl)
  · simp only [decide_eq_false h, if_neg h]
    exact Ev.const rfl
end Go.Proofs.Ytnppmhijoaeibaa.H
set_option linter.unusedVariables false
set_option linter.unusedSimpArgs false
namespace Go.Proofs.Ytnppmhijoaeibaa.Pure
open Go.RowKit Go.Proofs.Ytnppmhijoaeibaa.Q Go.Proofs.YtnppmhijoaeibaaW.PrintWords Go.Proofs.YtnppmhijoaeibaaW.PrintLast Go.Proofs.Ytnppmhijoaeibaa.H
theorem FnExactRequestText : laws_FnExactRequestText.Pure := by
  intro a0 a1 a2 a3 a4 a5 a6 a7 t w0 w1 w2 w3 w4 w5 w6 w7 w8
  clear w0 w1 w2 w3 w4 w5 w6 w7
  refine Ev.rounds ?_
  unfold laws_FnExactRequestText.f laws_szRequest.f laws_szEdit.f laws_toRequest.f laws_toEdit.f
  have hs : (t.size : Int) ≤ 9223372036854775807 := by
    have : t.size ≤ maxLen := w8
    unfold maxLen at this
    omega
  have hw : wrap64 (1048576 - (t.size : Int)) = 1048576 - t.size := wid (by omega) (by omega)
  rw [hw]
  by_cases h : 1048576 - (t.size : Int) < 0
  · simp only [if_pos h, Option.bind_some]
    exact Ev.const (by simp)
  · simp only [if_neg h, Option.bind_some]
    refine (RequestText_eqs a0 a1 a2 a3 a4 a5 a6 a7 t).bind ?_
    refine (RequestText_eq a0 a1 a2 a3 a4 a5 a6 a7 t).bind ?_
    exact Ev.const (by simp)
end Go.Proofs.Ytnppmhijoaeibaa.Pure
