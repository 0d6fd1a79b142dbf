/- spec's source of choices: one byte more. -/
import Derived.Test.YtnppmhijoaeibaaPSrcx
import Derived.StillTailTactics
import Derived.Outline
import Derived.IntWalk
import Derived.Deep.QuietTactic
import Derived.BigQuiet
import Derived.Lib.Hide
set_option linter.unusedVariables false
set_option linter.unusedSimpArgs false
namespace Go.Proofs.Ytnppmhijoaeibaa.H
open Go.RowKit Go.Proofs.YtnppmhijoaeibaaW.PrintWords Go.Proofs.Ytnppmhijoaeibaa.Q

theorem int_at {w : World} {A : Option Addr} {n : Nat} {k : IntKind} {xs : List Int} (h : (Kd.int k).C w A n xs) (i : Int) (h0 : 0 ≤ i) (h1 : i < n) : ∃ ad, A = some ad ∧ w.cell? (ad.add i.toNat) = some (.int k (rd xs i)) := by
  obtain ⟨ad, cs, e, hl, hK, hx0⟩ := Kd.C_get h 0 i h0 h1
  have hK' : cs = [.int k (xs.getD i.toNat 0)] := hK
  have := hx0 0 _ (by rw [hK']; rfl)
  refine ⟨ad, e, ?_⟩
  have hs : (Kd.int k).sz = 1 := rfl
  rw [hs, Nat.mul_one, Nat.add_zero] at this
  exact this
/-- The byte that is drawn, the place and the seed then. -/
def spec_l00Src_byte.f (c : List Int) (p s : Int) : Option (Int × Int × Int) :=
  if 0 ≤ p ∧ p ≤ 1099511627776 ∧ 0 ≤ s ∧ s < 2147483648 ∧ 0 ≤ rd c p ∧ rd c p ≤ 255 then
    if p < c.length then some (rd c p, p + 1, (s * 31 + rd c p + 7) % 2147483648)
    else if 3000 ≤ p then some (0, p + 1, s)
    else some ((s * 1103515245 + 12345) % 2147483648 / 65536 % 256, p + 1, (s * 1103515245 + 12345) % 2147483648)
  else none
set_option maxHeartbeats 2000000 in
set_option maxRecDepth 100000 in
theorem spec_l00Src_byte.calls (g : Nat) (s0_0 : List Int) (s0_1 s0_2 : Int) (r1 r2 r3 : Int) (w0 w : World) (hI : IsS95 w0 w g s0_0 s0_1 s0_2) (hB : Below w0.heap.size w0 w) (h : spec_l00Src_byte.f s0_0 s0_1 s0_2 = some (r1, r2, r3)) :
    Calls Try.prog 85 #[.pointer (some ⟨g, 0, none⟩)] w fun e w' => e = .returned (.int .i64 r1) ∧ IsS95 w0 w' g s0_0 r2 r3 ∧ Below w0.heap.size w0 w' ∧ KeepBut w w' g none := by
  unfold spec_l00Src_byte.f at h
  by_cases hc : 0 ≤ s0_1 ∧ s0_1 ≤ 1099511627776 ∧ 0 ≤ s0_2 ∧ s0_2 < 2147483648 ∧ 0 ≤ rd s0_0 s0_1 ∧ rd s0_0 s0_1 ≤ 255
  · rw [if_pos hc] at h
    obtain ⟨p0, p1, q0, q1, b0, b1⟩ := hc
    have HI := Lib.hid hI
    have HB := Lib.hid hB
    obtain ⟨A0, c0, hb, hg, hr0⟩ := hI
    have x0 := cellS95_0 hb
    have x1 := cellS95_1 hb
    have x2 := cellS95_2 hb
    have f0 := blk_frozen hb 0
    have f1 := blk_frozen hb 1
    have f2 := blk_frozen hb 2
    by_cases h1 : s0_1 < s0_0.length
    · rw [if_pos h1] at h
      have h' := Option.some.inj h
      clear h
      simp only [Prod.mk.injEq] at h'
      obtain ⟨rfl, rfl, rfl⟩ := h'
      obtain ⟨ad, e, hx⟩ := int_at hr0 s0_1 p0 h1
      subst e
      have HX := Lib.hid hx
      clear hx
      go_enter Try.func85, Try.ntmps85
      go_wp2
      generalize hW1 : w.setCell { block := g, off := 1 } (Value.int IntKind.i64 (s0_1 + 1)) = W1
      have hb1 : W1.heap[g]? = some (.cells #[.slice (some ad) s0_0.length c0, .int .i64 (s0_1 + 1), .int .i64 s0_2] 95 (0, 0)) := by rw [← hW1]; simpa using blk_set hb 1 (.int .i64 (s0_1 + 1))
      have HB1 := Lib.hid (show Below w0.heap.size w0 W1 by rw [← hW1]; exact HB.out.setCell (p := ⟨g, 1, none⟩) hg _)
      have HK1 := Lib.hid (show KeepBut w W1 g none by rw [← hW1]; exact (KeepBut.refl w g none).set_ 1 _)
      clear hW1 x0 x1 x2 f0 f1 f2
      have x0 := cellS95_0 hb1
      have x1 := cellS95_1 hb1
      have x2 := cellS95_2 hb1
      have f2 := blk_frozen hb1 2
      have hx := pw_cell_below HB1.out HX.out
      have HBK := Lib.hid hb1
      clear hb hb1
      go_quiet (fail)
      go_wp2
      have e1 : (s0_1 + 1 - 1) = s0_1 := by omega
      have e2 : IntKind.i64.wrap s0_1 = s0_1 := IntWalk.i64_in _ (by omega)
      have e3 : IntKind.i64.wrap (s0_2 * 31) = s0_2 * 31 := IntWalk.i64_in _ (by omega)
      have e4 : IntKind.i64.wrap (s0_2 * 31 + rd s0_0 s0_1) = s0_2 * 31 + rd s0_0 s0_1 := IntWalk.i64_in _ (by omega)
      have e5 : IntKind.i64.wrap (s0_2 * 31 + rd s0_0 s0_1 + 7) = s0_2 * 31 + rd s0_0 s0_1 + 7 := IntWalk.i64_in _ (by omega)
      have e6 : IntKind.i64.wrap (rd s0_0 s0_1) = rd s0_0 s0_1 := IntWalk.i64_in _ (by omega)
      have e7 : (s0_2 * 31 + rd s0_0 s0_1 + 7).tmod 2147483648 = (s0_2 * 31 + rd s0_0 s0_1 + 7) % 2147483648 := Int.tmod_eq_emod_of_nonneg (by omega)
      refine wp_region_still_tail 21 (by kernel_rfl) (by kernel_rfl) ?_
      simp only [List.take_succ_cons, List.take_zero, List.drop_succ_cons, List.drop_zero]
      change wpStill _ _ (W1.drewN (nq + 1)) (fun a' => wpList _ _ _ _ a' (W1.drewN (nq + 1))) _ _
      repeat still_step
      refine wpStill_nil ?_
      go_wp2
      generalize hS : (s0_2 * 31 + rd s0_0 s0_1 + 7) % 2147483648 = S at *
      generalize hW2 : (W1.drewN (nq + 1)).setCell { block := g, off := 2 } (Value.int IntKind.i64 S) = W2
      have hb2 : W2.heap[g]? = some (.cells #[.slice (some ad) s0_0.length c0, .int .i64 (s0_1 + 1), .int .i64 S] 95 (0, 0)) := by rw [← hW2]; simpa using blk_set (w := W1.drewN (nq + 1)) HBK.out 2 (.int .i64 S)
      have HB2 := Lib.hid (show Below w0.heap.size w0 W2 by rw [← hW2]; exact (pw_below_drewN HB1.out _).setCell (p := ⟨g, 2, none⟩) hg _)
      have HK2 := Lib.hid (show KeepBut w W2 g none by rw [← hW2]; exact (keep_drewN HK1.out _).set_ 2 _)
      have HS := Lib.hid hS
      clear hW2 x0 x1 x2 f2 hx e3 e4 e5 e7 hS
      have x0 := cellS95_0 hb2
      have x1 := cellS95_1 hb2
      have hx := pw_cell_below HB2.out HX.out
      have HBK2 := Lib.hid hb2
      clear hb2
      go_quiet (fail)
      go_wp2
      go_ret
      rw [HS.out]
      exact ⟨by first | rfl | simp [e6], ⟨_, _, HBK2.out, hg, hr0⟩, pw_below_drewN HB2.out _, keep_drewN HK2.out _⟩
    · rw [if_neg h1] at h
      have d1 : decide (s0_1 + 1 ≤ (s0_0.length : Int)) = false := by simp; omega
      go_enter Try.func85, Try.ntmps85
      go_wp2
      generalize hW1 : w.setCell { block := g, off := 1 } (Value.int IntKind.i64 (s0_1 + 1)) = W1
      have hb1 : W1.heap[g]? = some (.cells #[.slice A0 s0_0.length c0, .int .i64 (s0_1 + 1), .int .i64 s0_2] 95 (0, 0)) := by rw [← hW1]; simpa using blk_set hb 1 (.int .i64 (s0_1 + 1))
      have HB1 := Lib.hid (show Below w0.heap.size w0 W1 by rw [← hW1]; exact HB.out.setCell (p := ⟨g, 1, none⟩) hg _)
      have HK1 := Lib.hid (show KeepBut w W1 g none by rw [← hW1]; exact (KeepBut.refl w g none).set_ 1 _)
      clear hW1 x0 x1 x2 f0 f1 f2
      have x0 := cellS95_0 hb1
      have x1 := cellS95_1 hb1
      have x2 := cellS95_2 hb1
      have f2 := blk_frozen hb1 2
      have HBK := Lib.hid hb1
      clear hb hb1
      go_quiet (fail)
      by_cases h3 : 3000 ≤ s0_1
      · rw [if_pos h3] at h
        have h' := Option.some.inj h
        clear h
        simp only [Prod.mk.injEq] at h'
        obtain ⟨rfl, rfl, rfl⟩ := h'
        have d2 : decide (3000 < s0_1 + 1) = true := by simp; omega
        go_wp2
        go_ret
        exact ⟨rfl, ⟨_, _, HBK.out, hg, hr0⟩, pw_below_drewN HB1.out _, keep_drewN HK1.out _⟩
      · rw [if_neg h3] at h
        have h' := Option.some.inj h
        clear h
        simp only [Prod.mk.injEq] at h'
        obtain ⟨rfl, rfl, rfl⟩ := h'
        have d2 : decide (3000 < s0_1 + 1) = false := by simp; omega
        go_wp2
        go_ret
        refine ⟨rfl, ⟨A0, c0, ?_, hg, hr0⟩, (pw_below_drewN HB1.out _).setCell (p := ⟨g, 2, none⟩) hg _, (keep_drewN HK1.out _).set_ 2 _⟩
        simpa using blk_set (w := W1.drewN nq) HBK.out 2 (.int .i64 ((s0_2 * 1103515245 + 12345) % 2147483648))
  · rw [if_neg hc] at h; cases h
end Go.Proofs.Ytnppmhijoaeibaa.H
