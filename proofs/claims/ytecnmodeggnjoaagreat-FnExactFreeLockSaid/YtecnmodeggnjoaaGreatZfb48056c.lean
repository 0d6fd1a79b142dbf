/- Several of our texts, one behind the other, without what this claim does not need: Tp. -/
import Derived.Test.YtecnmodeggnjoaaGreatZf1eaa524
import Derived.Test.YtecnmodeggnjoaaGreatZb38f89b9
import Derived.Test.YtecnmodeggnjoaaGreatZe2002630
set_option linter.unusedVariables false
set_option linter.unusedSimpArgs false
set_option maxRecDepth 20000
set_option maxHeartbeats 40000000
namespace Go.Proofs.YtecnmodeggnjoaaGreat.Ac
open Go.RowKit
attribute [local simp] mkI_len mkNs_len mkHos_len
theorem fl_le {d : Dc} {t : Tb} {s n : Int} : (flF d t s n).1.holds.length ≤ 30 ∧ (flF d t s n).1.waits.length ≤ 6 ∧ (flF d t s n).2.1.length ≤ 6 := by
  unfold flF
  by_cases k : tcF d t s = 0
  · rw [if_pos k]
    obtain ⟨k1, _⟩ := tc_iff.1 k
    have h4 := k1.2.2.1
    have h5 := k1.2.1.1
    by_cases k3 : fcF d t s n = 0
    · rw [if_pos k3]
      have h0 := drp_len (s := s) (n := n) (l := t.holds)
      have h1 := set_le (d := d) (setN (dropT t s n) 0 + 1) (dropT t s n) 0 (Nat.lt_succ_self _) (Nat.le_trans h0 h5)
      have h2 := (setK_tabG (d := d) (setN (dropT t s n) 0 + 1) (dropT t s n) 0 (Nat.lt_succ_self _) (drop_tabG s n k1.2.g)).2
      have h3 : (dropT t s n).waits.length = t.waits.length := rfl
      exact ⟨h1, by dsimp only; omega, by dsimp only; omega⟩
    · rw [if_neg k3]; exact ⟨h5, h4, by simp⟩
  · rw [if_neg k]; exact ⟨by simp, by simp, by simp⟩
theorem law_FreeLock (d : Dc) (t : Tb) (s n : Int) (hd : DcIn d) (ht : TbIn t) (h64 : I64 s) (g64 : I64 n) : FC Tryz.prog 5 [(true, dcL d), (true, tbL t), (false, [iL s]), (false, [iL n])] [] [(false, [.f (bL true)])] := by
  have zA := szDoc_ok d (2 ^ 20) (by omega) hd.len hd.txt hd.kid
  refine gr Tryz.func5 Tryz.ntmps5 trivial ?_
  refine ⟨([], _), zA, nx ?_⟩
  refine ⟨fun h => nx ?_, fun h => nx ?_⟩
  exact ⟨[], [], don⟩
  have hA : szD d ≤ 2 ^ 20 ∧ szL (szD d) (2 ^ 20) = 2 ^ 20 - (szD d : Int) := by unfold szL at h ⊢; split at h <;> omega
  rw [hA.2]
  have zB := szTable_ok t (2 ^ 20 - (szD d : Int)) (by omega) ht
  refine ⟨([], _), zB, nx ?_⟩
  refine ⟨fun h => nx ?_, fun h => nx ?_⟩
  exact ⟨[], [], don⟩
  have hB : szTb t ≤ 2 ^ 20 := by unfold szL at h; split at h <;> omega
  have hg := tbG_of hd ht hA.1 hB
  have hk : ∀ n ∈ d.nodes, n.kids.length < 2 ^ 28 := fun n hn => by have := szNs_kids hn; have := hA.1; unfold szD at this; omega
  have tA := toDoc_ok d hg.dl hk
  have tB := toTable_ok t hB
  have sp := fl_spec d t hg s n g64
  have im := fl_impl d t hg s n g64
  have eqd := eqDoc_refl d (by have := hg.dl; omega) (fun n hn => by have := hk n hn; omega)
  have eqt := eqTable_refl t hB
  have hle := fl_le (d := d) (t := t) (s := s) (n := n)
  generalize flU d t s n = U at im
  generalize flV d t s n = V at im
  generalize flF d t s n = r at sp im hle
  obtain ⟨⟨H, W⟩, G, c⟩ := r
  dsimp only at sp im hle
  obtain ⟨hle1, hle2, hle3⟩ := hle
  have hB1 := hB
  unfold szTb at hB1
  have eqr := eqTable_refl ⟨H, W⟩ (by unfold szTb; dsimp only; omega)
  have hL : (G.map (·.session)).length = G.length := List.length_map ..
  generalize G.map (·.session) = L at sp im hL
  rw [← hL] at sp im hle3
  have eql := eqIntS_refl L (by omega)
  have b1 := mkZ_sz d.nodes
  have b2 := mkZHos_sz t.holds
  have b3 := mkZHos_sz t.waits
  have b4 := mkZHos_sz H
  have b5 := mkZHos_sz W
  have hA1 := hA.1
  unfold szD at hA1
  have m1 := markDoc_ok d 1 (by omega)
  have m2 := markTable_ok t (1 + mkZ d.nodes) (by omega)
  have m3 := markTabT_ok ⟨H, W⟩ U V 1 (by dsimp only; omega)
  have m4 := markIntS_ok L (1 + mkZHos H + mkZHos W) (by omega)
  have m5 := heldTable_ok ⟨H, W⟩ 1 (by dsimp only; omega)
  have m6 := heldIntS_ok (1 + mkZHos H + mkZHos W) L.length (by omega)
  dsimp only at m3 m5
  clear b1 b2 b3 b4 b5 hA1 hB1
  refine ⟨(_, _), tA, nx ?_⟩
  refine ⟨(_, _), tB, nx ?_⟩
  refine ⟨⟨true, [], _, _, _, _⟩, sp, cd ?_⟩
  refine ⟨(_, _), tA, nx ?_⟩
  refine ⟨(_, _), tB, nx ?_⟩
  refine ⟨⟨true, [], _, _, _, _⟩, im, cd ?_⟩
  refine ⟨⟨true, [], _, _, _, _⟩, eqr, cd ?_⟩
  refine ⟨⟨true, [], _, _, _, _⟩, eql, cd ?_⟩
  refine ⟨fun h => absurd rfl h, fun h => nx ?_⟩
  refine ⟨(_, _), tA, nx ?_⟩
  refine ⟨⟨true, [], _, _, _, _⟩, eqd, cd ?_⟩
  refine ⟨(_, _), tB, nx ?_⟩
  refine ⟨⟨true, [], _, _, _, _⟩, eqt, cd ?_⟩
  refine ⟨⟨false, [(1, 752)], _, _, _, _⟩, m1, cd ?_⟩
  refine ⟨⟨false, [(1, 784), (2, 785)], _, _, _, _⟩, m2, cd ?_⟩
  refine ⟨fun h => absurd h (by omega), fun h => nx ?_⟩
  refine ⟨⟨true, [], _, _, _, _⟩, eqr, cd ?_⟩
  refine ⟨⟨true, [], _, _, _, _⟩, eql, cd ?_⟩
  refine ⟨fun h => absurd rfl h, fun h => nx ?_⟩
  refine ⟨⟨false, [(1, 880), (2, 881)], _, _, _, _⟩, m3, cd ?_⟩
  refine ⟨⟨false, [(1, 882)], _, _, _, _⟩, m4, cd ?_⟩
  refine ⟨⟨true, [], _, _, _, _⟩, m5, cd ?_⟩
  refine ⟨fun h => absurd h (by omega), fun h => nx ?_⟩
  refine ⟨⟨true, [], _, _, _, _⟩, m6, cd ?_⟩
  refine ⟨fun h => absurd h (by omega), fun h => nx ?_⟩
  refine ⟨fun h => absurd rfl h, fun h => nx ?_⟩
  refine ⟨(_, _), tA, nx ?_⟩
  refine ⟨(_, _), tB, nx ?_⟩
  refine ⟨⟨true, [], _, _, _, _⟩, im, cd ?_⟩
  refine ⟨⟨true, [], _, _, _, _⟩, eqr, cd ?_⟩
  refine ⟨⟨true, [], _, _, _, _⟩, eql, cd ?_⟩
  refine ⟨fun h => absurd rfl h, fun h => nx ?_⟩
  refine ⟨⟨true, [], _, _, _, _⟩, m5, cd ?_⟩
  refine ⟨fun h => absurd h (by omega), fun h => nx ?_⟩
  refine ⟨⟨true, [], _, _, _, _⟩, m6, cd ?_⟩
  refine ⟨fun h => absurd h (by omega), fun h => nx ?_⟩
  refine ⟨fun h => absurd rfl h, fun h => nx ?_⟩
  exact ⟨[], [], don⟩
end Go.Proofs.YtecnmodeggnjoaaGreat.Ac
