/- Several of our texts, one behind the other, without what this claim does not need: Ty, Tz, Op, OpD. -/
import Derived.Test.YtecnmodeggnjoaaGreatZ820b34b4
import Derived.Test.YtecnmodeggnjoaaGreatZ44cf3dfe
import Derived.Test.YtecnmodeggnjoaaGreatZe2002630
import Derived.Test.YtecnmodeggnjoaaGreatZ855f7bb1
import Derived.ChangeArms
import Derived.Deep.Slices
set_option linter.unusedVariables false
set_option linter.unusedSimpArgs false
set_option maxRecDepth 20000
set_option maxHeartbeats 20000000
namespace Go.Proofs.YtecnmodeggnjoaaGreat.Ac
open Go.RowKit
noncomputable def alF (d : Dc) (t : Tb) (y : Ho) : Tb × List Ho × List Int × Int := if tcF d t y.session = 0 then akF d t y else (⟨[], []⟩, [], [], tcF d t y.session)
noncomputable def alU (d : Dc) (t : Tb) (y : Ho) : List Ho := if tcF d t y.session = 0 then akU d t y else []
noncomputable def alV (d : Dc) (t : Tb) (y : Ho) : List Ho := if tcF d t y.session = 0 then akV d t y else []
theorem ak_len {d : Dc} {t : Tb} (ht : TabP d t) {y : Ho} : (akF d t y).1.holds.length ≤ 30 ∧ (akF d t y).1.waits.length ≤ 7 ∧ (akF d t y).2.1.length ≤ 7 ∧ (akF d t y).2.2.1.length ≤ 7 := by
  have h1 := ht.1.1
  have h2 := ht.2.1
  unfold akF
  split
  · split
    · split
      · unfold lkF
        split
        · exact ⟨h1, by dsimp only; omega, by simp, by simp⟩
        · split
          · exact ⟨h1, by dsimp only; omega, by simp, by simp⟩
          · have a1 := vic_inv (d := d) (s := y.session) (P := fun t : Tb => t.holds.length ≤ 30) (fun t x h => Nat.le_trans wit_len h) ((askT t y).waits.length + 1) (askT t y) h1
            have a2 := vic_len (d := d) (s := y.session) ((askT t y).waits.length + 1) (askT t y) [] (Nat.lt_succ_self _)
            have a3 : (askT t y).waits.length = t.waits.length + 1 := by show (t.waits ++ [y]).length = _; simp
            have a4 := set_le (d := d) (setN (vcT d t y) 0 + 1) (vcT d t y) 0 (Nat.lt_succ_self _) a1
            have a5 := (set_perm (d := d) (setN (vcT d t y) 0 + 1) (vcT d t y) 0 (Nat.lt_succ_self _)).length_eq
            rw [List.length_append] at a5
            have a6 : (vcV d t y).length + (vcT d t y).waits.length ≤ 0 + (askT t y).waits.length := a2
            exact ⟨a4, by dsimp only; omega, by dsimp only; omega, by dsimp only; omega⟩
      · exact ⟨h1, by dsimp only; omega, by simp, by simp⟩
    · exact ⟨h1, by dsimp only; omega, by simp, by simp⟩
  · exact ⟨h1, by dsimp only; omega, by simp, by simp⟩
theorem al_impl (d : Dc) (t : Tb) (hg : TbG d t) (y : Ho) (h64 : I64 y.node) : FC Tryz.prog 35 [(true, dcL d), (true, tbL t), (true, hoL y)] [(1000, some ⟨0, 3, ((alF d t y).1.holds ++ alU d t y).map hoW⟩), (1001, some ⟨0, 3, ((alF d t y).1.waits ++ alV d t y).map hoW⟩), (1002, some ⟨0, 1, ((alF d t y).2.1.map (·.session)).map intW⟩), (1003, some ⟨0, 1, (alF d t y).2.2.1.map intW⟩)]
    [(true, [.row 1000 0 (alF d t y).1.holds.length, .row 1001 0 (alF d t y).1.waits.length]), (false, [.row 1002 0 (alF d t y).2.1.length]), (false, [.row 1003 0 (alF d t y).2.2.1.length]), (false, [.f (iL (alF d t y).2.2.2)])] := by
  have ho := tableCode_ok d t hg y.session
  unfold alF alU alV
  by_cases k : tcF d t y.session = 0
  case neg =>
    rw [if_neg k, if_neg k, if_neg k]
    dsimp only
    refine gr Tryz.func35 Tryz.ntmps35 (⟨trivial, trivial, trivial, trivial, trivial⟩) ?_
    refine ⟨([], _), ho, nx ?_⟩
    refine ⟨fun h => nx ?_, fun h => absurd h (fun w => w k)⟩
    exact ⟨[], [(1000, 7), (1001, 8), (1002, 9), (1003, 10)], don⟩
  obtain ⟨k1, k2⟩ := tc_iff.1 k
  have hl := (ak_len (d := d) k1.2 (y := y)).2.2.1
  have ha := ask_ok d k1.1 t k1.2 y h64
  rw [if_pos k, if_pos k, if_pos k]
  rw [k] at ho
  refine gr Tryz.func35 Tryz.ntmps35 (⟨cl_hos _, cl_hos _, cl_ints _, cl_ints _, trivial⟩) ?_
  refine ⟨([], _), ho, nx ?_⟩
  refine ⟨fun h => absurd rfl h, fun h => nx ?_⟩
  refine ⟨(_, _), tabCopied_ok t (by have := hg.hl; omega) (by have := hg.wl; omega), nx ?_⟩
  refine ⟨⟨false, [(1, 192), (2, 416), (3, 417), (4, 64)], _, _, _, _⟩, ha, cd ?_⟩
  refine ⟨⟨true, [], _, _, _, _⟩, sessionList_ok (akF d t y).2.1 (by omega), cd ?_⟩
  exact ⟨[], [(1000, 464), (1001, 465), (1002, 560), (1003, 467)], don⟩
theorem al_spec (d : Dc) (t : Tb) (hg : TbG d t) (y : Ho) (h64 : I64 y.node) : FC Tryz.prog 33 [(true, dcL d), (true, tbL t), (true, hoL y)] [(1000, some ⟨0, 3, (alF d t y).1.holds.map hoW⟩), (1001, some ⟨0, 3, (alF d t y).1.waits.map hoW⟩), (1002, some ⟨0, 1, ((alF d t y).2.1.map (·.session)).map intW⟩), (1003, some ⟨0, 1, (alF d t y).2.2.1.map intW⟩)]
    [(true, [.row 1000 0 (alF d t y).1.holds.length, .row 1001 0 (alF d t y).1.waits.length]), (false, [.row 1002 0 (alF d t y).2.1.length]), (false, [.row 1003 0 (alF d t y).2.2.1.length]), (false, [.f (iL (alF d t y).2.2.2)])] := by
  have ho := l08Ask_ok d t hg y.session
  have hat := l02At_ok d y.node (by have := hg.dl; omega)
  have hai := at_iff y.node d.nodes 0
  have hl1 := hg.hl
  have hl2 := hg.wl
  unfold alF
  by_cases k : tcF d t y.session = 0
  case neg =>
    rw [if_neg k]
    dsimp only
    refine gr Tryz.func33 Tryz.ntmps33 (⟨trivial, trivial, trivial, trivial, trivial⟩) ?_
    refine ⟨([], _), ho, nx ?_⟩
    refine ⟨fun h => nx ?_, fun h => absurd h (fun w => w k)⟩
    exact ⟨[], [(1000, 7), (1001, 8), (1002, 384), (1003, 400)], don⟩
  obtain ⟨p1, p2⟩ := tc_iff.1 k
  have hal := ak_len (d := d) p1.2 (y := y)
  rw [if_pos k]
  rw [k] at ho
  by_cases k1 : (ndAt d.nodes y.node).isSome
  case neg =>
    have hn : atFrom y.node 0 d.nodes < 0 := Int.not_le.1 fun w => k1 (hai.1 w)
    have e1 : akF d t y = (t, [], [], 5) := by unfold akF; rw [if_neg k1]
    rw [e1]
    dsimp only
    refine gr Tryz.func33 Tryz.ntmps33 (⟨cl_hos _, cl_hos _, trivial, trivial, trivial⟩) ?_
    refine ⟨([], _), ho, nx ?_⟩
    refine ⟨fun h => absurd rfl h, fun h => nx ?_⟩
    refine ⟨([], _), hat, nx ?_⟩
    refine ⟨fun h => nx ?_, fun h => absurd h (fun w => w hn)⟩
    refine ⟨(_, _), l08Own_ok t (by omega) (by omega), nx ?_⟩
    exact ⟨[], [(1000, 528), (1001, 529), (1002, 544), (1003, 560)], don⟩
  have hn : ¬ atFrom y.node 0 d.nodes < 0 := Int.not_lt.2 (hai.2 k1)
  by_cases k2 : 1 ≤ y.mode ∧ y.mode ≤ 5
  case neg =>
    have e1 : akF d t y = (t, [], [], 19) := by unfold akF; rw [if_pos k1, if_neg k2]
    rw [e1]
    dsimp only
    refine gr Tryz.func33 Tryz.ntmps33 (⟨cl_hos _, cl_hos _, trivial, trivial, trivial⟩) ?_
    refine ⟨([], _), ho, nx ?_⟩
    refine ⟨fun h => absurd rfl h, fun h => nx ?_⟩
    refine ⟨([], _), hat, nx ?_⟩
    refine ⟨fun h => absurd h (hn), fun h => nx ?_⟩
    refine ⟨([], _), (l07Mode_ok y.mode).n k2, nx ?_⟩
    refine ⟨(_, _), l08Own_ok t (by omega) (by omega), nx ?_⟩
    exact ⟨[], [(1000, 656), (1001, 657), (1002, 672), (1003, 688)], don⟩
  have hw := l08At_ok t y.session (by omega)
  by_cases k3 : waitF t y.session < 0
  case neg =>
    have e1 : akF d t y = (t, [], [], 17) := by unfold akF; rw [if_pos k1, if_pos k2, if_neg k3]
    rw [e1]
    dsimp only
    refine gr Tryz.func33 Tryz.ntmps33 (⟨cl_hos _, cl_hos _, trivial, trivial, trivial⟩) ?_
    refine ⟨([], _), ho, nx ?_⟩
    refine ⟨fun h => absurd rfl h, fun h => nx ?_⟩
    refine ⟨([], _), hat, nx ?_⟩
    refine ⟨fun h => absurd h (hn), fun h => nx ?_⟩
    refine ⟨([], _), (l07Mode_ok y.mode).t k2, nx ?_⟩
    refine ⟨([], _), hw, nx ?_⟩
    refine ⟨fun h => nx ?_, fun h => absurd h (by omega)⟩
    refine ⟨(_, _), l08Own_ok t (by omega) (by omega), nx ?_⟩
    exact ⟨[], [(1000, 800), (1001, 801), (1002, 816), (1003, 832)], don⟩
  have e0 : akF d t y = lkF d t y := by unfold akF; rw [if_pos k1, if_pos k2, if_pos k3]
  have hlk := l08Lock_ok d p1.1 t p1.2 y k1 k2 k3
  rw [← e0] at hlk
  refine gr Tryz.func33 Tryz.ntmps33 (⟨cl_hos _, cl_hos _, cl_ints _, cl_ints _, trivial⟩) ?_
  refine ⟨([], _), ho, nx ?_⟩
  refine ⟨fun h => absurd rfl h, fun h => nx ?_⟩
  refine ⟨([], _), hat, nx ?_⟩
  refine ⟨fun h => absurd h (hn), fun h => nx ?_⟩
  refine ⟨([], _), (l07Mode_ok y.mode).t k2, nx ?_⟩
  refine ⟨([], _), hw, nx ?_⟩
  refine ⟨fun h => absurd h (by omega), fun h => nx ?_⟩
  refine ⟨(_, _), hlk, nx ?_⟩
  refine ⟨(_, _), l08Own_ok (akF d t y).1 (by omega) (by omega), nx ?_⟩
  exact ⟨[], [(1000, 1008), (1001, 1009), (1002, 912), (1003, 913)], don⟩
end Go.Proofs.YtecnmodeggnjoaaGreat.Ac
set_option linter.unusedVariables false
set_option linter.unusedSimpArgs false
set_option maxRecDepth 20000
set_option maxHeartbeats 40000000
namespace Go.Proofs.YtecnmodeggnjoaaGreat.Ac
open Go.RowKit
attribute [local simp] mkI_len mkNs_len mkHos_len
theorem al_le {d : Dc} {t : Tb} {y : Ho} : (alF d t y).1.holds.length ≤ 30 ∧ (alF d t y).1.waits.length ≤ 7 ∧ (alF d t y).2.1.length ≤ 7 ∧ (alF d t y).2.2.1.length ≤ 7 := by
  unfold alF
  by_cases k : tcF d t y.session = 0
  · rw [if_pos k]; exact ak_len (tc_iff.1 k).1.2
  · rw [if_neg k]; exact ⟨by simp, by simp, by simp, by simp⟩
theorem law_AskLock (d : Dc) (t : Tb) (y : Ho) (hd : DcIn d) (ht : TbIn t) (hy : HoIn y) : FC Tryz.prog 6 [(true, dcL d), (true, tbL t), (true, hoL y)] [] [(false, [.f (bL true)])] := by
  have zA := szDoc_ok d (2 ^ 20) (by omega) hd.len hd.txt hd.kid
  refine gr Tryz.func6 Tryz.ntmps6 trivial ?_
  refine ⟨([], _), zA, nx ?_⟩
  refine ⟨fun h => nx ?_, fun h => nx ?_⟩
  exact ⟨[], [], don⟩
  have hA : szD d ≤ 2 ^ 20 ∧ szL (szD d) (2 ^ 20) = 2 ^ 20 - (szD d : Int) := by unfold szL at h ⊢; split at h <;> omega
  rw [hA.2]
  have zB := szTable_ok t (2 ^ 20 - (szD d : Int)) (by omega) ht
  refine ⟨([], _), zB, nx ?_⟩
  refine ⟨fun h => nx ?_, fun h => nx ?_⟩
  exact ⟨[], [], don⟩
  have hB : szTb t ≤ 2 ^ 20 := by unfold szL at h; split at h <;> omega
  have hg := tbG_of hd ht hA.1 hB
  have hk : ∀ n ∈ d.nodes, n.kids.length < 2 ^ 28 := fun n hn => by have := szNs_kids hn; have := hA.1; unfold szD at this; omega
  have tA := toDoc_ok d hg.dl hk
  have tB := toTable_ok t hB
  have tC := toHold_ok y trivial
  have sp := al_spec d t hg y hy.2.1
  have im := al_impl d t hg y hy.2.1
  have eqd := eqDoc_refl d (by have := hg.dl; omega) (fun n hn => by have := hk n hn; omega)
  have eqt := eqTable_refl t hB
  have hle := al_le (d := d) (t := t) (y := y)
  generalize alU d t y = U at im
  generalize alV d t y = V at im
  generalize alF d t y = r at sp im hle
  obtain ⟨⟨H, W⟩, G, K, c⟩ := r
  dsimp only at sp im hle
  obtain ⟨hle1, hle2, hle3, hle4⟩ := hle
  have hB1 := hB
  unfold szTb at hB1
  have eqr := eqTable_refl ⟨H, W⟩ (by unfold szTb; dsimp only; omega)
  have hL : (G.map (·.session)).length = G.length := List.length_map ..
  generalize G.map (·.session) = L at sp im hL
  rw [← hL] at sp im hle3
  have eql := eqIntS_refl L (by omega)
  have eqk := eqIntS_refl K (by omega)
  have b1 := mkZ_sz d.nodes
  have b2 := mkZHos_sz t.holds
  have b3 := mkZHos_sz t.waits
  have b4 := mkZHos_sz H
  have b5 := mkZHos_sz W
  have hA1 := hA.1
  unfold szD at hA1
  have m1 := markDoc_ok d 1 (by omega)
  have m2 := markTable_ok t (1 + mkZ d.nodes) (by omega)
  have m3 := markTabT_ok ⟨H, W⟩ U V 1 (by dsimp only; omega)
  have m4 := markIntS_ok L (1 + mkZHos H + mkZHos W) (by omega)
  have m7 := markIntS_ok K (1 + mkZHos H + mkZHos W + L.length) (by omega)
  have m5 := heldTable_ok ⟨H, W⟩ 1 (by dsimp only; omega)
  have m6 := heldIntS_ok (1 + mkZHos H + mkZHos W) L.length (by omega)
  have m8 := heldIntS_ok (1 + mkZHos H + mkZHos W + L.length) K.length (by omega)
  dsimp only at m3 m5
  clear b1 b2 b3 b4 b5 hA1 hB1
  refine ⟨(_, _), tA, nx ?_⟩
  refine ⟨(_, _), tB, nx ?_⟩
  refine ⟨([], _), tC, nx ?_⟩
  refine ⟨⟨true, [], _, _, _, _⟩, sp, cd ?_⟩
  refine ⟨(_, _), tA, nx ?_⟩
  refine ⟨(_, _), tB, nx ?_⟩
  refine ⟨([], _), tC, nx ?_⟩
  refine ⟨⟨true, [], _, _, _, _⟩, im, cd ?_⟩
  refine ⟨⟨true, [], _, _, _, _⟩, eqr, cd ?_⟩
  refine ⟨⟨true, [], _, _, _, _⟩, eql, cd ?_⟩
  refine ⟨⟨true, [], _, _, _, _⟩, eqk, cd ?_⟩
  refine ⟨fun h => absurd rfl h, fun h => nx ?_⟩
  refine ⟨(_, _), tA, nx ?_⟩
  refine ⟨⟨true, [], _, _, _, _⟩, eqd, cd ?_⟩
  refine ⟨(_, _), tB, nx ?_⟩
  refine ⟨⟨true, [], _, _, _, _⟩, eqt, cd ?_⟩
  refine ⟨⟨false, [(1, 784)], _, _, _, _⟩, m1, cd ?_⟩
  refine ⟨⟨false, [(1, 816), (2, 817)], _, _, _, _⟩, m2, cd ?_⟩
  refine ⟨fun h => absurd h (by omega), fun h => nx ?_⟩
  refine ⟨⟨true, [], _, _, _, _⟩, eqr, cd ?_⟩
  refine ⟨⟨true, [], _, _, _, _⟩, eql, cd ?_⟩
  refine ⟨⟨true, [], _, _, _, _⟩, eqk, cd ?_⟩
  refine ⟨fun h => absurd rfl h, fun h => nx ?_⟩
  refine ⟨⟨false, [(1, 912), (2, 913)], _, _, _, _⟩, m3, cd ?_⟩
  refine ⟨⟨false, [(1, 914)], _, _, _, _⟩, m4, cd ?_⟩
  refine ⟨⟨false, [(1, 915)], _, _, _, _⟩, m7, cd ?_⟩
  refine ⟨⟨true, [], _, _, _, _⟩, m5, cd ?_⟩
  refine ⟨fun h => absurd h (by omega), fun h => nx ?_⟩
  refine ⟨⟨true, [], _, _, _, _⟩, m6, cd ?_⟩
  refine ⟨fun h => absurd h (by omega), fun h => nx ?_⟩
  refine ⟨⟨true, [], _, _, _, _⟩, m8, cd ?_⟩
  refine ⟨fun h => absurd h (by omega), fun h => nx ?_⟩
  refine ⟨fun h => absurd rfl h, fun h => nx ?_⟩
  refine ⟨(_, _), tA, nx ?_⟩
  refine ⟨(_, _), tB, nx ?_⟩
  refine ⟨([], _), tC, nx ?_⟩
  refine ⟨⟨true, [], _, _, _, _⟩, im, cd ?_⟩
  refine ⟨⟨true, [], _, _, _, _⟩, eqr, cd ?_⟩
  refine ⟨⟨true, [], _, _, _, _⟩, eql, cd ?_⟩
  refine ⟨⟨true, [], _, _, _, _⟩, eqk, cd ?_⟩
  refine ⟨fun h => absurd rfl h, fun h => nx ?_⟩
  refine ⟨⟨true, [], _, _, _, _⟩, m5, cd ?_⟩
  refine ⟨fun h => absurd h (by omega), fun h => nx ?_⟩
  refine ⟨⟨true, [], _, _, _, _⟩, m6, cd ?_⟩
  refine ⟨fun h => absurd h (by omega), fun h => nx ?_⟩
  refine ⟨⟨true, [], _, _, _, _⟩, m8, cd ?_⟩
  refine ⟨fun h => absurd h (by omega), fun h => nx ?_⟩
  refine ⟨fun h => absurd rfl h, fun h => nx ?_⟩
  exact ⟨[], [], don⟩
end Go.Proofs.YtecnmodeggnjoaaGreat.Ac
set_option linter.unusedVariables false
set_option linter.unusedSimpArgs false
namespace Go.Proofs.YtecnmodeggnjoaaGreat.Ac
open Go.RowKit
def OpL (P : Program) (t : TypeId) (good : List L → Prop) : Prop := ∀ {H : Type} (enc : TypeId × Value → H) (w : World) (fuel : Nat) (cs : List Value) (x : DataW H × List MemPlace), DataW.trod enc P w 0 (fun _ => true) true fuel t cs = some x →
  ∃ ls : List L, ls.length = cs.length ∧ good ls ∧ ∀ (j : Nat) y, ls[j]? = some y → ∃ u, cs[j]? = some u ∧ RepL w.heap (fun _ => False) y u
theorem op_int {P : Program} {t : TypeId} {k : IntKind} (ht : P.underlying t = some (.int k)) : OpL P t fun ls => ∃ n, ls = [.v (.int k n)] ∧ (Lit.int k n).wf = true := by
  intro H enc w fuel cs x h
  obtain ⟨n, rfl, _, hw⟩ := DataW.trod_int ht h
  refine ⟨_, rfl, ⟨n, rfl, hw⟩, fun j y hy => ?_⟩
  cases j with
  | zero => cases hy; exact ⟨_, rfl, .v _ rfl⟩
  | succ j => simp at hy
theorem op_str {P : Program} {t : TypeId} (ht : P.underlying t = some .string) : OpL P t fun ls => ∃ s : ByteArray, ls = [sL s] ∧ s.size ≤ maxLen := by
  intro H enc w fuel cs x h
  obtain ⟨s, rfl, _, hs⟩ := DataW.trod_string ht h
  refine ⟨_, rfl, ⟨s, rfl, hs⟩, fun j y hy => ?_⟩
  cases j with
  | zero => cases hy; exact ⟨_, rfl, .v _ rfl⟩
  | succ j => simp at hy
theorem list_of {α : Type} : ∀ (n : Nat) (p : Nat → α → Prop), (∀ i, i < n → ∃ a, p i a) → ∃ l : List α, l.length = n ∧ ∀ i a, l[i]? = some a → p i a
  | 0, p, _ => ⟨[], rfl, fun i a h => by simp at h⟩
  | n + 1, p, h => by
    obtain ⟨a, ha⟩ := h 0 (Nat.succ_pos _)
    obtain ⟨l, hl, hp⟩ := list_of n (fun i => p (i + 1)) fun i hi => h (i + 1) (Nat.succ_lt_succ hi)
    refine ⟨a :: l, by simp [hl], fun i b hb => ?_⟩
    cases i with
    | zero => cases hb; exact ha
    | succ i => exact hp i b hb
theorem map_of {α β : Type} {f : α → β} {p : α → Prop} : ∀ (l : List β), (∀ x ∈ l, ∃ a, x = f a ∧ p a) → ∃ l' : List α, l = l'.map f ∧ ∀ a ∈ l', p a
  | [], _ => ⟨[], rfl, fun _ h => by cases h⟩
  | x :: l, h => by
    obtain ⟨a, rfl, ha⟩ := h x List.mem_cons_self
    obtain ⟨l', rfl, hl⟩ := map_of l fun y hy => h y (List.mem_cons_of_mem _ hy)
    exact ⟨a :: l', rfl, fun b hb => by
      rcases List.mem_cons.1 hb with rfl | hb
      · exact ha
      · exact hl b hb⟩
theorem op_slice {P : Program} {t e : TypeId} {wd : Nat} {good : List L → Prop} (ht : P.underlying t = some (.slice e)) (hs : P.cellsOf e = wd) (hw : 0 < wd) (he : OpL P e good) :
    OpL P t fun ls => ∃ es : List (List L), ls = [.sl wd es] ∧ es.length ≤ maxLen ∧ ∀ x ∈ es, good x := by
  intro H enc w fuel cs x h
  rcases Go.Deep.open_slice ht h with ⟨rfl, _⟩ | ⟨a, len, cap, m, n, D, Pl, rfl, _, hl, hm, hmm, _, hel⟩
  · refine ⟨_, rfl, ⟨[], rfl, Nat.zero_le _, fun _ h => by cases h⟩, fun j y hy => ?_⟩
    cases j with
    | zero => cases hy; exact ⟨_, rfl, .nil wd none 0⟩
    | succ j => simp at hy
  · have hmlen : len ≤ m := by rw [hmm]; simp; exact hl
    obtain ⟨es, hes, hp⟩ := list_of len (fun i (l : List L) => l.length = wd ∧ good l ∧ ∀ (j : Nat) y, l[j]? = some y → ∃ u, w.cell? ((a.add (i * wd)).add j) = some u ∧ RepL w.heap (fun _ => False) y u) fun i hi => by
      obtain ⟨cs', h1, h2⟩ := hel i (by omega)
      obtain ⟨l, hl1, hg, hr⟩ := he enc w _ _ _ h2
      obtain ⟨_, g3, g4⟩ := World.cells?_some h1
      rw [hs] at g3 g4
      refine ⟨l, hl1.trans g3, hg, fun j y hy => ?_⟩
      obtain ⟨u, hu, hru⟩ := hr j y hy
      have hj : j < wd := by rw [← g3]; exact (List.getElem?_eq_some_iff.1 hu).1
      exact ⟨u, (g4 j hj).trans hu, hru⟩
    have hgood : ∀ x ∈ es, good x := fun x hx => by
      obtain ⟨i, hi⟩ := List.getElem?_of_mem hx
      exact (hp i x hi).2.1
    refine ⟨_, rfl, ⟨es, rfl, by rw [hes]; exact Nat.le_trans hl hm, hgood⟩, fun j y hy => ?_⟩
    cases j with
    | succ j => simp at hy
    | zero =>
      cases hy
      refine ⟨_, rfl, ?_⟩
      cases len with
      | zero =>
        obtain rfl := List.eq_nil_of_length_eq_zero hes
        exact .nil wd (some a) cap
      | succ k =>
        have cellAt : ∀ (i : Nat) e (j : Nat) y, es[i]? = some e → e[j]? = some y → ∃ u, w.cell? ((a.add (i * wd)).add j) = some u ∧ RepL w.heap (fun _ => False) y u := fun i e j y hi hj => (hp i e hi).2.2 j y hj
        have lenAt : ∀ e ∈ es, e.length = wd := fun e he => by
          obtain ⟨i, hi⟩ := List.getElem?_of_mem he
          exact (hp i e hi).1
        have l0 : k < es.length := by omega
        have e1 := lenAt es[k] (List.getElem_mem _)
        have e0 := lenAt es[0] (List.getElem_mem _)
        obtain ⟨u1, c1, _⟩ := cellAt 0 es[0] 0 _ (List.getElem?_eq_getElem (by omega)) (List.getElem?_eq_getElem (by omega))
        obtain ⟨u0, c0, _⟩ := cellAt k es[k] (wd - 1) _ (List.getElem?_eq_getElem l0) (List.getElem?_eq_getElem (by omega))
        have hsp := World.cell?_spot c1
        obtain ⟨b, off, spot⟩ := a
        have hsp0 : spot = none := by simpa [Addr.add] using hsp
        subst hsp0
        have add0 : ∀ o i, Addr.add ⟨b, o, none⟩ i = ⟨b, o + i, none⟩ := fun o i => by
          unfold Addr.add
          split
          · rename_i h; subst h; rfl
          · rfl
        simp only [add0] at c0 cellAt
        unfold World.cell? at c0
        split at c0
        · rename_i c ty fr hb
          simp only [Option.isSome_none, Bool.false_eq_true, if_false] at c0
          have hsz : off + k * wd + (wd - 1) < c.size := (Array.getElem?_eq_some_iff.1 c0).1
          have hk1 : (k + 1) * wd = k * wd + wd := Nat.succ_mul k wd
          have := RepL.sl (h := w.heap) (O := fun _ => False) wd es b off cap c ty fr hw (by intro h; rw [h] at l0; simp at l0) hb (fun h => h) lenAt (by rw [hes]; omega) (by rw [hes]; exact hl) fun i e j y hi hj => by
            obtain ⟨u, hu, hru⟩ := cellAt i e j y hi hj
            simp only [World.cell?] at hu
            rw [hb] at hu
            simp only [Option.isSome_none, Bool.false_eq_true, if_false] at hu
            rw [Array.getD_eq_getD_getElem?, hu]; exact hru
          rw [hes] at this
          exact this
        · cases c0
def Gs : List (List L → Prop) → List L → Prop
  | [], ls => ls = []
  | g :: gs, ls => ∃ x rest, g x ∧ ls = x ++ rest ∧ Gs gs rest
def laidAt (P : Program) : Nat → List Field → Prop
  | _, [] => True
  | o, f :: fs => f.offset = o ∧ laidAt P (o + P.cellsOf f.type) fs
def szAll (P : Program) : List Field → Nat
  | [] => 0
  | f :: fs => P.cellsOf f.type + szAll P fs
def OpLs (P : Program) : List Field → List (List L → Prop) → Prop
  | [], [] => True
  | f :: fs, g :: gs => OpL P f.type g ∧ OpLs P fs gs
  | _, _ => False
theorem op_fields {P : Program} {H : Type} (enc : TypeId × Value → H) (w : World) (n : Nat) (cs : List Value) : ∀ (fs : List Field) (gs : List (List L → Prop)) (o : Nat), OpLs P fs gs → laidAt P o fs → cs.length = o + szAll P fs →
    (∀ f ∈ fs, ∃ x, DataW.trod enc P w 0 (fun _ => true) true n f.type ((cs.drop f.offset).take (P.cellsOf f.type)) = some x) →
    ∃ ls : List L, ls.length = szAll P fs ∧ Gs gs ls ∧ ∀ (j : Nat) y, ls[j]? = some y → ∃ u, cs[o + j]? = some u ∧ RepL w.heap (fun _ => False) y u
  | [], [], o, _, _, hl, _ => ⟨[], rfl, rfl, fun j y hy => by simp at hy⟩
  | [], _ :: _, _, h, _, _, _ => h.elim
  | _ :: _, [], _, h, _, _, _ => h.elim
  | f :: fs, g :: gs, o, ho, hla, hl, hx => by
    obtain ⟨x, hx0⟩ := hx f List.mem_cons_self
    simp only [szAll] at hl
    rw [hla.1] at hx0
    obtain ⟨l1, k1, g1, r1⟩ := ho.1 enc w n _ _ hx0
    obtain ⟨l2, k2, g2, r2⟩ := op_fields enc w n cs fs gs (o + P.cellsOf f.type) ho.2 hla.2 (by omega) fun f' hf => hx f' (List.mem_cons_of_mem _ hf)
    have k3 : l1.length = P.cellsOf f.type := by rw [k1]; simp; omega
    refine ⟨l1 ++ l2, by simp [szAll, k3, k2], ⟨l1, l2, g1, rfl, g2⟩, fun j y hy => ?_⟩
    by_cases hj : j < l1.length
    · rw [List.getElem?_append_left hj] at hy
      obtain ⟨u, hu, hr⟩ := r1 j y hy
      rw [List.getElem?_take_of_lt (by omega), List.getElem?_drop] at hu
      exact ⟨u, hu, hr⟩
    · rw [List.getElem?_append_right (by omega)] at hy
      obtain ⟨u, hu, hr⟩ := r2 _ y hy
      rw [show o + P.cellsOf f.type + (j - l1.length) = o + j by omega] at hu
      exact ⟨u, hu, hr⟩
theorem op_struct {P : Program} {t : TypeId} {fs : Array Field} {gs : List (List L → Prop)} (ht : P.underlying t = some (.struct fs)) (hla : laidAt P 0 fs.toList) (hsz : P.cellsOf t = szAll P fs.toList) (h : OpLs P fs.toList gs) : OpL P t (Gs gs) := by
  intro H enc w fuel cs x h0
  obtain ⟨xs, n, _, _, hl, hx, hf⟩ := DataW.trod_struct ht h0
  obtain ⟨ls, h1, h2, h3⟩ := op_fields enc w n cs fs.toList gs 0 h hla (by omega) fun f hf0 => by
    obtain ⟨i, hi⟩ := List.getElem?_of_mem hf0
    have hi' : fs[i]? = some f := by simpa using hi
    have hlt : i < fs.size := (Array.getElem?_eq_some_iff.1 hi').1
    exact ⟨_, (hf i f hi').trans (List.getElem?_eq_getElem (by omega))⟩
  exact ⟨ls, by omega, h2, fun j y hy => by simpa using h3 j y hy⟩
theorem OpL.to {P : Program} {t : TypeId} {g g' : List L → Prop} (h : OpL P t g) (hg : ∀ ls, g ls → g' ls) : OpL P t g' := fun enc w fuel cs x hx => by
  obtain ⟨ls, h1, h2, h3⟩ := h enc w fuel cs x hx
  exact ⟨ls, h1, hg ls h2, h3⟩
def phi0 : Phi := ⟨fun _ => none, fun _ => False⟩
theorem heap0 (h : Array Obj) : HeapOK h (get ([] : Hs)) phi0 := ⟨fun n ob hn => (by cases hn), fun X hd hX => (by cases hX), fun X hd hX => (by cases hX), fun b hb => False.elim hb, fun X Y hd hd' hX => (by cases hX)⟩
theorem own00 : ∀ b, Own phi0 b → False := fun b hb => by
  rcases hb with hb | ⟨X, hd, hX, _⟩
  · exact hb.elim
  · cases hX
theorem arg_agg {h : Array Obj} {cs : Array Value} {ls : List L} (hl : ls.length = cs.toList.length) (hr : ∀ (j : Nat) y, ls[j]? = some y → ∃ u, cs.toList[j]? = some u ∧ RepL h (fun _ => False) y u) : RepV h (get ([] : Hs)) phi0 true (ls.map .f) (.agg cs) := by
  refine ⟨cs, rfl, ?_⟩
  obtain ⟨us⟩ := cs
  simp only at hl hr ⊢
  induction ls generalizing us with
  | nil => obtain rfl := List.eq_nil_of_length_eq_zero hl.symm; trivial
  | cons l ls ih =>
    cases us with
    | nil => simp at hl
    | cons u us =>
      obtain ⟨u', hu', hr0⟩ := hr 0 l rfl
      cases hu'
      exact ⟨.f _ _ (hr0.less own00), ih us (by simpa using hl) fun j y hy => hr (j + 1) y hy⟩
theorem own0 (b : Nat) : ¬ Own0 phi0 b := by rintro ⟨X, hd, hX, _⟩; cases hX
theorem FC.row {P : Program} {f : FuncId} {args : List (Bool × List L)} {H1 : Hs} {b : Bool} (h : FC P f args H1 [(false, [.f (bL b)])]) (hf : IsFn P f) {w : World} {us : List Value} (hr : RepVs w.heap (get ([] : Hs)) phi0 (fzL args) us) :
    Calls P f us.toArray w fun e w' => e = .returned (.bool b) ∧ Below w.heap.size w w' := by
  refine ((h.calls phi0 w us (heap0 _) hr).body hf).mono ?_
  rintro e w' ⟨v, φ', rfl, hv, _, ht, h1, h2, h3, h4⟩
  obtain ⟨x, hx, hv⟩ := hv
  cases hx
  cases hv with
  | f _ _ r => cases r with
    | v _ _ => exact ⟨rfl, h1, h2, h3, h4, fun k hk => (ht.blk0 k hk (own0 k)).2⟩
end Go.Proofs.YtecnmodeggnjoaaGreat.Ac
set_option linter.unusedVariables false
set_option linter.unusedSimpArgs false
namespace Go.Proofs.YtecnmodeggnjoaaGreat.Ac
open Go.RowKit
theorem wf64 {n : Int} (h : (Lit.int .i64 n).wf = true) : I64 n := by
  simp only [Lit.wf, Bool.and_eq_true, decide_eq_true_eq] at h
  have h1 : (IntKind.i64.min : Int) = -2 ^ 63 := by decide
  have h2 : (IntKind.i64.max : Int) = 2 ^ 63 - 1 := by decide
  unfold I64; omega
theorem opi : OpL Tryz.prog 3 fun ls => ∃ z, ls = [iL z] ∧ I64 z := OpL.to (op_int Tryz.underlying3) fun ls ⟨n, h, hw⟩ => ⟨n, h, wf64 hw⟩
theorem op_s : OpL Tryz.prog 9 fun ls => ∃ s : ByteArray, ls = [sL s] ∧ s.size < 2 ^ 63 := OpL.to (op_str Tryz.underlying9) fun ls ⟨s, h, hw⟩ => ⟨s, h, by unfold maxLen at hw; omega⟩
theorem op_list {t e : TypeId} {wd : Nat} {α : Type} {f : α → List L} {p : α → Prop} (ht : Tryz.prog.underlying t = some (.slice e)) (hs : Tryz.prog.cellsOf e = wd) (hw : 0 < wd) (he : OpL Tryz.prog e fun ls => ∃ x, ls = f x ∧ p x) :
    OpL Tryz.prog t fun ls => ∃ l : List α, ls = [.sl wd (l.map f)] ∧ ListIn p l := OpL.to (op_slice ht hs hw he) fun ls ⟨es, h, hl, hg⟩ => by
  obtain ⟨l, rfl, hp⟩ := map_of es hg
  exact ⟨l, h, by unfold maxLen at hl; simp at hl; omega, hp⟩
theorem op_ints : OpL Tryz.prog 33 fun ls => ∃ l : List Int, ls = [ints l] ∧ ListIn I64 l := op_list (f := intE) Tryz.underlying33 (by kernel_rfl) (by decide) opi
theorem op_node : OpL Tryz.prog 189 fun ls => ∃ n : Nd, ls = ndL n ∧ NdIn n := OpL.to (op_struct (gs := [_, _, _, _, _]) Tryz.underlying189 ⟨by kernel_rfl, by kernel_rfl, by kernel_rfl, by kernel_rfl, by kernel_rfl, trivial⟩ (by kernel_rfl) ⟨opi, opi, opi, op_s, op_ints, trivial⟩)
  (by rintro ls ⟨_, _, ⟨a, rfl, ha⟩, rfl, _, _, ⟨b, rfl, hb⟩, rfl, _, _, ⟨c, rfl, hc⟩, rfl, _, _, ⟨s, rfl, hs⟩, rfl, _, _, ⟨l, rfl, hl⟩, rfl, rfl⟩; exact ⟨⟨a, b, c, s, l⟩, rfl, ha, hb, hc, hs, hl⟩)
theorem op_nodes : OpL Tryz.prog 22 fun ls => ∃ l : List Nd, ls = [nds l] ∧ ListIn NdIn l := op_list (f := ndL) Tryz.underlying22 (by kernel_rfl) (by decide) op_node
theorem op_doc : OpL Tryz.prog 24 fun ls => ∃ d : Dc, ls = dcL d ∧ DcIn d := OpL.to (op_struct (gs := [_, _, _]) Tryz.underlying24 ⟨by kernel_rfl, by kernel_rfl, by kernel_rfl, trivial⟩ (by kernel_rfl) ⟨opi, opi, op_nodes, trivial⟩)
  (by rintro ls ⟨_, _, ⟨a, rfl, ha⟩, rfl, _, _, ⟨b, rfl, hb⟩, rfl, _, _, ⟨l, rfl, hl⟩, rfl, rfl⟩; exact ⟨⟨a, b, l⟩, rfl, ha, hb, hl⟩)
end Go.Proofs.YtecnmodeggnjoaaGreat.Ac
