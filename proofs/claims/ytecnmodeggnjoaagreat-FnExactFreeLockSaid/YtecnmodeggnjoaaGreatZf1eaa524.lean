/- Several of our texts, one behind the other, without what this claim does not need: Tm, Tn, To. -/
import Derived.Test.YtecnmodeggnjoaaGreatZ7473eba3
import Derived.Test.YtecnmodeggnjoaaGreatZe2002630
import Derived.Test.YtecnmodeggnjoaaGreatZb38f89b9
set_option linter.unusedVariables false
set_option linter.unusedSimpArgs false
set_option maxRecDepth 20000
set_option maxHeartbeats 20000000
namespace Go.Proofs.YtecnmodeggnjoaaGreat.Ac
open Go.RowKit
def sesP (s : Int) : Prop := 1 ≤ s ∧ s ≤ 999
noncomputable def tcF (d : Dc) (t : Tb) (s : Int) : Int := if dB (DOK d ∧ TabP d t) then (if dB (sesP s) then 0 else 4) else 1
theorem tc_no {d : Dc} {t : Tb} {s : Int} (h : ¬ (DOK d ∧ TabP d t)) : tcF d t s = 1 := by unfold tcF; rw [dB_no h]; rfl
theorem tc_out {d : Dc} {t : Tb} {s : Int} (h : DOK d ∧ TabP d t) (k : ¬ sesP s) : tcF d t s = 4 := by unfold tcF; rw [dB_yes h, dB_no k]; rfl
theorem tc_yes {d : Dc} {t : Tb} {s : Int} (h : DOK d ∧ TabP d t) (k : sesP s) : tcF d t s = 0 := by unfold tcF; rw [dB_yes h, dB_yes k]; rfl
theorem tableCode_ok (d : Dc) (t : Tb) (hg : TbG d t) (s : Int) : FC Tryz.prog 89 [(true, dcL d), (true, tbL t), (false, [iL s])] [] [(false, [.f (iL (tcF d t s))])] := by
  have ho := tableOK_ok d hg.d64 t (by have := hg.hl; omega) (by have := hg.wl; omega) hg.hn hg.wn
  have hs := isSession_ok s
  by_cases k : DOK d ∧ TabP d t
  case neg =>
    rw [tc_no k]
    refine gr Tryz.func89 Tryz.ntmps89 trivial ?_
    refine ⟨([], _), ho.x k, nx ?_⟩
    exact ⟨[], [], don⟩
  by_cases k2 : sesP s
  case neg =>
    rw [tc_out k k2]
    refine gr Tryz.func89 Tryz.ntmps89 trivial ?_
    refine ⟨([], _), ho.y k, nx ?_⟩
    refine ⟨([], _), hs.n k2, nx ?_⟩
    exact ⟨[], [], don⟩
  rw [tc_yes k k2]
  refine gr Tryz.func89 Tryz.ntmps89 trivial ?_
  refine ⟨([], _), ho.y k, nx ?_⟩
  refine ⟨([], _), hs.t k2, nx ?_⟩
  exact ⟨[], [], don⟩
theorem l08Ask_ok (d : Dc) (t : Tb) (hg : TbG d t) (s : Int) : FC Tryz.prog 87 [(true, dcL d), (true, tbL t), (false, [iL s])] [] [(false, [.f (iL (tcF d t s))])] := by
  have ho := specTableOK_ok d hg.d64 (by have := hg.dl; omega) t (by have := hg.hl; omega) (by have := hg.wl; omega)
  by_cases k : DOK d ∧ TabP d t
  case neg =>
    rw [tc_no k]
    refine gr Tryz.func87 Tryz.ntmps87 trivial ?_
    refine ⟨([], _), ho.x k, nx ?_⟩
    exact ⟨[], [], don⟩
  by_cases k2 : sesP s
  case neg =>
    rw [tc_out k k2]
    refine gr Tryz.func87 Tryz.ntmps87 trivial ?_
    refine ⟨([], _), ho.y k, nx ?_⟩
    refine ⟨([], _), in_f k2, nx ?_⟩
    exact ⟨[], [], don⟩
  rw [tc_yes k k2]
  refine gr Tryz.func87 Tryz.ntmps87 trivial ?_
  refine ⟨([], _), ho.y k, nx ?_⟩
  refine ⟨([], _), in_t k2, nx ?_⟩
  exact ⟨[], [], don⟩
noncomputable def lvF (d : Dc) (t : Tb) (s : Int) : Tb × List Ho × Int := if tcF d t s = 0 then ((setK d (leaveF t s) 0).1, (setK d (leaveF t s) 0).2, 0) else (⟨[], []⟩, [], tcF d t s)
theorem tc_iff {d : Dc} {t : Tb} {s : Int} : tcF d t s = 0 ↔ (DOK d ∧ TabP d t) ∧ sesP s := by
  by_cases k : DOK d ∧ TabP d t
  · by_cases k2 : sesP s
    · rw [tc_yes k k2]; exact ⟨fun _ => ⟨k, k2⟩, fun _ => rfl⟩
    · rw [tc_out k k2]; exact ⟨fun h => absurd h (by decide), fun h => absurd h.2 k2⟩
  · rw [tc_no k]; exact ⟨fun h => absurd h (by decide), fun h => absurd h.1 k⟩
noncomputable def lvU (d : Dc) (t : Tb) (s : Int) : List Ho := if tcF d t s = 0 then tailF (setK d (leaveF t s) 0).2 (cutT t.holds (witF s t.holds) []) else []
noncomputable def lvV (d : Dc) (t : Tb) (s : Int) : List Ho := if tcF d t s = 0 then List.replicate (setK d (leaveF t s) 0).2.length zHo' ++ cutT t.waits (witF s t.waits) [] else []
theorem lv_spec (d : Dc) (t : Tb) (hg : TbG d t) (s : Int) : FC Tryz.prog 29 [(true, dcL d), (true, tbL t), (false, [iL s])] [(1000, some ⟨0, 3, (lvF d t s).1.holds.map hoW⟩), (1001, some ⟨0, 3, (lvF d t s).1.waits.map hoW⟩), (1002, some ⟨0, 1, ((lvF d t s).2.1.map (·.session)).map intW⟩)]
    [(true, [.row 1000 0 (lvF d t s).1.holds.length, .row 1001 0 (lvF d t s).1.waits.length]), (false, [.row 1002 0 (lvF d t s).2.1.length]), (false, [.f (iL (lvF d t s).2.2)])] := by
  have ho := l08Ask_ok d t hg s
  unfold lvF
  by_cases k : tcF d t s = 0
  case neg =>
    rw [if_neg k]
    dsimp only
    refine gr Tryz.func29 Tryz.ntmps29 (⟨trivial, trivial, trivial, trivial⟩) ?_
    refine ⟨([], _), ho, nx ?_⟩
    refine ⟨fun h => nx ?_, fun h => absurd h (fun w => w k)⟩
    exact ⟨[], [(1000, 7), (1001, 8), (1002, 320)], don⟩
  obtain ⟨k1, k2⟩ := tc_iff.1 k
  have hG := leave_tabG s k1.2.g
  have hR := (setK_tabG (setN (leaveF t s) 0 + 1) (leaveF t s) 0 (Nat.lt_succ_self _) hG).1
  have h1 := hR.hg.len
  have h2 := hR.wl
  rw [if_pos k]
  rw [k] at ho
  dsimp only
  refine gr Tryz.func29 Tryz.ntmps29 (⟨cl_hos _, cl_hos _, cl_ints _, trivial⟩) ?_
  refine ⟨([], _), ho, nx ?_⟩
  refine ⟨fun h => absurd rfl h, fun h => nx ?_⟩
  refine ⟨([], _), l08Without_ok t s (by have := hg.hl; omega) (by have := hg.wl; omega), nx ?_⟩
  refine ⟨(_, _), l08Settle_ok d k1.1 (leaveF t s) hG, nx ?_⟩
  refine ⟨(_, _), l08Own_ok (setK d (leaveF t s) 0).1 (by omega) (by omega), nx ?_⟩
  exact ⟨[], [(1000, 496), (1001, 497), (1002, 432)], don⟩
theorem lv_impl (d : Dc) (t : Tb) (hg : TbG d t) (s : Int) : FC Tryz.prog 30 [(true, dcL d), (true, tbL t), (false, [iL s])] [(1000, some ⟨0, 3, ((lvF d t s).1.holds ++ lvU d t s).map hoW⟩), (1001, some ⟨0, 3, ((lvF d t s).1.waits ++ lvV d t s).map hoW⟩), (1002, some ⟨0, 1, ((lvF d t s).2.1.map (·.session)).map intW⟩)]
    [(true, [.row 1000 0 (lvF d t s).1.holds.length, .row 1001 0 (lvF d t s).1.waits.length]), (false, [.row 1002 0 (lvF d t s).2.1.length]), (false, [.f (iL (lvF d t s).2.2)])] := by
  have ho := tableCode_ok d t hg s
  unfold lvF lvU lvV
  by_cases k : tcF d t s = 0
  case neg =>
    rw [if_neg k, if_neg k, if_neg k]
    dsimp only
    refine gr Tryz.func30 Tryz.ntmps30 (⟨trivial, trivial, trivial, trivial⟩) ?_
    refine ⟨([], _), ho, nx ?_⟩
    refine ⟨fun h => nx ?_, fun h => absurd h (fun w => w k)⟩
    exact ⟨[], [(1000, 7), (1001, 8), (1002, 9)], don⟩
  obtain ⟨k1, k2⟩ := tc_iff.1 k
  have hG := leave_tabG s k1.2.g
  have hR := setK_tabG (setN (leaveF t s) 0 + 1) (leaveF t s) 0 (Nat.lt_succ_self _) hG
  have h1 := hR.1.hg.len
  have h2 := hR.1.wl
  have h3 := hG.wl
  have hl := leave_ok t s (by have := hg.hl; omega) (by have := hg.wl; omega) [] []
  rw [List.append_nil, List.append_nil] at hl
  rw [if_pos k, if_pos k, if_pos k]
  rw [k] at ho
  dsimp only
  refine gr Tryz.func30 Tryz.ntmps30 (⟨cl_hos _, cl_hos _, cl_ints _, trivial⟩) ?_
  refine ⟨([], _), ho, nx ?_⟩
  refine ⟨fun h => absurd rfl h, fun h => nx ?_⟩
  refine ⟨(_, _), tabCopied_ok t (by have := hg.hl; omega) (by have := hg.wl; omega), nx ?_⟩
  refine ⟨⟨false, [(1, 176), (2, 352), (3, 353)], _, _, _, _⟩, hl, cd ?_⟩
  refine ⟨⟨false, [(1, 176), (2, 352), (3, 353), (4, 64)], _, _, _, _⟩, settle_ok d k1.1 (leaveF t s) hG (cutT t.holds (witF s t.holds) []) (cutT t.waits (witF s t.waits) []), cd ?_⟩
  refine ⟨⟨true, [], _, _, _, _⟩, sessionList_ok (setK d (leaveF t s) 0).2 (by omega), cd ?_⟩
  exact ⟨[], [(1000, 400), (1001, 353), (1002, 448)], don⟩
end Go.Proofs.YtecnmodeggnjoaaGreat.Ac
set_option linter.unusedVariables false
set_option linter.unusedSimpArgs false
set_option maxRecDepth 20000
set_option maxHeartbeats 40000000
namespace Go.Proofs.YtecnmodeggnjoaaGreat.Ac
open Go.RowKit
attribute [local simp] mkI_len mkNs_len mkHos_len
theorem lv_le {d : Dc} {t : Tb} {s : Int} : (lvF d t s).1.holds.length ≤ 30 ∧ (lvF d t s).1.waits.length ≤ 6 ∧ (lvF d t s).2.1.length ≤ 6 := by
  unfold lvF
  by_cases k : tcF d t s = 0
  · rw [if_pos k]
    obtain ⟨k1, _⟩ := tc_iff.1 k
    have h0 := wit_len (s := s) (l := t.holds)
    have h1 := set_le (d := d) (setN (leaveF t s) 0 + 1) (leaveF t s) 0 (Nat.lt_succ_self _) (Nat.le_trans h0 k1.2.1.1)
    have h2 := (setK_tabG (d := d) (setN (leaveF t s) 0 + 1) (leaveF t s) 0 (Nat.lt_succ_self _) (leave_tabG s k1.2.g)).2
    have h3 : (leaveF t s).waits.length ≤ t.waits.length := wit_len
    have h4 := k1.2.2.1
    exact ⟨h1, by dsimp only; omega, by dsimp only; omega⟩
  · rw [if_neg k]; exact ⟨by simp, by simp, by simp⟩
theorem law_LeaveTable (d : Dc) (t : Tb) (s : Int) (hd : DcIn d) (ht : TbIn t) (h64 : I64 s) : FC Tryz.prog 4 [(true, dcL d), (true, tbL t), (false, [iL s])] [] [(false, [.f (bL true)])] := by
  have zA := szDoc_ok d (2 ^ 20) (by omega) hd.len hd.txt hd.kid
  refine gr Tryz.func4 Tryz.ntmps4 trivial ?_
  refine ⟨([], _), zA, nx ?_⟩
  refine ⟨fun h => nx ?_, fun h => nx ?_⟩
  exact ⟨[], [], don⟩
  have hA : szD d ≤ 2 ^ 20 ∧ szL (szD d) (2 ^ 20) = 2 ^ 20 - (szD d : Int) := by unfold szL at h ⊢; split at h <;> omega
  rw [hA.2]
  have zB := szTable_ok t (2 ^ 20 - (szD d : Int)) (by omega) ht
  refine ⟨([], _), zB, nx ?_⟩
  refine ⟨fun h => nx ?_, fun h => nx ?_⟩
  exact ⟨[], [], don⟩
  have hB : szTb t ≤ 2 ^ 20 := by unfold szL at h; split at h <;> omega
  have hg := tbG_of hd ht hA.1 hB
  have hk : ∀ n ∈ d.nodes, n.kids.length < 2 ^ 28 := fun n hn => by have := szNs_kids hn; have := hA.1; unfold szD at this; omega
  have tA := toDoc_ok d hg.dl hk
  have tB := toTable_ok t hB
  have sp := lv_spec d t hg s
  have im := lv_impl d t hg s
  have eqd := eqDoc_refl d (by have := hg.dl; omega) (fun n hn => by have := hk n hn; omega)
  have eqt := eqTable_refl t hB
  have hle := lv_le (d := d) (t := t) (s := s)
  generalize lvU d t s = U at im
  generalize lvV d t s = V at im
  generalize lvF d t s = r at sp im hle
  obtain ⟨⟨H, W⟩, G, c⟩ := r
  dsimp only at sp im hle
  obtain ⟨hle1, hle2, hle3⟩ := hle
  have hB1 := hB
  unfold szTb at hB1
  have eqr := eqTable_refl ⟨H, W⟩ (by unfold szTb; dsimp only; omega)
  have hL : (G.map (·.session)).length = G.length := List.length_map ..
  generalize G.map (·.session) = L at sp im hL
  rw [← hL] at sp im hle3
  have eql := eqIntS_refl L (by omega)
  have b1 := mkZ_sz d.nodes
  have b2 := mkZHos_sz t.holds
  have b3 := mkZHos_sz t.waits
  have b4 := mkZHos_sz H
  have b5 := mkZHos_sz W
  have hA1 := hA.1
  unfold szD at hA1
  have m1 := markDoc_ok d 1 (by omega)
  have m2 := markTable_ok t (1 + mkZ d.nodes) (by omega)
  have m3 := markTabT_ok ⟨H, W⟩ U V 1 (by dsimp only; omega)
  have m4 := markIntS_ok L (1 + mkZHos H + mkZHos W) (by omega)
  have m5 := heldTable_ok ⟨H, W⟩ 1 (by dsimp only; omega)
  have m6 := heldIntS_ok (1 + mkZHos H + mkZHos W) L.length (by omega)
  dsimp only at m3 m5
  clear b1 b2 b3 b4 b5 hA1 hB1
  refine ⟨(_, _), tA, nx ?_⟩
  refine ⟨(_, _), tB, nx ?_⟩
  refine ⟨⟨true, [], _, _, _, _⟩, sp, cd ?_⟩
  refine ⟨(_, _), tA, nx ?_⟩
  refine ⟨(_, _), tB, nx ?_⟩
  refine ⟨⟨true, [], _, _, _, _⟩, im, cd ?_⟩
  refine ⟨⟨true, [], _, _, _, _⟩, eqr, cd ?_⟩
  refine ⟨⟨true, [], _, _, _, _⟩, eql, cd ?_⟩
  refine ⟨fun h => absurd rfl h, fun h => nx ?_⟩
  refine ⟨(_, _), tA, nx ?_⟩
  refine ⟨⟨true, [], _, _, _, _⟩, eqd, cd ?_⟩
  refine ⟨(_, _), tB, nx ?_⟩
  refine ⟨⟨true, [], _, _, _, _⟩, eqt, cd ?_⟩
  refine ⟨⟨false, [(1, 704)], _, _, _, _⟩, m1, cd ?_⟩
  refine ⟨⟨false, [(1, 736), (2, 737)], _, _, _, _⟩, m2, cd ?_⟩
  refine ⟨fun h => absurd h (by omega), fun h => nx ?_⟩
  refine ⟨⟨true, [], _, _, _, _⟩, eqr, cd ?_⟩
  refine ⟨⟨true, [], _, _, _, _⟩, eql, cd ?_⟩
  refine ⟨fun h => absurd rfl h, fun h => nx ?_⟩
  refine ⟨⟨false, [(1, 816), (2, 817)], _, _, _, _⟩, m3, cd ?_⟩
  refine ⟨⟨false, [(1, 818)], _, _, _, _⟩, m4, cd ?_⟩
  refine ⟨⟨true, [], _, _, _, _⟩, m5, cd ?_⟩
  refine ⟨fun h => absurd h (by omega), fun h => nx ?_⟩
  refine ⟨⟨true, [], _, _, _, _⟩, m6, cd ?_⟩
  refine ⟨fun h => absurd h (by omega), fun h => nx ?_⟩
  refine ⟨fun h => absurd rfl h, fun h => nx ?_⟩
  refine ⟨(_, _), tA, nx ?_⟩
  refine ⟨(_, _), tB, nx ?_⟩
  refine ⟨⟨true, [], _, _, _, _⟩, im, cd ?_⟩
  refine ⟨⟨true, [], _, _, _, _⟩, eqr, cd ?_⟩
  refine ⟨⟨true, [], _, _, _, _⟩, eql, cd ?_⟩
  refine ⟨fun h => absurd rfl h, fun h => nx ?_⟩
  refine ⟨⟨true, [], _, _, _, _⟩, m5, cd ?_⟩
  refine ⟨fun h => absurd h (by omega), fun h => nx ?_⟩
  refine ⟨⟨true, [], _, _, _, _⟩, m6, cd ?_⟩
  refine ⟨fun h => absurd h (by omega), fun h => nx ?_⟩
  refine ⟨fun h => absurd rfl h, fun h => nx ?_⟩
  exact ⟨[], [], don⟩
end Go.Proofs.YtecnmodeggnjoaaGreat.Ac
set_option linter.unusedVariables false
set_option linter.unusedSimpArgs false
set_option maxRecDepth 20000
set_option maxHeartbeats 20000000
namespace Go.Proofs.YtecnmodeggnjoaaGreat.Ac
open Go.RowKit
def drpF (s n : Int) (l : List Ho) : List Ho := l.filter fun x => !decide (x.session = s ∧ x.node = n)
theorem drp_len {s n : Int} {l : List Ho} : (drpF s n l).length ≤ l.length := List.length_filter_le _ _
theorem drp_mem {s n : Int} {l : List Ho} {x : Ho} (h : x ∈ drpF s n l) : x ∈ l := (List.mem_filter.1 h).1
def dropT (t : Tb) (s n : Int) : Tb := ⟨drpF s n t.holds, t.waits⟩
theorem drop_tabG {d : Dc} {t : Tb} (s n : Int) (h : TabG d t) : TabG d (dropT t s n) :=
  ⟨⟨by have := h.hg.len; have := drp_len (s := s) (n := n) (l := t.holds); show (drpF s n t.holds).length < _; omega, fun x hx => h.hg.has x (drp_mem hx), fun x hx => h.hg.md x (drp_mem hx)⟩, h.rise.sublist List.filter_sublist, h.wl, h.wh, h.wm⟩
theorem drop1_ok (x : Ho) (s n : Int) : FC Tryz.prog 175 [(true, hoL x), (false, [.pv [iL s]]), (false, [.pv [iL n]])] [] [(false, [.f (bL (decide (x.session = s ∧ x.node = n)))])] := by
  by_cases k : x.session = s
  case neg =>
    have q : decide (x.session = s ∧ x.node = n) = false := decide_eq_false fun w => k w.1
    refine gr Tryz.func175 Tryz.ntmps175 trivial ?_
    refine ⟨fun h => absurd h (k), fun h => nx ?_⟩
    exact ⟨[], [], don⟩
  by_cases k2 : x.node = n
  · have q : decide (x.session = s ∧ x.node = n) = true := decide_eq_true ⟨k, k2⟩
    refine gr Tryz.func175 Tryz.ntmps175 trivial ?_
    refine ⟨fun h => nx ?_, fun h => absurd h (fun w => w k)⟩
    refine ⟨fun h => nx ?_, fun h => absurd h (fun w => w k2)⟩
    exact ⟨[], [], don⟩
  · have q : decide (x.session = s ∧ x.node = n) = false := decide_eq_false fun w => k2 w.2
    refine gr Tryz.func175 Tryz.ntmps175 trivial ?_
    refine ⟨fun h => nx ?_, fun h => absurd h (fun w => w k)⟩
    refine ⟨fun h => absurd h (k2), fun h => nx ?_⟩
    exact ⟨[], [], don⟩
theorem drop_ok (l : List Ho) (s n : Int) (hl : l.length < 2 ^ 28) : FC Tryz.prog 95 [(false, [hos l]), (false, [iL s]), (false, [iL n])] [(1000, some ⟨0, 3, (drpF s n l ++ cutT l (drpF s n l) []).map hoW⟩)] [(false, [.row 1000 0 (drpF s n l).length])] := by
  have c := dlfHo2_ok l 175 (.pv [iL s]) (.pv [iL n]) (fun x => decide (x.session = s ∧ x.node = n)) hl (fun x _ => drop1_ok x s n) []
  rw [List.append_nil l] at c
  refine gr Tryz.func95 Tryz.ntmps95 (⟨cl_hos _, trivial⟩) ?_
  refine ⟨(_, _), cloneHo_ok' l hl, nx ?_⟩
  refine ⟨⟨true, [(1, 144)], _, _, _, _⟩, c, cd ?_⟩
  exact ⟨[], [(1000, 144)], don⟩
theorem drp_take {s n : Int} {l : List Ho} {i : Nat} (hi : i < l.length) : drpF s n (l.take (i + 1)) = if l[i].session = s ∧ l[i].node = n then drpF s n (l.take i) else drpF s n (l.take i) ++ [l[i]] := by
  unfold drpF
  rw [List.take_succ_eq_append_getElem hi, List.filter_append]
  by_cases k : l[i].session = s ∧ l[i].node = n
  · rw [if_pos k, List.filter_cons_of_neg (by simpa using k)]; simp
  · rw [if_neg k, List.filter_cons_of_pos (by rw [decide_eq_false k]; rfl)]; rfl
theorem l07Drop_ok (l : List Ho) (s n : Int) (hl : l.length < 2 ^ 28) : FC Tryz.prog 93 [(false, [hos l]), (false, [iL s]), (false, [iL n])] [] [(false, [.f (hos (drpF s n l))])] := by
  have q0 : ([] : List Ho) = drpF s n (l.take 0) := rfl
  refine gr Tryz.func93 Tryz.ntmps93 trivial ?_
  (refine ⟨fun m es hs => ∃ (i : Nat) (a : List Ho), (m + i = l.length) ∧ (a = drpF s n (l.take i)) ∧ es = [(8, .val false [.f (iL i)]), (7, .val false [.row 3 0 a.length]), (2, .val false [.f (iL n)]), (1, .val false [.f (iL s)]), (0, .val false [.f (hos l)])] ∧ hs = [(3, some ⟨0, 3, a.map hoW⟩)], ⟨l.length, [], [(3, 160)], _, _, don, 0, ([]), don, don, rfl, rfl⟩, ?_⟩; rintro m _ _ ⟨i, a, hDRP0, hDRP1, rfl, rfl⟩; refine nx ?_)
  refine ⟨fun h => nx ?_, fun h => nx ?_⟩
  have hi : i < l.length := by simpa using h
  have ht := drp_take (s := s) (n := n) hi
  have hal : a.length ≤ i := by rw [hDRP1]; have := drp_len (s := s) (n := n) (l := l.take i); simp at this; omega
  refine ⟨(i, hoL l[i]), ⟨rfl, by simp [hi]⟩, nx ?_⟩
  by_cases k : l[i].session = s
  case neg =>
    rw [if_neg fun w => k w.1, ← hDRP1] at ht
    have q := ht.symm
    refine ⟨fun h => nx ?_, fun h => absurd h (fun w => w k)⟩
    refine ⟨(i, hoL l[i]), ⟨rfl, by simp [hi]⟩, nx ?_⟩
    refine ⟨(a ++ [l[i]]).map hoW, ⟨app_one hoW a l[i], by simp; omega⟩, nx ?_⟩
    exact ⟨m - 1, [], [(3, 624)], _, _, by omega, don, (i + 1), (a ++ [l[i]]), don, don, rfl, rfl⟩
  refine ⟨fun h => absurd h (fun w => w k), fun h => nx ?_⟩
  refine ⟨(i, hoL l[i]), ⟨rfl, by simp [hi]⟩, nx ?_⟩
  by_cases k2 : l[i].node = n
  · rw [if_pos ⟨k, k2⟩, ← hDRP1] at ht
    have q := ht.symm
    refine ⟨fun h => absurd h (fun w => w k2), fun h => nx ?_⟩
    exact ⟨m - 1, [], [], _, _, by omega, don, (i + 1), a, don, don, rfl, rfl⟩
  · rw [if_neg fun w => k2 w.2, ← hDRP1] at ht
    have q := ht.symm
    refine ⟨fun h => nx ?_, fun h => absurd h (fun w => w k2)⟩
    refine ⟨(i, hoL l[i]), ⟨rfl, by simp [hi]⟩, nx ?_⟩
    refine ⟨(a ++ [l[i]]).map hoW, ⟨app_one hoW a l[i], by simp; omega⟩, nx ?_⟩
    exact ⟨m - 1, [], [(3, 624)], _, _, by omega, don, (i + 1), (a ++ [l[i]]), don, don, rfl, rfl⟩
  have hi : l.length ≤ i := by simpa using h
  rw [List.take_of_length_le hi] at hDRP1
  rw [← hDRP1]
  exact ⟨[], [], don⟩
noncomputable def fcF (d : Dc) (t : Tb) (s n : Int) : Int := if (ndAt d.nodes n).isSome then (if ownF t.holds s n = 0 then 17 else 0) else 5
theorem freeCode_ok (d : Dc) (hd : DOK d) (t : Tb) (hl : t.holds.length < 2 ^ 62) (s n : Int) (h64 : I64 n) : FC Tryz.prog 94 [(false, [.pv (dcL d)]), (false, [.pv (tbL t)]), (false, [iL s]), (false, [iL n])] [] [(false, [.f (iL (fcF d t s n))])] := by
  have hf := has_ok d n hd.rise h64 (by have := hd.len; omega)
  unfold fcF
  cases k : (ndAt d.nodes n).isSome with
  | false =>
    rw [k] at hf
    refine gr Tryz.func94 Tryz.ntmps94 trivial ?_
    refine ⟨([], _), hf, nx ?_⟩
    exact ⟨[], [], don⟩
  | true =>
    rw [k] at hf
    by_cases k2 : ownF t.holds s n = 0
    · rw [if_pos rfl, if_pos k2]
      refine gr Tryz.func94 Tryz.ntmps94 trivial ?_
      refine ⟨([], _), hf, nx ?_⟩
      refine ⟨([], _), own_ok t.holds s n hl, nx ?_⟩
      refine ⟨fun h => nx ?_, fun h => absurd h (fun w => w k2)⟩
      exact ⟨[], [], don⟩
    · rw [if_pos rfl, if_neg k2]
      refine gr Tryz.func94 Tryz.ntmps94 trivial ?_
      refine ⟨([], _), hf, nx ?_⟩
      refine ⟨([], _), own_ok t.holds s n hl, nx ?_⟩
      refine ⟨fun h => absurd h (k2), fun h => nx ?_⟩
      exact ⟨[], [], don⟩
noncomputable def flF (d : Dc) (t : Tb) (s n : Int) : Tb × List Ho × Int := if tcF d t s = 0 then (if fcF d t s n = 0 then ((setK d (dropT t s n) 0).1, (setK d (dropT t s n) 0).2, 0) else (t, [], fcF d t s n)) else (⟨[], []⟩, [], tcF d t s)
noncomputable def flU (d : Dc) (t : Tb) (s n : Int) : List Ho := if tcF d t s = 0 then (if fcF d t s n = 0 then tailF (setK d (dropT t s n) 0).2 (cutT t.holds (drpF s n t.holds) []) else []) else []
noncomputable def flV (d : Dc) (t : Tb) (s n : Int) : List Ho := if tcF d t s = 0 then (if fcF d t s n = 0 then List.replicate (setK d (dropT t s n) 0).2.length zHo' ++ [] else []) else []
theorem fl_impl (d : Dc) (t : Tb) (hg : TbG d t) (s n : Int) (h64 : I64 n) : FC Tryz.prog 32 [(true, dcL d), (true, tbL t), (false, [iL s]), (false, [iL n])] [(1000, some ⟨0, 3, ((flF d t s n).1.holds ++ flU d t s n).map hoW⟩), (1001, some ⟨0, 3, ((flF d t s n).1.waits ++ flV d t s n).map hoW⟩), (1002, some ⟨0, 1, ((flF d t s n).2.1.map (·.session)).map intW⟩)]
    [(true, [.row 1000 0 (flF d t s n).1.holds.length, .row 1001 0 (flF d t s n).1.waits.length]), (false, [.row 1002 0 (flF d t s n).2.1.length]), (false, [.f (iL (flF d t s n).2.2)])] := by
  have ho := tableCode_ok d t hg s
  unfold flF flU flV
  by_cases k : tcF d t s = 0
  case neg =>
    rw [if_neg k, if_neg k, if_neg k]
    dsimp only
    refine gr Tryz.func32 Tryz.ntmps32 (⟨trivial, trivial, trivial, trivial⟩) ?_
    refine ⟨([], _), ho, nx ?_⟩
    refine ⟨fun h => nx ?_, fun h => absurd h (fun w => w k)⟩
    exact ⟨[], [(1000, 7), (1001, 8), (1002, 9)], don⟩
  obtain ⟨k1, k2⟩ := tc_iff.1 k
  have hfc := freeCode_ok d k1.1 t (by have := hg.hl; omega) s n h64
  rw [if_pos k, if_pos k, if_pos k]
  rw [k] at ho
  by_cases k3 : fcF d t s n = 0
  case neg =>
    rw [if_neg k3, if_neg k3, if_neg k3]
    rw [List.append_nil, List.append_nil]
    dsimp only
    refine gr Tryz.func32 Tryz.ntmps32 (⟨cl_hos _, cl_hos _, trivial, trivial⟩) ?_
    refine ⟨([], _), ho, nx ?_⟩
    refine ⟨fun h => absurd rfl h, fun h => nx ?_⟩
    refine ⟨(_, _), tabCopied_ok t (by have := hg.hl; omega) (by have := hg.wl; omega), nx ?_⟩
    refine ⟨⟨true, [], _, _, _, _⟩, hfc, cd ?_⟩
    refine ⟨fun h => nx ?_, fun h => absurd h (fun w => w k3)⟩
    exact ⟨[], [(1000, 400), (1001, 401), (1002, 7)], don⟩
  have hG := drop_tabG s n k1.2.g
  have hR := setK_tabG (setN (dropT t s n) 0 + 1) (dropT t s n) 0 (Nat.lt_succ_self _) hG
  have h1 := hR.1.hg.len
  have h2 := hR.1.wl
  have h3 := hG.wl
  have hs := settle_ok d k1.1 (dropT t s n) hG (cutT t.holds (drpF s n t.holds) []) []
  rw [List.append_nil (dropT t s n).waits] at hs
  rw [if_pos k3, if_pos k3, if_pos k3]
  rw [k3] at hfc
  dsimp only
  refine gr Tryz.func32 Tryz.ntmps32 (⟨cl_hos _, cl_hos _, cl_ints _, trivial⟩) ?_
  refine ⟨([], _), ho, nx ?_⟩
  refine ⟨fun h => absurd rfl h, fun h => nx ?_⟩
  refine ⟨(_, _), tabCopied_ok t (by have := hg.hl; omega) (by have := hg.wl; omega), nx ?_⟩
  refine ⟨⟨true, [], _, _, _, _⟩, hfc, cd ?_⟩
  refine ⟨fun h => absurd rfl h, fun h => nx ?_⟩
  refine ⟨⟨true, [], _, _, _, _⟩, drop_ok t.holds s n (by have := hg.hl; omega), cd ?_⟩
  refine ⟨⟨false, [(1, 208), (2, 592), (3, 401), (4, 80)], _, _, _, _⟩, hs, cd ?_⟩
  refine ⟨⟨true, [], _, _, _, _⟩, sessionList_ok (setK d (dropT t s n) 0).2 (by omega), cd ?_⟩
  exact ⟨[], [(1000, 624), (1001, 401), (1002, 672)], don⟩
theorem fl_spec (d : Dc) (t : Tb) (hg : TbG d t) (s n : Int) (h64 : I64 n) : FC Tryz.prog 31 [(true, dcL d), (true, tbL t), (false, [iL s]), (false, [iL n])] [(1000, some ⟨0, 3, (flF d t s n).1.holds.map hoW⟩), (1001, some ⟨0, 3, (flF d t s n).1.waits.map hoW⟩), (1002, some ⟨0, 1, ((flF d t s n).2.1.map (·.session)).map intW⟩)]
    [(true, [.row 1000 0 (flF d t s n).1.holds.length, .row 1001 0 (flF d t s n).1.waits.length]), (false, [.row 1002 0 (flF d t s n).2.1.length]), (false, [.f (iL (flF d t s n).2.2)])] := by
  have ho := l08Ask_ok d t hg s
  have hat := l02At_ok d n (by have := hg.dl; omega)
  have hai := at_iff n d.nodes 0
  have hl1 := hg.hl
  have hl2 := hg.wl
  unfold flF
  by_cases k : tcF d t s = 0
  case neg =>
    rw [if_neg k]
    dsimp only
    refine gr Tryz.func31 Tryz.ntmps31 (⟨trivial, trivial, trivial, trivial⟩) ?_
    refine ⟨([], _), ho, nx ?_⟩
    refine ⟨fun h => nx ?_, fun h => absurd h (fun w => w k)⟩
    exact ⟨[], [(1000, 7), (1001, 8), (1002, 352)], don⟩
  obtain ⟨k1, k2⟩ := tc_iff.1 k
  rw [if_pos k]
  rw [k] at ho
  unfold fcF
  cases k3 : (ndAt d.nodes n).isSome with
  | false =>
    have hn : atFrom n 0 d.nodes < 0 := Int.not_le.1 fun w => by have := hai.1 w; rw [k3] at this; cases this
    rw [if_neg Bool.false_ne_true, if_neg (by decide)]
    dsimp only
    refine gr Tryz.func31 Tryz.ntmps31 (⟨cl_hos _, cl_hos _, trivial, trivial⟩) ?_
    refine ⟨([], _), ho, nx ?_⟩
    refine ⟨fun h => absurd rfl h, fun h => nx ?_⟩
    refine ⟨([], _), hat, nx ?_⟩
    refine ⟨fun h => nx ?_, fun h => absurd h (fun w => w hn)⟩
    refine ⟨(_, _), l08Own_ok t (by omega) (by omega), nx ?_⟩
    exact ⟨[], [(1000, 464), (1001, 465), (1002, 480)], don⟩
  | true =>
    have hn : ¬ atFrom n 0 d.nodes < 0 := Int.not_lt.2 (hai.2 k3)
    rw [if_pos rfl]
    by_cases k4 : ownF t.holds s n = 0
    · rw [if_pos k4, if_neg (by decide)]
      dsimp only
      refine gr Tryz.func31 Tryz.ntmps31 (⟨cl_hos _, cl_hos _, trivial, trivial⟩) ?_
      refine ⟨([], _), ho, nx ?_⟩
      refine ⟨fun h => absurd rfl h, fun h => nx ?_⟩
      refine ⟨([], _), hat, nx ?_⟩
      refine ⟨fun h => absurd h (hn), fun h => nx ?_⟩
      refine ⟨([], _), l07Own_ok t.holds s n (by omega), nx ?_⟩
      refine ⟨fun h => nx ?_, fun h => absurd h (fun w => w k4)⟩
      refine ⟨(_, _), l08Own_ok t (by omega) (by omega), nx ?_⟩
      exact ⟨[], [(1000, 608), (1001, 609), (1002, 624)], don⟩
    have hG := drop_tabG s n k1.2.g
    have hR := setK_tabG (setN (dropT t s n) 0 + 1) (dropT t s n) 0 (Nat.lt_succ_self _) hG
    have h1 := hR.1.hg.len
    have h2 := hR.1.wl
    have hst : FC Tryz.prog 77 [(true, dcL d), (true, [hos (drpF s n t.holds), hos t.waits])] _ _ := l08Settle_ok d k1.1 (dropT t s n) hG
    rw [if_neg k4, if_pos rfl]
    dsimp only
    refine gr Tryz.func31 Tryz.ntmps31 (⟨cl_hos _, cl_hos _, cl_ints _, trivial⟩) ?_
    refine ⟨([], _), ho, nx ?_⟩
    refine ⟨fun h => absurd rfl h, fun h => nx ?_⟩
    refine ⟨([], _), hat, nx ?_⟩
    refine ⟨fun h => absurd h (hn), fun h => nx ?_⟩
    refine ⟨([], _), l07Own_ok t.holds s n (by omega), nx ?_⟩
    refine ⟨fun h => absurd h (k4), fun h => nx ?_⟩
    refine ⟨([], _), l07Drop_ok t.holds s n (by omega), nx ?_⟩
    refine ⟨(_, _), hst, nx ?_⟩
    refine ⟨(_, _), l08Own_ok (setK d (dropT t s n) 0).1 (by omega) (by omega), nx ?_⟩
    exact ⟨[], [(1000, 864), (1001, 865), (1002, 800)], don⟩
end Go.Proofs.YtecnmodeggnjoaaGreat.Ac
