/- Several of our texts, one behind the other, without what this claim does not need: Tw, Wl, Wm. -/
import Derived.Test.YtecnmodeggnjoaaGreatZ8ecd57fd
import Derived.Test.YtecnmodeggnjoaaGreatZe2002630
import Derived.Test.YtecnmodeggnjoaaGreatZ855f7bb1
import Derived.Test.YtecnmodeggnjoaaGreatZaa953d4f
set_option linter.unusedVariables false
set_option linter.unusedSimpArgs false
set_option maxRecDepth 20000
set_option maxHeartbeats 20000000
namespace Go.Proofs.YtecnmodeggnjoaaGreat.Ac
open Go.RowKit
noncomputable def akF (d : Dc) (t : Tb) (y : Ho) : Tb × List Ho × List Int × Int :=
  if (ndAt d.nodes y.node).isSome then (if 1 ≤ y.mode ∧ y.mode ≤ 5 then (if waitF t y.session < 0 then lkF d t y else (t, [], [], 17)) else (t, [], [], 19)) else (t, [], [], 5)
def inOrd (d : Dc) (t : Tb) (y : Ho) : Prop := (ndAt d.nodes y.node).isSome ∧ (1 ≤ y.mode ∧ y.mode ≤ 5) ∧ waitF t y.session < 0 ∧ ¬ joinM (ownF t.holds y.session y.node) y.mode = ownF t.holds y.session y.node ∧ ¬ ((putF t.holds y).length > 30 ∨ t.waits.length = 6)
noncomputable def akU (d : Dc) (t : Tb) (y : Ho) : List Ho := if dB (inOrd d t y) then tailF (setK d (vcT d t y) 0).2 (vicK d y.session fU (askT t y) []) else []
noncomputable def akV (d : Dc) (t : Tb) (y : Ho) : List Ho := if dB (inOrd d t y) then List.replicate (setK d (vcT d t y) 0).2.length zHo' ++ vicK d y.session fW (askT t y) [] else []
theorem ask_ok (d : Dc) (hd : DOK d) (t : Tb) (ht : TabP d t) (y : Ho) (h64 : I64 y.node) : GCalls Tryz.prog 99 [(1, some ⟨3, 2, [[.row 2 0 t.holds.length, .row 3 0 t.waits.length]]⟩), (2, some ⟨0, 3, t.holds.map hoW⟩), (3, some ⟨0, 3, t.waits.map hoW⟩), (4, some ⟨3, 3, [(dcL d).map .f]⟩)] [(false, [.pt 4 0 0]), (false, [.pt 1 0 0]), (true, hoW y)]
    [(1, some ⟨3, 2, [[.row 1000 0 (akF d t y).1.holds.length, .row 1001 0 (akF d t y).1.waits.length]]⟩), (2, none), (3, none), (4, some ⟨3, 3, [(dcL d).map .f]⟩), (1000, some ⟨0, 3, ((akF d t y).1.holds ++ akU d t y).map hoW⟩), (1001, some ⟨0, 3, ((akF d t y).1.waits ++ akV d t y).map hoW⟩), (1002, some ⟨0, 3, (akF d t y).2.1.map hoW⟩), (1003, some ⟨0, 1, (akF d t y).2.2.1.map intW⟩)]
    [(false, [.row 1002 0 (akF d t y).2.1.length]), (false, [.row 1003 0 (akF d t y).2.2.1.length]), (false, [.f (iL (akF d t y).2.2.2)])] := by
  have hf := has_ok d y.node hd.rise h64 (by have := hd.len; omega)
  have h1 := ht.1.1
  have h2 := ht.2.1
  have hG := ht.g
  by_cases k1 : (ndAt d.nodes y.node).isSome
  case neg =>
    have e1 : akF d t y = (t, [], [], 5) := by unfold akF; rw [if_neg k1]
    have e2 : akU d t y = [] := by unfold akU; rw [dB_no fun w => k1 w.1]; rfl
    have e3 : akV d t y = [] := by unfold akV; rw [dB_no fun w => k1 w.1]; rfl
    rw [e1, e2, e3, List.append_nil, List.append_nil]
    rw [Bool.eq_false_iff.2 k1] at hf
    refine gr Tryz.func99 Tryz.ntmps99 (⟨trivial, trivial, cl_hos _, cl_hos _, trivial, trivial, trivial⟩) ?_
    refine ⟨⟨true, [], _, _, _, _⟩, hf, cd ?_⟩
    exact ⟨[], [(1000, 2), (1001, 3), (1002, 7), (1003, 8)], don⟩
  rw [k1] at hf
  by_cases k2 : 1 ≤ y.mode ∧ y.mode ≤ 5
  case neg =>
    have e1 : akF d t y = (t, [], [], 19) := by unfold akF; rw [if_pos k1, if_neg k2]
    have e2 : akU d t y = [] := by unfold akU; rw [dB_no fun w => k2 w.2.1]; rfl
    have e3 : akV d t y = [] := by unfold akV; rw [dB_no fun w => k2 w.2.1]; rfl
    rw [e1, e2, e3, List.append_nil, List.append_nil]
    refine gr Tryz.func99 Tryz.ntmps99 (⟨trivial, trivial, cl_hos _, cl_hos _, trivial, trivial, trivial⟩) ?_
    refine ⟨⟨true, [], _, _, _, _⟩, hf, cd ?_⟩
    refine ⟨([], _), (isMode_ok y.mode 1).n k2, nx ?_⟩
    exact ⟨[], [(1000, 2), (1001, 3), (1002, 7), (1003, 8)], don⟩
  have hw := waiting_ok t y.session (by omega)
  by_cases k3 : waitF t y.session < 0
  case neg =>
    have e1 : akF d t y = (t, [], [], 17) := by unfold akF; rw [if_pos k1, if_pos k2, if_neg k3]
    have e2 : akU d t y = [] := by unfold akU; rw [dB_no fun w => k3 w.2.2.1]; rfl
    have e3 : akV d t y = [] := by unfold akV; rw [dB_no fun w => k3 w.2.2.1]; rfl
    rw [e1, e2, e3, List.append_nil, List.append_nil]
    refine gr Tryz.func99 Tryz.ntmps99 (⟨trivial, trivial, cl_hos _, cl_hos _, trivial, trivial, trivial⟩) ?_
    refine ⟨⟨true, [], _, _, _, _⟩, hf, cd ?_⟩
    refine ⟨([], _), (isMode_ok y.mode 1).t k2, nx ?_⟩
    refine ⟨⟨true, [], _, _, _, _⟩, hw, cd ?_⟩
    refine ⟨fun h => nx ?_, fun h => absurd h (by omega)⟩
    exact ⟨[], [(1000, 2), (1001, 3), (1002, 7), (1003, 8)], don⟩
  have ho := own_ok t.holds y.session y.node (by omega)
  have hj := joined_ok (ownF t.holds y.session y.node) y.mode
  have e0 : akF d t y = lkF d t y := by unfold akF; rw [if_pos k1, if_pos k2, if_pos k3]
  by_cases k4 : joinM (ownF t.holds y.session y.node) y.mode = ownF t.holds y.session y.node
  · have e1 : akF d t y = (t, [], [], 0) := by rw [e0]; unfold lkF; rw [if_pos k4]
    have e2 : akU d t y = [] := by unfold akU; rw [dB_no fun w => w.2.2.2.1 k4]; rfl
    have e3 : akV d t y = [] := by unfold akV; rw [dB_no fun w => w.2.2.2.1 k4]; rfl
    rw [e1, e2, e3, List.append_nil, List.append_nil]
    refine gr Tryz.func99 Tryz.ntmps99 (⟨trivial, trivial, cl_hos _, cl_hos _, trivial, trivial, trivial⟩) ?_
    refine ⟨⟨true, [], _, _, _, _⟩, hf, cd ?_⟩
    refine ⟨([], _), (isMode_ok y.mode 1).t k2, nx ?_⟩
    refine ⟨⟨true, [], _, _, _, _⟩, hw, cd ?_⟩
    refine ⟨fun h => absurd h (by omega), fun h => nx ?_⟩
    refine ⟨⟨true, [], _, _, _, _⟩, ho, cd ?_⟩
    refine ⟨([], _), hj, nx ?_⟩
    refine ⟨fun h => nx ?_, fun h => absurd h (fun w => w k4)⟩
    exact ⟨[], [(1000, 2), (1001, 3), (1002, 7), (1003, 8)], don⟩
  have hp := put_ok t.holds y hG.rise (by omega)
  by_cases k5 : (putF t.holds y).length > 30 ∨ t.waits.length = 6
  · have e1 : akF d t y = (t, [], [], 7) := by rw [e0]; unfold lkF; rw [if_neg k4, if_pos k5]
    have e2 : akU d t y = [] := by unfold akU; rw [dB_no fun w => w.2.2.2.2 k5]; rfl
    have e3 : akV d t y = [] := by unfold akV; rw [dB_no fun w => w.2.2.2.2 k5]; rfl
    rw [e1, e2, e3, List.append_nil, List.append_nil]
    refine gr Tryz.func99 Tryz.ntmps99 (⟨trivial, trivial, cl_hos _, cl_hos _, trivial, trivial, trivial⟩) ?_
    refine ⟨⟨true, [], _, _, _, _⟩, hf, cd ?_⟩
    refine ⟨([], _), (isMode_ok y.mode 1).t k2, nx ?_⟩
    refine ⟨⟨true, [], _, _, _, _⟩, hw, cd ?_⟩
    refine ⟨fun h => absurd h (by omega), fun h => nx ?_⟩
    refine ⟨⟨true, [], _, _, _, _⟩, ho, cd ?_⟩
    refine ⟨([], _), hj, nx ?_⟩
    refine ⟨fun h => absurd h (k4), fun h => nx ?_⟩
    refine ⟨⟨true, [], _, _, _, _⟩, hp, cd ?_⟩
    by_cases k6 : (putF t.holds y).length > 30
    · refine ⟨fun h => nx ?_, fun h => absurd h (by omega)⟩
      exact ⟨[], [(1000, 2), (1001, 3), (1002, 7), (1003, 8)], don⟩
    · have k7 := k5.resolve_left k6
      refine ⟨fun h => absurd h (by omega), fun h => nx ?_⟩
      refine ⟨fun h => nx ?_, fun h => absurd h (by omega)⟩
      exact ⟨[], [(1000, 2), (1001, 3), (1002, 7), (1003, 8)], don⟩
  have e2 : akU d t y = tailF (setK d (vcT d t y) 0).2 (vicK d y.session fU (askT t y) []) := by unfold akU; rw [dB_yes ⟨k1, k2, k3, k4, k5⟩]; rfl
  have e3 : akV d t y = List.replicate (setK d (vcT d t y) 0).2.length zHo' ++ vicK d y.session fW (askT t y) [] := by unfold akV; rw [dB_yes ⟨k1, k2, k3, k4, k5⟩]; rfl
  have e1 : akF d t y = ((setK d (vcT d t y) 0).1, (setK d (vcT d t y) 0).2, vcV d t y, if y.session ∈ vcV d t y then 15 else if waitF (setK d (vcT d t y) 0).1 y.session < 0 then 0 else 14) := by rw [e0]; unfold lkF; rw [if_neg k4, if_neg k5]
  rw [e1, e2, e3]
  dsimp only
  have hT := ask_tabG hG (by omega) k1 (show Md y.mode by unfold Md; omega)
  have q0 : vcT d t y = vicK d y.session fT (askT t y) (askT t y) := rfl
  have q1 : vcV d t y = vicK d y.session fV (askT t y) [] := rfl
  have q2 : t.holds.map hoW = ((askT t y).holds ++ []).map hoW := by rw [List.append_nil]; rfl
  have q3 : (t.waits ++ [y]).map hoW = ((askT t y).waits ++ []).map hoW := by rw [List.append_nil]; rfl
  have q4 : (askT t y).waits.length = t.waits.length + 1 := by show (t.waits ++ [y]).length = _; simp
  have q5 : ((t.waits ++ [y]).map hoW).length = (askT t y).waits.length := by rw [q4]; simp
  refine gr Tryz.func99 Tryz.ntmps99 (⟨trivial, trivial, cl_hos _, cl_hos _, cl_hos _, cl_ints _, trivial⟩) ?_
  refine ⟨⟨true, [], _, _, _, _⟩, hf, cd ?_⟩
  refine ⟨([], _), (isMode_ok y.mode 1).t k2, nx ?_⟩
  refine ⟨⟨true, [], _, _, _, _⟩, hw, cd ?_⟩
  refine ⟨fun h => absurd h (by omega), fun h => nx ?_⟩
  refine ⟨⟨true, [], _, _, _, _⟩, ho, cd ?_⟩
  refine ⟨([], _), hj, nx ?_⟩
  refine ⟨fun h => absurd h (k4), fun h => nx ?_⟩
  refine ⟨⟨true, [], _, _, _, _⟩, hp, cd ?_⟩
  refine ⟨fun h => absurd h (by omega), fun h => nx ?_⟩
  refine ⟨fun h => absurd h (by omega), fun h => nx ?_⟩
  refine ⟨(t.waits ++ [y]).map hoW, ⟨app_one hoW t.waits y, by simp; omega⟩, nx ?_⟩
  (refine ⟨fun m es hs => ∃ (T : Tb) (vs : List Int) (u v : List Ho), (m = T.waits.length) ∧ (vcT d t y = vicK d y.session fT T T) ∧ (vcV d t y = vicK d y.session fV T vs) ∧ (vicK d y.session fU (askT t y) [] = vicK d y.session fU T u) ∧ (vicK d y.session fW (askT t y) [] = vicK d y.session fW T v) ∧ (TabG d T) ∧ (vs.length + T.waits.length ≤ 7) ∧ es = [(10, .val false [.row 6 0 vs.length]), (5, .val false [.pt 96 0 0]), (1, .val false [.pt 1 0 0]), (0, .val false [.pt 4 0 0])] ∧ hs = [(1, some ⟨3, 2, [[.row 2 0 T.holds.length, .row 5 0 T.waits.length]]⟩), (2, some ⟨0, 3, (T.holds ++ u).map hoW⟩), (3, none), (4, some ⟨3, 3, [(dcL d).map .f]⟩), (5, some ⟨0, 3, (T.waits ++ v).map hoW⟩), (6, some ⟨0, 1, vs.map intW⟩), (96, some ⟨3, 3, [(hoL y).map .f]⟩)], ⟨(askT t y).waits.length, [], [(5, 1152), (6, 7)], _, _, don, (askT t y), ([]), ([]), ([]), don, don, don, don, don, don, don, rfl, rfl⟩, ?_⟩; rintro m _ _ ⟨T, vs, u, v, hASK0, hASK1, hASK2, hASK3, hASK4, hASK5, hASK6, rfl, rfl⟩; refine nx ?_)
  have hgl := hASK5.hg.len
  refine ⟨⟨true, [], _, _, _, _⟩, circle_ok d hd T hASK5 y.session, cd ?_⟩
  by_cases hc : circF d T y.session = []
  · rw [vic_end hc] at hASK1 hASK2 hASK3 hASK4
    rw [hASK1, hASK2, hASK3, hASK4]
    have hR := setK_tabG (d := d) (setN T 0 + 1) T 0 (Nat.lt_succ_self _) hASK5
    have hR2 := hR.1.wl
    refine ⟨fun h => nx ?_, fun h => absurd h (by rw [hc]; simp)⟩
    refine ⟨⟨false, [(1, 1), (2, 2), (3, 5), (4, 4)], _, _, _, _⟩, settle_ok d hd T hASK5 u v, cd ?_⟩
    have hcn := contains_ok vs y.session (by omega)
    by_cases k6 : y.session ∈ vs
    · rw [if_pos k6]
      refine ⟨⟨true, [], _, _, _, _⟩, hcn.t k6, cd ?_⟩
      exact ⟨[], [(1000, 1568), (1001, 5), (1002, 1569), (1003, 6)], don⟩
    rw [if_neg k6]
    refine ⟨⟨true, [], _, _, _, _⟩, hcn.n k6, cd ?_⟩
    refine ⟨⟨true, [], _, _, _, _⟩, waiting_ok (setK d T 0).1 y.session (by omega), cd ?_⟩
    by_cases k7 : waitF (setK d T 0).1 y.session < 0
    · rw [if_pos k7]
      refine ⟨fun h => nx ?_, fun h => absurd h (by omega)⟩
      exact ⟨[], [(1000, 1568), (1001, 5), (1002, 1569), (1003, 6)], don⟩
    · rw [if_neg k7]
      refine ⟨fun h => absurd h (by omega), fun h => nx ?_⟩
      exact ⟨[], [(1000, 1568), (1001, 5), (1002, 1569), (1003, 6)], don⟩
  have hlt := vic_lt hc
  have hp := List.length_pos_iff.2 hc
  have hcl : (circF d T y.session).length < 2 ^ 62 := Nat.lt_of_le_of_lt (List.length_filter_le _ _) (by rw [sortI_len]; exact reach_len d hASK5 _)
  rw [vic_step hc] at hASK1 hASK2 hASK3 hASK4
  have hi : (circF d T y.session).length - 1 < (circF d T y.session).length := by omega
  have hx : (circF d T y.session)[(circF d T y.session).length - 1] = vicA d T y.session := by unfold vicA; rw [List.getLastD_eq_getLast?, List.getLast?_eq_getElem?, List.getElem?_eq_getElem hi]; rfl
  have q6 : (vs ++ [vicA d T y.session]).length + (leaveF T (vicA d T y.session)).waits.length ≤ 7 := by simp; omega
  refine ⟨fun h => absurd h (by omega), fun h => nx ?_⟩
  refine ⟨(circF d T y.session).length - 1, ⟨by rw [IntKind.wrap_i64]; omega, hi⟩, nx ?_⟩
  refine ⟨intW (vicA d T y.session), by rw [← hx]; exact app_get_left hi, nx ?_⟩
  refine ⟨⟨false, [(1, 1), (2, 2), (3, 5)], _, _, _, _⟩, leave_ok T (vicA d T y.session) (by omega) (by omega) u v, cd ?_⟩
  refine ⟨(vs ++ [vicA d T y.session]).map intW, ⟨app_one intW vs (vicA d T y.session), by simp; omega⟩, nx ?_⟩
  have hTG := leave_tabG (vicA d T y.session) hASK5
  exact ⟨(leaveF T (vicA d T y.session)).waits.length, [], [(6, 1520)], _, _, by omega, don, (leaveF T (vicA d T y.session)), (vs ++ [vicA d T y.session]), (cutT T.holds (witF (vicA d T y.session) T.holds) u), (cutT T.waits (witF (vicA d T y.session) T.waits) v), don, don, don, don, don, don, don, rfl, rfl⟩
end Go.Proofs.YtecnmodeggnjoaaGreat.Ac
set_option linter.unusedVariables false
set_option linter.unusedSimpArgs false
set_option maxRecDepth 20000
set_option maxHeartbeats 2000000
namespace Go.Proofs.YtecnmodeggnjoaaGreat.Ac
open Go.RowKit
theorem eqIntS_refl (x : List Int) (hx : x.length < 2 ^ 62) : FC Tryz.prog 22 [(false, [ints x]), (false, [ints x])] [] [(false, [.f (bL true)])] := by
  refine en Tryz.func22 Tryz.ntmps22 trivial ?_
  refine nw ?_
  refine ⟨fun h => absurd rfl h, fun h => ?_⟩
  refine nw ?_
  refine ⟨fun (m : Nat) (es : Es) (hs : Hs) => ∃ i : Nat, m + i = x.length ∧ es = [(5, .val false [.f (iL i)]), (1, .val false [.f (ints x)]), (0, .val false [.f (ints x)])] ∧ hs = [],
    ⟨x.length, [], [], _, _, ⟨?_, ?_, ?_⟩, 0, rfl, rfl, rfl⟩, ?_⟩
  · rfl
  · exact tel
  · exact tel
  rintro m es hs ⟨i, hm, rfl, rfl⟩
  refine nw ?_
  refine ⟨fun h => ?_, fun h => ?_⟩
  · have hi : i < x.length := by simpa using h
    refine nw ?_
    refine ⟨by kernel_rfl, ?_⟩
    refine nw ?_
    refine ⟨(i, intE x[i]), ⟨rfl, by simp [hi]⟩, ?_⟩
    refine nw ?_
    refine ⟨(i, intE x[i]), ⟨rfl, by simp [hi]⟩, ?_⟩
    refine nw ?_
    refine ⟨fun k => absurd rfl k, fun k => ?_⟩
    refine nw ?_
    refine ⟨by kernel_rfl, ?_⟩
    refine nw ?_
    refine ⟨m - 1, [], [], [(5, .val false [.f (iL (i + 1 : Nat))]), (1, .val false [.f (ints x)]), (0, .val false [.f (ints x)])], [], by omega, ⟨?_, ?_, ?_⟩, i + 1, by omega, rfl, rfl⟩
    · rfl
    · refine tel1 ?_
      exact wrap_suc (by omega)
    · exact tel
  · refine nw ?_
    refine ⟨[], [], ?_⟩
    exact tel
theorem eqNode_refl (n : Nd) (hk : n.kids.length < 2 ^ 62) : FC Tryz.prog 169 [(true, ndL n), (true, ndL n)] [] [(false, [.f (bL true)])] := by
  refine en Tryz.func169 Tryz.ntmps169 trivial ?_
  refine nw ?_
  refine ⟨fun h => absurd rfl h, fun h => ?_⟩
  refine nw ?_
  refine ⟨fun h => absurd rfl h, fun h => ?_⟩
  refine nw ?_
  refine ⟨fun h => absurd rfl h, fun h => ?_⟩
  refine nw ?_
  refine ⟨fun h => absurd rfl h, fun h => ?_⟩
  refine nw ?_
  refine ⟨([], _), eqIntS_refl n.kids hk, ?_⟩
  refine nw ?_
  refine ⟨[], [], ?_⟩
  exact tel
theorem eqNodeS_refl (x : List Nd) (hx : x.length < 2 ^ 62) (hk : ∀ n ∈ x, n.kids.length < 2 ^ 62) : FC Tryz.prog 85 [(false, [nds x]), (false, [nds x])] [] [(false, [.f (bL true)])] := by
  refine en Tryz.func85 Tryz.ntmps85 trivial ?_
  refine nw ?_
  refine ⟨fun h => absurd rfl h, fun h => ?_⟩
  refine nw ?_
  refine ⟨fun (m : Nat) (es : Es) (hs : Hs) => ∃ i : Nat, m + i = x.length ∧ es = [(5, .val false [.f (iL i)]), (1, .val false [.f (nds x)]), (0, .val false [.f (nds x)])] ∧ hs = [],
    ⟨x.length, [], [], _, _, ⟨?_, ?_, ?_⟩, 0, rfl, rfl, rfl⟩, ?_⟩
  · rfl
  · exact tel
  · exact tel
  rintro m es hs ⟨i, hm, rfl, rfl⟩
  refine nw ?_
  refine ⟨fun h => ?_, fun h => ?_⟩
  · have hi : i < x.length := by simpa using h
    refine nw ?_
    refine ⟨by kernel_rfl, ?_⟩
    refine nw ?_
    refine ⟨(i, ndL x[i]), ⟨rfl, by simp [hi]⟩, ?_⟩
    refine nw ?_
    refine ⟨(i, ndL x[i]), ⟨rfl, by simp [hi]⟩, ?_⟩
    refine nw ?_
    refine ⟨([], _), eqNode_refl x[i] (hk _ (List.getElem_mem _)), ?_⟩
    refine nw ?_
    refine ⟨by kernel_rfl, ?_⟩
    refine nw ?_
    refine ⟨m - 1, [], [], [(5, .val false [.f (iL (i + 1 : Nat))]), (1, .val false [.f (nds x)]), (0, .val false [.f (nds x)])], [], by omega, ⟨?_, ?_, ?_⟩, i + 1, by omega, rfl, rfl⟩
    · rfl
    · refine tel1 ?_
      exact wrap_suc (by omega)
    · exact tel
  · refine nw ?_
    refine ⟨[], [], ?_⟩
    exact tel
theorem eqDoc_refl (d : Dc) (hx : d.nodes.length < 2 ^ 62) (hk : ∀ n ∈ d.nodes, n.kids.length < 2 ^ 62) : FC Tryz.prog 23 [(true, dcL d), (true, dcL d)] [] [(false, [.f (bL true)])] := by
  refine en Tryz.func23 Tryz.ntmps23 trivial ?_
  refine nw ?_
  refine ⟨fun h => absurd rfl h, fun h => ?_⟩
  refine nw ?_
  refine ⟨fun h => absurd rfl h, fun h => ?_⟩
  refine nw ?_
  refine ⟨([], _), eqNodeS_refl d.nodes hx hk, ?_⟩
  refine nw ?_
  refine ⟨[], [], ?_⟩
  exact tel
theorem szIntS_ok (x : List Int) (left : Int) (h0 : 0 ≤ left ∧ left ≤ 2 ^ 20) (hx : x.length < 2 ^ 63) : FC Tryz.prog 241 [(false, [ints x]), (false, [iL left])] [] [(false, [.f (iL (szL x.length left))])] := by
  have hw : IntKind.i64.wrap (left - ((x.map intE).length : Int)) = left - x.length := by rw [IntKind.wrap_i64]; simp; omega
  refine en Tryz.func241 Tryz.ntmps241 trivial ?_
  refine nw ?_
  rw [hw]
  refine ⟨fun h => ?_, fun h => ?_⟩
  · refine nw ?_
    refine ⟨[], [], ?_⟩
    refine tel1 ?_
    unfold szL; rw [if_neg (by omega)]
  · refine nw ?_
    refine ⟨[], [], ?_⟩
    refine tel1 ?_
    unfold szL; rw [if_pos (by omega)]
theorem szNode_ok (n : Nd) (left : Int) (h0 : 0 ≤ left ∧ left ≤ 2 ^ 20) (hs : n.text.size < 2 ^ 63) (hk : n.kids.length < 2 ^ 63) : FC Tryz.prog 157 [(true, ndL n), (false, [iL left])] [] [(false, [.f (iL (szL (szN n) left))])] := by
  have hw : IntKind.i64.wrap (left - (n.text.size : Int)) = left - n.text.size := by rw [IntKind.wrap_i64]; omega
  refine en Tryz.func157 Tryz.ntmps157 trivial ?_
  refine nw ?_
  rw [hw]
  refine ⟨fun h => ?_, fun h => ?_⟩
  · refine nw ?_
    refine ⟨[], [], ?_⟩
    refine tel1 ?_
    unfold szL szN; rw [if_neg (by omega)]
  · refine nw ?_
    have hc := szIntS_ok n.kids (left - n.text.size) (by omega) hk
    refine ⟨([], _), hc, ?_⟩
    refine nw ?_
    refine ⟨fun h => ?_, fun h => ?_⟩
    · refine nw ?_
      refine ⟨[], [], ?_⟩
      refine tel1 ?_
      unfold szL at h ⊢
      unfold szN
      split at h <;> omega
    · refine nw ?_
      refine ⟨[], [], ?_⟩
      refine tel1 ?_
      unfold szL at h ⊢
      unfold szN
      split at h <;> omega
theorem szNodeS_ok (x : List Nd) (left : Int) (h0 : 0 ≤ left ∧ left ≤ 2 ^ 20) (hx : x.length < 2 ^ 63) (hs : ∀ n ∈ x, n.text.size < 2 ^ 63) (hk : ∀ n ∈ x, n.kids.length < 2 ^ 63) : FC Tryz.prog 74 [(false, [nds x]), (false, [iL left])] [] [(false, [.f (iL (szL (x.length + szNs x) left))])] := by
  have hw : IntKind.i64.wrap (left - ((x.map ndL).length : Int)) = left - x.length := by rw [IntKind.wrap_i64]; simp; omega
  refine en Tryz.func74 Tryz.ntmps74 trivial ?_
  refine nw ?_
  rw [hw]
  refine ⟨fun h => ?_, fun h => ?_⟩
  · refine nw ?_
    refine ⟨[], [], ?_⟩
    refine tel1 ?_
    unfold szL; rw [if_neg (by omega)]
  · have h1 := h
    refine nw ?_
    refine ⟨fun (m : Nat) (es : Es) (hs : Hs) => ∃ (i : Nat) (lf : Int), m + i = x.length ∧ 0 ≤ lf ∧ lf ≤ 2 ^ 20 ∧ szL (szNs (x.drop i)) lf = szL (x.length + szNs x) left ∧ es = [(5, .val false [.f (iL i)]), (1, .val false [.f (iL lf)]), (0, .val false [.f (nds x)])] ∧ hs = [],
      ⟨x.length, [], [], _, _, ⟨?_, ?_, ?_⟩, 0, left - x.length, rfl, by omega, by omega, ?_, rfl, rfl⟩, ?_⟩
    · rfl
    · exact tel
    · exact tel
    · rw [List.drop_zero]; unfold szL; split <;> split <;> omega
    rintro m es hs' ⟨i, lf, hm, hl0, hl1, hsz, rfl, rfl⟩
    refine nw ?_
    refine ⟨fun h => ?_, fun h => ?_⟩
    · have hi : i < x.length := by simpa using h
      rw [List.drop_eq_getElem_cons hi, szNs_cons] at hsz
      have hc := szNode_ok x[i] lf ⟨hl0, hl1⟩ (hs _ (List.getElem_mem _)) (hk _ (List.getElem_mem _))
      refine nw ?_
      refine ⟨(i, ndL x[i]), ⟨rfl, by simp [hi]⟩, ?_⟩
      refine nw ?_
      refine ⟨([], _), hc, ?_⟩
      refine nw ?_
      refine ⟨fun h => ?_, fun h => ?_⟩
      · refine nw ?_
        refine ⟨[], [], ?_⟩
        refine tel1 ?_
        rw [← hsz]
        unfold szL at h ⊢
        split at h <;> omega
      · refine nw ?_
        refine ⟨m - 1, [], [], [(5, .val false [.f (iL (i + 1 : Nat))]), (1, .val false [.f (iL (szL (szN x[i]) lf))]), (0, .val false [.f (nds x)])], [], by omega, ⟨?_, ?_, ?_⟩, i + 1, szL (szN x[i]) lf, by omega, by omega, ?_, ?_, rfl, rfl⟩
        · rfl
        · refine tel1 ?_
          exact wrap_suc (by have := Int.not_lt.1 h1; omega)
        · exact tel
        · unfold szL; split <;> omega
        · rw [← hsz]
          unfold szL at h ⊢
          split at h <;> split <;> split <;> omega
    · have hi : x.length ≤ i := by simpa using h
      refine nw ?_
      refine ⟨[], [], ?_⟩
      refine tel1 ?_
      rw [← hsz, List.drop_eq_nil_of_le hi]
      unfold szL szNs
      simp; omega
theorem szDoc_ok (d : Dc) (left : Int) (h0 : 0 ≤ left ∧ left ≤ 2 ^ 20) (hx : d.nodes.length < 2 ^ 63) (hs : ∀ n ∈ d.nodes, n.text.size < 2 ^ 63) (hk : ∀ n ∈ d.nodes, n.kids.length < 2 ^ 63) : FC Tryz.prog 15 [(true, dcL d), (false, [iL left])] [] [(false, [.f (iL (szL (szD d) left))])] := by
  refine en Tryz.func15 Tryz.ntmps15 trivial ?_
  refine nw ?_
  refine ⟨([], _), szNodeS_ok d.nodes left h0 hx hs hk, ?_⟩
  refine nw ?_
  refine ⟨fun h => ?_, fun h => ?_⟩
  · refine nw ?_
    refine ⟨[], [], ?_⟩
    refine tel1 ?_
    unfold szL at h ⊢
    unfold szD
    split at h <;> omega
  · refine nw ?_
    refine ⟨[], [], ?_⟩
    exact tel
end Go.Proofs.YtecnmodeggnjoaaGreat.Ac
set_option linter.unusedVariables false
set_option linter.unusedSimpArgs false
set_option maxRecDepth 20000
set_option maxHeartbeats 2000000
namespace Go.Proofs.YtecnmodeggnjoaaGreat.Ac
open Go.RowKit
theorem fill_set {α : Type} {f : α → List A} {z : List A} {x : List α} {i : Nat} (hi : i < x.length) : (((x.take i).map f) ++ List.replicate (x.length - i) z).set i (f x[i]) = (x.take (i + 1)).map f ++ List.replicate (x.length - (i + 1)) z := by
  have h1 : ((x.take i).map f).length = i := by simp; omega
  rw [List.set_append_right _ _ (by omega), h1, Nat.sub_self, show x.length - i = (x.length - (i + 1)) + 1 by omega, List.replicate_succ, List.set_cons_zero, List.take_succ_eq_append_getElem hi, List.map_append, List.append_assoc]
  rfl
theorem fill_get {α : Type} {f : α → List A} {z : List A} {x : List α} {i : Nat} (hi : i < x.length) : (((x.take i).map f) ++ List.replicate (x.length - i) z)[i]? = some z := by
  have h1 : ((x.take i).map f).length = i := by simp; omega
  rw [List.getElem?_append_right (by omega), h1, Nat.sub_self, show x.length - i = (x.length - (i + 1)) + 1 by omega, List.replicate_succ]
  rfl
theorem cl_rep {e : List A} (n : Nat) (h : clC e) : clR (List.replicate n e) := by
  induction n with
  | zero => trivial
  | succ n ih => exact ⟨h, ih⟩
theorem toIntS_ok (x : List Int) (hx : x.length < 2 ^ 28) : FC Tryz.prog 248 [(false, [ints x])] [(1000, some ⟨0, 1, x.map intW⟩)] [(false, [.row 1000 0 x.length])] := by
  refine en Tryz.func248 Tryz.ntmps248 (⟨cl_ints _, trivial⟩) ?_
  refine nw ?_
  refine ⟨(x.length, x.length), ⟨by simp, by simp, Nat.le_refl _, by dsimp only; omega⟩, ?_⟩
  refine nw ?_
  refine ⟨fun (m : Nat) (es : Es) (hs : Hs) => ∃ i : Nat, m + i = x.length ∧ es = [(4, .val false [.f (iL i)]), (3, .val false [.row 3 0 x.length]), (0, .val false [.f (ints x)])] ∧ hs = [(3, some ⟨0, 1, (x.take i).map intW ++ List.replicate (x.length - i) (intW 0)⟩)],
    ⟨x.length, [], [(3, 128)], _, _, ⟨?_, ?_, ?_⟩, 0, rfl, rfl, rfl⟩, ?_⟩
  · rfl
  · exact tel
  · refine tel1 ?_
    exact cl_app (cl_ints _) (cl_rep x.length ⟨trivial, trivial⟩)
  rintro m es hs ⟨i, hm, rfl, rfl⟩
  refine nw ?_
  refine ⟨fun h => ?_, fun h => ?_⟩
  · have hi : i < x.length := by simpa using h
    refine nw ?_
    refine ⟨(i, intE x[i]), ⟨rfl, by simp [hi]⟩, ?_⟩
    refine nw ?_
    refine ⟨i, ⟨rfl, hi⟩, ?_⟩
    refine nw ?_
    refine ⟨intW 0, fill_get hi, ?_⟩
    refine nw ?_
    refine ⟨m - 1, [], [], [(4, .val false [.f (iL (i + 1 : Nat))]), (3, .val false [.row 3 0 x.length]), (0, .val false [.f (ints x)])], [(3, some ⟨0, 1, (x.take (i + 1)).map intW ++ List.replicate (x.length - (i + 1)) (intW 0)⟩)], by omega, ⟨?_, ?_, ?_⟩, i + 1, by omega, rfl, rfl⟩
    · rfl
    · refine tel1 ?_
      exact wrap_suc (by omega)
    · refine tel2 ?_ ?_
      · exact fill_set (f := intW) hi
      · exact cl_app (cl_ints _) (cl_rep _ ⟨trivial, trivial⟩)
  · have hi : x.length ≤ i := by simpa using h
    have e : (x.take i).map intW ++ List.replicate (x.length - i) (intW 0) = x.map intW := by rw [List.take_of_length_le hi, show x.length - i = 0 by omega]; simp
    rw [e]
    refine nw ?_
    refine ⟨[], [(1000, 3)], ?_⟩
    exact tel
theorem toNode_ok (n : Nd) (hk : n.kids.length < 2 ^ 28) : FC Tryz.prog 162 [(true, ndL n)] [(1000, some ⟨0, 1, n.kids.map intW⟩)] [(true, [.f (iL n.id), .f (iL n.kind), .f (iL n.attr), .f (sL n.text), .row 1000 0 n.kids.length])] := by
  refine en Tryz.func162 Tryz.ntmps162 (⟨cl_ints _, trivial⟩) ?_
  refine nw ?_
  refine ⟨(_, _), toIntS_ok n.kids hk, ?_⟩
  refine nw ?_
  refine ⟨[], [(1000, 304)], ?_⟩
  exact tel
@[reducible] def zNd : List A := [.f (iL 0), .f (iL 0), .f (iL 0), .f (sL ⟨#[]⟩), .nl]
theorem toNodeS_ok (x : List Nd) (hx : x.length < 2 ^ 28) (hk : ∀ n ∈ x, n.kids.length < 2 ^ 28) : FC Tryz.prog 79 [(false, [nds x])] [(1000, some ⟨0, 5, x.map ndW⟩)] [(false, [.row 1000 0 x.length])] := by
  refine en Tryz.func79 Tryz.ntmps79 (⟨cl_nds _, trivial⟩) ?_
  refine nw ?_
  refine ⟨(x.length, x.length), ⟨by simp, by simp, Nat.le_refl _, by dsimp only; omega⟩, ?_⟩
  refine nw ?_
  refine ⟨fun (m : Nat) (es : Es) (hs : Hs) => ∃ i : Nat, m + i = x.length ∧ es = [(4, .val false [.f (iL i)]), (3, .val false [.row 3 0 x.length]), (0, .val false [.f (nds x)])] ∧ hs = [(3, some ⟨0, 5, (x.take i).map ndW ++ List.replicate (x.length - i) zNd⟩)],
    ⟨x.length, [], [(3, 128)], _, _, ⟨?_, ?_, ?_⟩, 0, rfl, rfl, rfl⟩, ?_⟩
  · rfl
  · exact tel
  · refine tel1 ?_
    exact cl_app (cl_nds _) (cl_rep x.length ⟨trivial, trivial, trivial, trivial, trivial, trivial⟩)
  rintro m es hs ⟨i, hm, rfl, rfl⟩
  refine nw ?_
  refine ⟨fun h => ?_, fun h => ?_⟩
  · have hi : i < x.length := by simpa using h
    refine nw ?_
    refine ⟨(i, ndL x[i]), ⟨rfl, by simp [hi]⟩, ?_⟩
    refine nw ?_
    refine ⟨(_, _), toNode_ok x[i] (hk _ (List.getElem_mem _)), ?_⟩
    refine nw ?_
    refine ⟨i, ⟨rfl, hi⟩, ?_⟩
    refine nw ?_
    refine ⟨zNd, fill_get hi, ?_⟩
    refine nw ?_
    refine ⟨m - 1, [(336, 3, i, 4)], [], [(4, .val false [.f (iL (i + 1 : Nat))]), (3, .val false [.row 3 0 x.length]), (0, .val false [.f (nds x)])], [(3, some ⟨0, 5, (x.take (i + 1)).map ndW ++ List.replicate (x.length - (i + 1)) zNd⟩)], by omega, ?_, i + 1, by omega, rfl, rfl⟩
    refine nw ?_
    refine ⟨_, List.getElem?_set_self (by simp; omega), ?_⟩
    refine nw ?_
    refine ⟨x[i].kids.map intW, by rw [List.take_of_length_le (by simp)], ?_⟩
    refine nw ?_
    refine ⟨?_, ?_, ?_⟩
    · rfl
    · refine tel1 ?_
      exact wrap_suc (by omega)
    · refine tel2 ?_ ?_
      · rw [List.set_set]
        exact fill_set (f := ndW) hi
      · exact cl_app (cl_nds _) (cl_rep _ ⟨trivial, trivial, trivial, trivial, trivial, trivial⟩)
  · have hi : x.length ≤ i := by simpa using h
    have e : (x.take i).map ndW ++ List.replicate (x.length - i) zNd = x.map ndW := by rw [List.take_of_length_le hi, show x.length - i = 0 by omega]; simp
    rw [e]
    refine nw ?_
    refine ⟨[], [(1000, 3)], ?_⟩
    exact tel
theorem toDoc_ok (d : Dc) (hx : d.nodes.length < 2 ^ 28) (hk : ∀ n ∈ d.nodes, n.kids.length < 2 ^ 28) : FC Tryz.prog 18 [(true, dcL d)] [(1000, some ⟨0, 5, d.nodes.map ndW⟩)] [(true, [.f (iL d.root), .f (iL d.next), .row 1000 0 d.nodes.length])] := by
  refine en Tryz.func18 Tryz.ntmps18 (⟨cl_nds _, trivial⟩) ?_
  refine nw ?_
  refine ⟨(_, _), toNodeS_ok d.nodes hx hk, ?_⟩
  refine nw ?_
  refine ⟨[], [(1000, 208)], ?_⟩
  exact tel
end Go.Proofs.YtecnmodeggnjoaaGreat.Ac
