/- Several of our texts, one behind the other, without what this claim does not need: Ti, Wl, Wm. -/
import Derived.Test.YtecnmodeggnjoaaGreatZ9a2796fc
import Derived.Test.YtecnmodeggnjoaaGreatZe2002630
import Derived.Test.YtecnmodeggnjoaaGreatZ855f7bb1
import Derived.Test.YtecnmodeggnjoaaGreatZaa953d4f
set_option linter.unusedVariables false
set_option linter.unusedSimpArgs false
set_option maxRecDepth 20000
set_option maxHeartbeats 20000000
namespace Go.Proofs.YtecnmodeggnjoaaGreat.Ac
open Go.RowKit
theorem sess_snoc {l : List Ho} {i : Nat} (hi : i < l.length) : (((l.take i).map (·.session)).map intW).take i ++ [intW l[i].session] = ((l.take (i + 1)).map (·.session)).map intW := by
  rw [List.take_of_length_le (by rw [List.length_map, List.length_map, List.length_take]; exact Nat.min_le_left _ _), List.take_succ_eq_append_getElem hi, List.map_append, List.map_append]; rfl
theorem sessionList_ok (l : List Ho) (hl : l.length < 2 ^ 28) : FC Tryz.prog 84 [(false, [hos l])] [(1000, some ⟨0, 1, (l.map (·.session)).map intW⟩)] [(false, [.row 1000 0 l.length])] := by
  refine gr Tryz.func84 Tryz.ntmps84 (⟨cl_ints _, trivial⟩) ?_
  (refine ⟨fun m es hs => ∃ (i : Nat), (m + i = l.length) ∧ es = [(8, .val false [.f (iL i)]), (7, .val false [.f (iL l.length)]), (6, .val false [.f (hos l)]), (3, .val false [.row 3 0 i])] ∧ hs = [(3, some ⟨0, 1, ((l.take i).map (·.session)).map intW⟩)], ⟨l.length, [], [(3, 7)], _, _, don, 0, don, rfl, rfl⟩, ?_⟩; rintro m _ _ ⟨i, hSLI0, rfl, rfl⟩; refine nx ?_)
  refine ⟨fun h => nx ?_, fun h => nx ?_⟩
  have hi : i < l.length := by omega
  refine ⟨(i, hoL l[i]), ⟨rfl, by simp [hi]⟩, nx ?_⟩
  refine ⟨((l.take (i + 1)).map (·.session)).map intW, ⟨sess_snoc hi, by simp; omega⟩, nx ?_⟩
  exact ⟨m - 1, [], [(3, 272)], _, _, by omega, don, (i + 1), don, rfl, rfl⟩
  have hi : i = l.length := by omega
  subst hi
  rw [List.take_length]
  exact ⟨[], [(1000, 3)], don⟩
theorem l08Own_ok (t : Tb) (h1 : t.holds.length < 2 ^ 28) (h2 : t.waits.length < 2 ^ 28) : FC Tryz.prog 78 [(true, tbL t)] [(1000, some ⟨0, 3, t.holds.map hoW⟩), (1001, some ⟨0, 3, t.waits.map hoW⟩)] [(true, [.row 1000 0 t.holds.length, .row 1001 0 t.waits.length])] := by
  refine gr Tryz.func78 Tryz.ntmps78 (⟨cl_hos _, cl_hos _, trivial⟩) ?_
  refine ⟨t.holds.map hoW, fmap_mapL (fun _ => rfl) _, nx ?_⟩
  refine ⟨t.holds.map hoW, ⟨rfl, by simp; omega⟩, nx ?_⟩
  refine ⟨t.waits.map hoW, fmap_mapL (fun _ => rfl) _, nx ?_⟩
  refine ⟨t.waits.map hoW, ⟨rfl, by simp; omega⟩, nx ?_⟩
  exact ⟨[], [(1000, 112), (1001, 176)], don⟩
theorem tabCopied_ok (t : Tb) (h1 : t.holds.length < 2 ^ 28) (h2 : t.waits.length < 2 ^ 28) : FC Tryz.prog 82 [(true, tbL t)] [(1000, some ⟨0, 3, t.holds.map hoW⟩), (1001, some ⟨0, 3, t.waits.map hoW⟩)] [(true, [.row 1000 0 t.holds.length, .row 1001 0 t.waits.length])] := by
  refine gr Tryz.func82 Tryz.ntmps82 (⟨cl_hos _, cl_hos _, trivial⟩) ?_
  refine ⟨(_, _), cloneHo_ok' t.holds h1, nx ?_⟩
  refine ⟨(_, _), cloneHo_ok' t.waits h2, nx ?_⟩
  exact ⟨[], [(1000, 96), (1001, 144)], don⟩
structure TbG (d : Dc) (t : Tb) : Prop where
  d64 : Dc64 d
  dl : d.nodes.length < 2 ^ 28
  hl : t.holds.length < 2 ^ 26
  wl : t.waits.length < 2 ^ 26
  hn : ∀ h ∈ t.holds, I64 h.node
  wn : ∀ h ∈ t.waits, I64 h.node
noncomputable def stF (d : Dc) (t : Tb) : Tb × List Ho × Int := if dB (DOK d ∧ TabP d t) then ((setK d t 0).1, (setK d t 0).2, 0) else (⟨[], []⟩, [], 1)
theorem st_no {d : Dc} {t : Tb} (h : ¬ (DOK d ∧ TabP d t)) : stF d t = (⟨[], []⟩, [], 1) := by unfold stF; rw [dB_no h]; rfl
theorem st_yes {d : Dc} {t : Tb} (h : DOK d ∧ TabP d t) : stF d t = ((setK d t 0).1, (setK d t 0).2, 0) := by unfold stF; rw [dB_yes h]; rfl
theorem setK_tabG {d : Dc} : ∀ (n : Nat) (t : Tb) (k : Nat), setN t k < n → TabG d t → TabG d (setK d t k).1 ∧ (setK d t k).2.length + (setK d t k).1.waits.length = t.waits.length
  | 0, _, _, h, _ => by omega
  | n + 1, t, k, h, ht => by
    by_cases hk : k < t.waits.length
    · have a := setN_grant hk
      have b := setN_next hk
      by_cases hf : freeP d t k
      · rw [setK_free hk hf]
        have ih := setK_tabG n (grant t k) 0 (by omega) (grant_tabG ht hk hf)
        refine ⟨ih.1, ?_⟩
        have := ih.2
        rw [grant_len hk] at this
        simp only [List.length_cons]
        omega
      · rw [setK_next hk hf]
        exact setK_tabG n t (k + 1) (by omega) ht
    · rw [setK_end (by omega)]
      exact ⟨ht, by simp⟩
theorem st_spec (d : Dc) (t : Tb) (hg : TbG d t) : FC Tryz.prog 17 [(true, dcL d), (true, tbL t)] [(1000, some ⟨0, 3, (stF d t).1.holds.map hoW⟩), (1001, some ⟨0, 3, (stF d t).1.waits.map hoW⟩), (1002, some ⟨0, 1, ((stF d t).2.1.map (·.session)).map intW⟩)]
    [(true, [.row 1000 0 (stF d t).1.holds.length, .row 1001 0 (stF d t).1.waits.length]), (false, [.row 1002 0 (stF d t).2.1.length]), (false, [.f (iL (stF d t).2.2)])] := by
  have ho := specTableOK_ok d hg.d64 (by have := hg.dl; omega) t (by have := hg.hl; omega) (by have := hg.wl; omega)
  by_cases k : DOK d ∧ TabP d t
  case neg =>
    rw [st_no k]
    dsimp only
    refine gr Tryz.func17 Tryz.ntmps17 (⟨trivial, trivial, trivial, trivial⟩) ?_
    refine ⟨([], _), ho.x k, nx ?_⟩
    exact ⟨[], [(1000, 7), (1001, 8), (1002, 240)], don⟩
  have hG := setK_tabG (setN t 0 + 1) t 0 (Nat.lt_succ_self _) k.2.g
  have h1 := hG.1.hg.len
  have h2 := hG.1.wl
  rw [st_yes k]
  dsimp only
  refine gr Tryz.func17 Tryz.ntmps17 (⟨cl_hos _, cl_hos _, cl_ints _, trivial⟩) ?_
  refine ⟨([], _), ho.y k, nx ?_⟩
  refine ⟨(_, _), l08Settle_ok d k.1 t k.2.g, nx ?_⟩
  refine ⟨(_, _), l08Own_ok (setK d t 0).1 (by omega) (by omega), nx ?_⟩
  exact ⟨[], [(1000, 368), (1001, 369), (1002, 304)], don⟩
theorem st_impl (d : Dc) (t : Tb) (hg : TbG d t) : FC Tryz.prog 20 [(true, dcL d), (true, tbL t)] [(1000, some ⟨0, 3, (stF d t).1.holds.map hoW⟩), (1001, some ⟨0, 3, ((stF d t).1.waits ++ List.replicate (stF d t).2.1.length zHo').map hoW⟩), (1002, some ⟨0, 1, ((stF d t).2.1.map (·.session)).map intW⟩)]
    [(true, [.row 1000 0 (stF d t).1.holds.length, .row 1001 0 (stF d t).1.waits.length]), (false, [.row 1002 0 (stF d t).2.1.length]), (false, [.f (iL (stF d t).2.2)])] := by
  have ho := tableOK_ok d hg.d64 t (by have := hg.hl; omega) (by have := hg.wl; omega) hg.hn hg.wn
  by_cases k : DOK d ∧ TabP d t
  case neg =>
    rw [st_no k]
    dsimp only
    refine gr Tryz.func20 Tryz.ntmps20 (⟨trivial, trivial, trivial, trivial⟩) ?_
    refine ⟨([], _), ho.x k, nx ?_⟩
    exact ⟨[], [(1000, 7), (1001, 8), (1002, 9)], don⟩
  have hG := setK_tabG (setN t 0 + 1) t 0 (Nat.lt_succ_self _) k.2.g
  have h1 := hG.1.hg.len
  have h2 := hG.1.wl
  have h3 := k.2.g.wl
  have hs := settle_ok d k.1 t k.2.g [] []
  rw [List.append_nil, List.append_nil, List.append_nil, show tailF (setK d t 0).2 [] = [] by cases (setK d t 0).2 <;> rfl, List.append_nil] at hs
  rw [st_yes k]
  dsimp only
  refine gr Tryz.func20 Tryz.ntmps20 (⟨cl_hos _, cl_hos _, cl_ints _, trivial⟩) ?_
  refine ⟨([], _), ho.y k, nx ?_⟩
  refine ⟨(_, _), tabCopied_ok t (by have := hg.hl; omega) (by have := hg.wl; omega), nx ?_⟩
  refine ⟨⟨false, [(1, 128), (2, 256), (3, 257), (4, 48)], _, _, _, _⟩, hs, cd ?_⟩
  refine ⟨⟨true, [], _, _, _, _⟩, sessionList_ok (setK d t 0).2 (by omega), cd ?_⟩
  exact ⟨[], [(1000, 272), (1001, 257), (1002, 320)], don⟩
end Go.Proofs.YtecnmodeggnjoaaGreat.Ac
set_option linter.unusedVariables false
set_option linter.unusedSimpArgs false
set_option maxRecDepth 20000
set_option maxHeartbeats 2000000
namespace Go.Proofs.YtecnmodeggnjoaaGreat.Ac
open Go.RowKit
theorem eqIntS_refl (x : List Int) (hx : x.length < 2 ^ 62) : FC Tryz.prog 22 [(false, [ints x]), (false, [ints x])] [] [(false, [.f (bL true)])] := by
  refine en Tryz.func22 Tryz.ntmps22 trivial ?_
  refine nw ?_
  refine ⟨fun h => absurd rfl h, fun h => ?_⟩
  refine nw ?_
  refine ⟨fun (m : Nat) (es : Es) (hs : Hs) => ∃ i : Nat, m + i = x.length ∧ es = [(5, .val false [.f (iL i)]), (1, .val false [.f (ints x)]), (0, .val false [.f (ints x)])] ∧ hs = [],
    ⟨x.length, [], [], _, _, ⟨?_, ?_, ?_⟩, 0, rfl, rfl, rfl⟩, ?_⟩
  · rfl
  · exact tel
  · exact tel
  rintro m es hs ⟨i, hm, rfl, rfl⟩
  refine nw ?_
  refine ⟨fun h => ?_, fun h => ?_⟩
  · have hi : i < x.length := by simpa using h
    refine nw ?_
    refine ⟨by kernel_rfl, ?_⟩
    refine nw ?_
    refine ⟨(i, intE x[i]), ⟨rfl, by simp [hi]⟩, ?_⟩
    refine nw ?_
    refine ⟨(i, intE x[i]), ⟨rfl, by simp [hi]⟩, ?_⟩
    refine nw ?_
    refine ⟨fun k => absurd rfl k, fun k => ?_⟩
    refine nw ?_
    refine ⟨by kernel_rfl, ?_⟩
    refine nw ?_
    refine ⟨m - 1, [], [], [(5, .val false [.f (iL (i + 1 : Nat))]), (1, .val false [.f (ints x)]), (0, .val false [.f (ints x)])], [], by omega, ⟨?_, ?_, ?_⟩, i + 1, by omega, rfl, rfl⟩
    · rfl
    · refine tel1 ?_
      exact wrap_suc (by omega)
    · exact tel
  · refine nw ?_
    refine ⟨[], [], ?_⟩
    exact tel
theorem eqNode_refl (n : Nd) (hk : n.kids.length < 2 ^ 62) : FC Tryz.prog 169 [(true, ndL n), (true, ndL n)] [] [(false, [.f (bL true)])] := by
  refine en Tryz.func169 Tryz.ntmps169 trivial ?_
  refine nw ?_
  refine ⟨fun h => absurd rfl h, fun h => ?_⟩
  refine nw ?_
  refine ⟨fun h => absurd rfl h, fun h => ?_⟩
  refine nw ?_
  refine ⟨fun h => absurd rfl h, fun h => ?_⟩
  refine nw ?_
  refine ⟨fun h => absurd rfl h, fun h => ?_⟩
  refine nw ?_
  refine ⟨([], _), eqIntS_refl n.kids hk, ?_⟩
  refine nw ?_
  refine ⟨[], [], ?_⟩
  exact tel
theorem eqNodeS_refl (x : List Nd) (hx : x.length < 2 ^ 62) (hk : ∀ n ∈ x, n.kids.length < 2 ^ 62) : FC Tryz.prog 85 [(false, [nds x]), (false, [nds x])] [] [(false, [.f (bL true)])] := by
  refine en Tryz.func85 Tryz.ntmps85 trivial ?_
  refine nw ?_
  refine ⟨fun h => absurd rfl h, fun h => ?_⟩
  refine nw ?_
  refine ⟨fun (m : Nat) (es : Es) (hs : Hs) => ∃ i : Nat, m + i = x.length ∧ es = [(5, .val false [.f (iL i)]), (1, .val false [.f (nds x)]), (0, .val false [.f (nds x)])] ∧ hs = [],
    ⟨x.length, [], [], _, _, ⟨?_, ?_, ?_⟩, 0, rfl, rfl, rfl⟩, ?_⟩
  · rfl
  · exact tel
  · exact tel
  rintro m es hs ⟨i, hm, rfl, rfl⟩
  refine nw ?_
  refine ⟨fun h => ?_, fun h => ?_⟩
  · have hi : i < x.length := by simpa using h
    refine nw ?_
    refine ⟨by kernel_rfl, ?_⟩
    refine nw ?_
    refine ⟨(i, ndL x[i]), ⟨rfl, by simp [hi]⟩, ?_⟩
    refine nw ?_
    refine ⟨(i, ndL x[i]), ⟨rfl, by simp [hi]⟩, ?_⟩
    refine nw ?_
    refine ⟨([], _), eqNode_refl x[i] (hk _ (List.getElem_mem _)), ?_⟩
    refine nw ?_
    refine ⟨by kernel_rfl, ?_⟩
    refine nw ?_
    refine ⟨m - 1, [], [], [(5, .val false [.f (iL (i + 1 : Nat))]), (1, .val false [.f (nds x)]), (0, .val false [.f (nds x)])], [], by omega, ⟨?_, ?_, ?_⟩, i + 1, by omega, rfl, rfl⟩
    · rfl
    · refine tel1 ?_
      exact wrap_suc (by omega)
    · exact tel
  · refine nw ?_
    refine ⟨[], [], ?_⟩
    exact tel
theorem eqDoc_refl (d : Dc) (hx : d.nodes.length < 2 ^ 62) (hk : ∀ n ∈ d.nodes, n.kids.length < 2 ^ 62) : FC Tryz.prog 23 [(true, dcL d), (true, dcL d)] [] [(false, [.f (bL true)])] := by
  refine en Tryz.func23 Tryz.ntmps23 trivial ?_
  refine nw ?_
  refine ⟨fun h => absurd rfl h, fun h => ?_⟩
  refine nw ?_
  refine ⟨fun h => absurd rfl h, fun h => ?_⟩
  refine nw ?_
  refine ⟨([], _), eqNodeS_refl d.nodes hx hk, ?_⟩
  refine nw ?_
  refine ⟨[], [], ?_⟩
  exact tel
theorem szIntS_ok (x : List Int) (left : Int) (h0 : 0 ≤ left ∧ left ≤ 2 ^ 20) (hx : x.length < 2 ^ 63) : FC Tryz.prog 241 [(false, [ints x]), (false, [iL left])] [] [(false, [.f (iL (szL x.length left))])] := by
  have hw : IntKind.i64.wrap (left - ((x.map intE).length : Int)) = left - x.length := by rw [IntKind.wrap_i64]; simp; omega
  refine en Tryz.func241 Tryz.ntmps241 trivial ?_
  refine nw ?_
  rw [hw]
  refine ⟨fun h => ?_, fun h => ?_⟩
  · refine nw ?_
    refine ⟨[], [], ?_⟩
    refine tel1 ?_
    unfold szL; rw [if_neg (by omega)]
  · refine nw ?_
    refine ⟨[], [], ?_⟩
    refine tel1 ?_
    unfold szL; rw [if_pos (by omega)]
theorem szNode_ok (n : Nd) (left : Int) (h0 : 0 ≤ left ∧ left ≤ 2 ^ 20) (hs : n.text.size < 2 ^ 63) (hk : n.kids.length < 2 ^ 63) : FC Tryz.prog 157 [(true, ndL n), (false, [iL left])] [] [(false, [.f (iL (szL (szN n) left))])] := by
  have hw : IntKind.i64.wrap (left - (n.text.size : Int)) = left - n.text.size := by rw [IntKind.wrap_i64]; omega
  refine en Tryz.func157 Tryz.ntmps157 trivial ?_
  refine nw ?_
  rw [hw]
  refine ⟨fun h => ?_, fun h => ?_⟩
  · refine nw ?_
    refine ⟨[], [], ?_⟩
    refine tel1 ?_
    unfold szL szN; rw [if_neg (by omega)]
  · refine nw ?_
    have hc := szIntS_ok n.kids (left - n.text.size) (by omega) hk
    refine ⟨([], _), hc, ?_⟩
    refine nw ?_
    refine ⟨fun h => ?_, fun h => ?_⟩
    · refine nw ?_
      refine ⟨[], [], ?_⟩
      refine tel1 ?_
      unfold szL at h ⊢
      unfold szN
      split at h <;> omega
    · refine nw ?_
      refine ⟨[], [], ?_⟩
      refine tel1 ?_
      unfold szL at h ⊢
      unfold szN
      split at h <;> omega
theorem szNodeS_ok (x : List Nd) (left : Int) (h0 : 0 ≤ left ∧ left ≤ 2 ^ 20) (hx : x.length < 2 ^ 63) (hs : ∀ n ∈ x, n.text.size < 2 ^ 63) (hk : ∀ n ∈ x, n.kids.length < 2 ^ 63) : FC Tryz.prog 74 [(false, [nds x]), (false, [iL left])] [] [(false, [.f (iL (szL (x.length + szNs x) left))])] := by
  have hw : IntKind.i64.wrap (left - ((x.map ndL).length : Int)) = left - x.length := by rw [IntKind.wrap_i64]; simp; omega
  refine en Tryz.func74 Tryz.ntmps74 trivial ?_
  refine nw ?_
  rw [hw]
  refine ⟨fun h => ?_, fun h => ?_⟩
  · refine nw ?_
    refine ⟨[], [], ?_⟩
    refine tel1 ?_
    unfold szL; rw [if_neg (by omega)]
  · have h1 := h
    refine nw ?_
    refine ⟨fun (m : Nat) (es : Es) (hs : Hs) => ∃ (i : Nat) (lf : Int), m + i = x.length ∧ 0 ≤ lf ∧ lf ≤ 2 ^ 20 ∧ szL (szNs (x.drop i)) lf = szL (x.length + szNs x) left ∧ es = [(5, .val false [.f (iL i)]), (1, .val false [.f (iL lf)]), (0, .val false [.f (nds x)])] ∧ hs = [],
      ⟨x.length, [], [], _, _, ⟨?_, ?_, ?_⟩, 0, left - x.length, rfl, by omega, by omega, ?_, rfl, rfl⟩, ?_⟩
    · rfl
    · exact tel
    · exact tel
    · rw [List.drop_zero]; unfold szL; split <;> split <;> omega
    rintro m es hs' ⟨i, lf, hm, hl0, hl1, hsz, rfl, rfl⟩
    refine nw ?_
    refine ⟨fun h => ?_, fun h => ?_⟩
    · have hi : i < x.length := by simpa using h
      rw [List.drop_eq_getElem_cons hi, szNs_cons] at hsz
      have hc := szNode_ok x[i] lf ⟨hl0, hl1⟩ (hs _ (List.getElem_mem _)) (hk _ (List.getElem_mem _))
      refine nw ?_
      refine ⟨(i, ndL x[i]), ⟨rfl, by simp [hi]⟩, ?_⟩
      refine nw ?_
      refine ⟨([], _), hc, ?_⟩
      refine nw ?_
      refine ⟨fun h => ?_, fun h => ?_⟩
      · refine nw ?_
        refine ⟨[], [], ?_⟩
        refine tel1 ?_
        rw [← hsz]
        unfold szL at h ⊢
        split at h <;> omega
      · refine nw ?_
        refine ⟨m - 1, [], [], [(5, .val false [.f (iL (i + 1 : Nat))]), (1, .val false [.f (iL (szL (szN x[i]) lf))]), (0, .val false [.f (nds x)])], [], by omega, ⟨?_, ?_, ?_⟩, i + 1, szL (szN x[i]) lf, by omega, by omega, ?_, ?_, rfl, rfl⟩
        · rfl
        · refine tel1 ?_
          exact wrap_suc (by have := Int.not_lt.1 h1; omega)
        · exact tel
        · unfold szL; split <;> omega
        · rw [← hsz]
          unfold szL at h ⊢
          split at h <;> split <;> split <;> omega
    · have hi : x.length ≤ i := by simpa using h
      refine nw ?_
      refine ⟨[], [], ?_⟩
      refine tel1 ?_
      rw [← hsz, List.drop_eq_nil_of_le hi]
      unfold szL szNs
      simp; omega
theorem szDoc_ok (d : Dc) (left : Int) (h0 : 0 ≤ left ∧ left ≤ 2 ^ 20) (hx : d.nodes.length < 2 ^ 63) (hs : ∀ n ∈ d.nodes, n.text.size < 2 ^ 63) (hk : ∀ n ∈ d.nodes, n.kids.length < 2 ^ 63) : FC Tryz.prog 15 [(true, dcL d), (false, [iL left])] [] [(false, [.f (iL (szL (szD d) left))])] := by
  refine en Tryz.func15 Tryz.ntmps15 trivial ?_
  refine nw ?_
  refine ⟨([], _), szNodeS_ok d.nodes left h0 hx hs hk, ?_⟩
  refine nw ?_
  refine ⟨fun h => ?_, fun h => ?_⟩
  · refine nw ?_
    refine ⟨[], [], ?_⟩
    refine tel1 ?_
    unfold szL at h ⊢
    unfold szD
    split at h <;> omega
  · refine nw ?_
    refine ⟨[], [], ?_⟩
    exact tel
end Go.Proofs.YtecnmodeggnjoaaGreat.Ac
set_option linter.unusedVariables false
set_option linter.unusedSimpArgs false
set_option maxRecDepth 20000
set_option maxHeartbeats 2000000
namespace Go.Proofs.YtecnmodeggnjoaaGreat.Ac
open Go.RowKit
theorem fill_set {α : Type} {f : α → List A} {z : List A} {x : List α} {i : Nat} (hi : i < x.length) : (((x.take i).map f) ++ List.replicate (x.length - i) z).set i (f x[i]) = (x.take (i + 1)).map f ++ List.replicate (x.length - (i + 1)) z := by
  have h1 : ((x.take i).map f).length = i := by simp; omega
  rw [List.set_append_right _ _ (by omega), h1, Nat.sub_self, show x.length - i = (x.length - (i + 1)) + 1 by omega, List.replicate_succ, List.set_cons_zero, List.take_succ_eq_append_getElem hi, List.map_append, List.append_assoc]
  rfl
theorem fill_get {α : Type} {f : α → List A} {z : List A} {x : List α} {i : Nat} (hi : i < x.length) : (((x.take i).map f) ++ List.replicate (x.length - i) z)[i]? = some z := by
  have h1 : ((x.take i).map f).length = i := by simp; omega
  rw [List.getElem?_append_right (by omega), h1, Nat.sub_self, show x.length - i = (x.length - (i + 1)) + 1 by omega, List.replicate_succ]
  rfl
theorem cl_rep {e : List A} (n : Nat) (h : clC e) : clR (List.replicate n e) := by
  induction n with
  | zero => trivial
  | succ n ih => exact ⟨h, ih⟩
theorem toIntS_ok (x : List Int) (hx : x.length < 2 ^ 28) : FC Tryz.prog 248 [(false, [ints x])] [(1000, some ⟨0, 1, x.map intW⟩)] [(false, [.row 1000 0 x.length])] := by
  refine en Tryz.func248 Tryz.ntmps248 (⟨cl_ints _, trivial⟩) ?_
  refine nw ?_
  refine ⟨(x.length, x.length), ⟨by simp, by simp, Nat.le_refl _, by dsimp only; omega⟩, ?_⟩
  refine nw ?_
  refine ⟨fun (m : Nat) (es : Es) (hs : Hs) => ∃ i : Nat, m + i = x.length ∧ es = [(4, .val false [.f (iL i)]), (3, .val false [.row 3 0 x.length]), (0, .val false [.f (ints x)])] ∧ hs = [(3, some ⟨0, 1, (x.take i).map intW ++ List.replicate (x.length - i) (intW 0)⟩)],
    ⟨x.length, [], [(3, 128)], _, _, ⟨?_, ?_, ?_⟩, 0, rfl, rfl, rfl⟩, ?_⟩
  · rfl
  · exact tel
  · refine tel1 ?_
    exact cl_app (cl_ints _) (cl_rep x.length ⟨trivial, trivial⟩)
  rintro m es hs ⟨i, hm, rfl, rfl⟩
  refine nw ?_
  refine ⟨fun h => ?_, fun h => ?_⟩
  · have hi : i < x.length := by simpa using h
    refine nw ?_
    refine ⟨(i, intE x[i]), ⟨rfl, by simp [hi]⟩, ?_⟩
    refine nw ?_
    refine ⟨i, ⟨rfl, hi⟩, ?_⟩
    refine nw ?_
    refine ⟨intW 0, fill_get hi, ?_⟩
    refine nw ?_
    refine ⟨m - 1, [], [], [(4, .val false [.f (iL (i + 1 : Nat))]), (3, .val false [.row 3 0 x.length]), (0, .val false [.f (ints x)])], [(3, some ⟨0, 1, (x.take (i + 1)).map intW ++ List.replicate (x.length - (i + 1)) (intW 0)⟩)], by omega, ⟨?_, ?_, ?_⟩, i + 1, by omega, rfl, rfl⟩
    · rfl
    · refine tel1 ?_
      exact wrap_suc (by omega)
    · refine tel2 ?_ ?_
      · exact fill_set (f := intW) hi
      · exact cl_app (cl_ints _) (cl_rep _ ⟨trivial, trivial⟩)
  · have hi : x.length ≤ i := by simpa using h
    have e : (x.take i).map intW ++ List.replicate (x.length - i) (intW 0) = x.map intW := by rw [List.take_of_length_le hi, show x.length - i = 0 by omega]; simp
    rw [e]
    refine nw ?_
    refine ⟨[], [(1000, 3)], ?_⟩
    exact tel
theorem toNode_ok (n : Nd) (hk : n.kids.length < 2 ^ 28) : FC Tryz.prog 162 [(true, ndL n)] [(1000, some ⟨0, 1, n.kids.map intW⟩)] [(true, [.f (iL n.id), .f (iL n.kind), .f (iL n.attr), .f (sL n.text), .row 1000 0 n.kids.length])] := by
  refine en Tryz.func162 Tryz.ntmps162 (⟨cl_ints _, trivial⟩) ?_
  refine nw ?_
  refine ⟨(_, _), toIntS_ok n.kids hk, ?_⟩
  refine nw ?_
  refine ⟨[], [(1000, 304)], ?_⟩
  exact tel
@[reducible] def zNd : List A := [.f (iL 0), .f (iL 0), .f (iL 0), .f (sL ⟨#[]⟩), .nl]
theorem toNodeS_ok (x : List Nd) (hx : x.length < 2 ^ 28) (hk : ∀ n ∈ x, n.kids.length < 2 ^ 28) : FC Tryz.prog 79 [(false, [nds x])] [(1000, some ⟨0, 5, x.map ndW⟩)] [(false, [.row 1000 0 x.length])] := by
  refine en Tryz.func79 Tryz.ntmps79 (⟨cl_nds _, trivial⟩) ?_
  refine nw ?_
  refine ⟨(x.length, x.length), ⟨by simp, by simp, Nat.le_refl _, by dsimp only; omega⟩, ?_⟩
  refine nw ?_
  refine ⟨fun (m : Nat) (es : Es) (hs : Hs) => ∃ i : Nat, m + i = x.length ∧ es = [(4, .val false [.f (iL i)]), (3, .val false [.row 3 0 x.length]), (0, .val false [.f (nds x)])] ∧ hs = [(3, some ⟨0, 5, (x.take i).map ndW ++ List.replicate (x.length - i) zNd⟩)],
    ⟨x.length, [], [(3, 128)], _, _, ⟨?_, ?_, ?_⟩, 0, rfl, rfl, rfl⟩, ?_⟩
  · rfl
  · exact tel
  · refine tel1 ?_
    exact cl_app (cl_nds _) (cl_rep x.length ⟨trivial, trivial, trivial, trivial, trivial, trivial⟩)
  rintro m es hs ⟨i, hm, rfl, rfl⟩
  refine nw ?_
  refine ⟨fun h => ?_, fun h => ?_⟩
  · have hi : i < x.length := by simpa using h
    refine nw ?_
    refine ⟨(i, ndL x[i]), ⟨rfl, by simp [hi]⟩, ?_⟩
    refine nw ?_
    refine ⟨(_, _), toNode_ok x[i] (hk _ (List.getElem_mem _)), ?_⟩
    refine nw ?_
    refine ⟨i, ⟨rfl, hi⟩, ?_⟩
    refine nw ?_
    refine ⟨zNd, fill_get hi, ?_⟩
    refine nw ?_
    refine ⟨m - 1, [(336, 3, i, 4)], [], [(4, .val false [.f (iL (i + 1 : Nat))]), (3, .val false [.row 3 0 x.length]), (0, .val false [.f (nds x)])], [(3, some ⟨0, 5, (x.take (i + 1)).map ndW ++ List.replicate (x.length - (i + 1)) zNd⟩)], by omega, ?_, i + 1, by omega, rfl, rfl⟩
    refine nw ?_
    refine ⟨_, List.getElem?_set_self (by simp; omega), ?_⟩
    refine nw ?_
    refine ⟨x[i].kids.map intW, by rw [List.take_of_length_le (by simp)], ?_⟩
    refine nw ?_
    refine ⟨?_, ?_, ?_⟩
    · rfl
    · refine tel1 ?_
      exact wrap_suc (by omega)
    · refine tel2 ?_ ?_
      · rw [List.set_set]
        exact fill_set (f := ndW) hi
      · exact cl_app (cl_nds _) (cl_rep _ ⟨trivial, trivial, trivial, trivial, trivial, trivial⟩)
  · have hi : x.length ≤ i := by simpa using h
    have e : (x.take i).map ndW ++ List.replicate (x.length - i) zNd = x.map ndW := by rw [List.take_of_length_le hi, show x.length - i = 0 by omega]; simp
    rw [e]
    refine nw ?_
    refine ⟨[], [(1000, 3)], ?_⟩
    exact tel
theorem toDoc_ok (d : Dc) (hx : d.nodes.length < 2 ^ 28) (hk : ∀ n ∈ d.nodes, n.kids.length < 2 ^ 28) : FC Tryz.prog 18 [(true, dcL d)] [(1000, some ⟨0, 5, d.nodes.map ndW⟩)] [(true, [.f (iL d.root), .f (iL d.next), .row 1000 0 d.nodes.length])] := by
  refine en Tryz.func18 Tryz.ntmps18 (⟨cl_nds _, trivial⟩) ?_
  refine nw ?_
  refine ⟨(_, _), toNodeS_ok d.nodes hx hk, ?_⟩
  refine nw ?_
  refine ⟨[], [(1000, 208)], ?_⟩
  exact tel
end Go.Proofs.YtecnmodeggnjoaaGreat.Ac
