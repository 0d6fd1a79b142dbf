/- Several of our texts, one behind the other, without what this claim does not need: Lc, Wd. -/
import Derived.Test.YtecnmodeggnjoaaGreatZe2002630
import Derived.Test.YtecnmodeggnjoaaGreatZ5aca4733
import Derived.Test.YtecnmodeggnjoaaGreatZ99c0776a
import Derived.Test.YtecnmodeggnjoaaGreatZaa953d4f
set_option linter.unusedVariables false
set_option linter.unusedSimpArgs false
set_option maxRecDepth 20000
set_option maxHeartbeats 20000000
namespace Go.Proofs.YtecnmodeggnjoaaGreat.Ac
open Go.RowKit
theorem path7_ok (d : Dc) (hd : DOK d) (id : Int) (h1 : (ndAt d.nodes id).isSome) : FC Tryz.prog 198 [(false, [.pv (dcL d)]), (false, [iL id])] [(1000, some ⟨0, 1, (pathF d id).map intW⟩)] [(false, [.row 1000 0 (pathF d id).length])] := by
  have h := path_ok d id 7 (hd.up h1) hd.par0 (by omega) (by have := hd.len; omega) (fun n hn => by have := hd.kl' n hn; omega)
  unfold pathF
  rw [List.length_reverse]
  exact h
theorem path_len (d : Dc) (id : Int) : (pathF d id).length ≤ 7 := by unfold pathF; rw [List.length_reverse]; exact upsF_len _ _ _
theorem need_ok (d : Dc) (hd : DOK d) (x : Ho) (h1 : (ndAt d.nodes x.node).isSome) (node : Int) : FC Tryz.prog 289 [(false, [.pv (dcL d)]), (true, hoL x), (false, [iL node])] [] [(false, [.f (iL (needF d x node))])] := by
  have hin := isIn_ok d x.node node 7 (hd.up h1) hd.par0 (by omega) (by have := hd.len; omega) (fun n hn => by have := hd.kl' n hn; omega)
  by_cases k : x.node = node
  · have q : needF d x node = x.mode := by unfold needF; rw [if_pos k]
    refine gr Tryz.func289 Tryz.ntmps289 trivial ?_
    refine ⟨fun h => nx ?_, fun h => absurd h (fun w => w k)⟩
    exact ⟨[], [], don⟩
  by_cases k2 : node ∈ upsF d.nodes 7 x.node
  · have q : needF d x node = intM x.mode := by unfold needF; rw [if_neg k, if_pos k2]
    refine gr Tryz.func289 Tryz.ntmps289 trivial ?_
    refine ⟨fun h => absurd h (k), fun h => nx ?_⟩
    refine ⟨([], _), hin.t k2, nx ?_⟩
    refine ⟨([], _), intent_ok x.mode, nx ?_⟩
    exact ⟨[], [], don⟩
  · have q : needF d x node = 0 := by unfold needF; rw [if_neg k, if_neg k2]
    refine gr Tryz.func289 Tryz.ntmps289 trivial ?_
    refine ⟨fun h => absurd h (k), fun h => nx ?_⟩
    refine ⟨([], _), hin.n k2, nx ?_⟩
    exact ⟨[], [], don⟩
theorem l07Need_ok (x : Ho) (node : Int) : FC Tryz.prog 310 [(true, hoL x), (false, [iL node])] [] [(false, [.f (iL (if x.node = node then x.mode else intM x.mode))])] := by
  by_cases k : x.node = node
  · rw [if_pos k]
    refine gr Tryz.func310 Tryz.ntmps310 trivial ?_
    refine ⟨fun h => nx ?_, fun h => absurd h (fun w => w k.symm)⟩
    exact ⟨[], [], don⟩
  · rw [if_neg k]
    refine gr Tryz.func310 Tryz.ntmps310 trivial ?_
    refine ⟨fun h => absurd h (fun w => k w.symm), fun h => nx ?_⟩
    refine ⟨([], _), l07Intent_ok x.mode, nx ?_⟩
    exact ⟨[], [], don⟩
theorem need_on {d : Dc} {h : Ho} {node : Int} (hm : node ∈ pathF d h.node) : (if h.node = node then h.mode else intM h.mode) = needF d h node := by
  unfold needF
  rw [if_pos (mem_path.1 hm)]
theorem mode_take {d : Dc} {l : List Ho} {s node : Int} {i : Nat} (hi : i < l.length) : modeF d (l.take (i + 1)) s node = if l[i].session = s then joinM (modeF d (l.take i) s node) (needF d l[i] node) else modeF d (l.take i) s node := by
  unfold modeF
  rw [List.take_succ_eq_append_getElem hi, List.foldl_append]; rfl
structure HoldG (d : Dc) (l : List Ho) : Prop where
  len : l.length < 2 ^ 20
  has : ∀ h ∈ l, (ndAt d.nodes h.node).isSome
  md : ∀ h ∈ l, Md h.mode
theorem mode_ok (d : Dc) (hd : DOK d) (l : List Ho) (hl : HoldG d l) (s node : Int) : FC Tryz.prog 214 [(false, [.pv (dcL d)]), (false, [hos l]), (false, [iL s]), (false, [iL node])] [] [(false, [.f (iL (modeF d l s node))])] := by
  have hlen := hl.len
  refine gr Tryz.func214 Tryz.ntmps214 trivial ?_
  (refine ⟨fun m es hs => ∃ (i : Nat), (m + i = l.length) ∧ es = [(14, .val false [.f (iL i)]), (13, .val false [.f (iL l.length)]), (12, .val false [.f (hos l)]), (9, .val false [.f (iL (modeF d (l.take i) s node))]), (3, .val false [.f (iL node)]), (2, .val false [.f (iL s)]), (0, .val false [.f (.pv (dcL d))])] ∧ hs = [], ⟨l.length, [], [], _, _, don, 0, don, rfl, rfl⟩, ?_⟩; rintro m _ _ ⟨i, hMOD0, rfl, rfl⟩; refine nx ?_)
  refine ⟨fun h => nx ?_, fun h => nx ?_⟩
  have hi : i < l.length := by omega
  refine ⟨(i, hoL l[i]), ⟨rfl, by simp [hi]⟩, nx ?_⟩
  have hst := mode_take (d := d) (s := s) (node := node) hi
  by_cases k : l[i].session = s
  refine ⟨fun h => nx ?_, fun h => absurd h (fun w => w k)⟩
  refine ⟨([], _), need_ok d hd l[i] (hl.has _ (List.getElem_mem _)) node, nx ?_⟩
  refine ⟨([], _), joined_ok (modeF d (l.take i) s node) (needF d l[i] node), nx ?_⟩
  rw [if_pos k] at hst
  exact ⟨m - 1, [], [], _, _, by omega, don, (i + 1), don, rfl, rfl⟩
  refine ⟨fun h => absurd h (k), fun h => nx ?_⟩
  rw [if_neg k] at hst
  exact ⟨m - 1, [], [], _, _, by omega, don, (i + 1), don, rfl, rfl⟩
  have hi : l.length ≤ i := by omega
  rw [List.take_of_length_le hi]
  exact ⟨[], [], don⟩
theorem l07At_ok (d : Dc) (hd : DOK d) (l : List Ho) (hl : HoldG d l) (s node : Int) : FC Tryz.prog 126 [(true, dcL d), (false, [hos l]), (false, [iL s]), (false, [iL node])] [] [(false, [.f (iL (modeF d l s node))])] := by
  have hlen := hl.len
  refine gr Tryz.func126 Tryz.ntmps126 trivial ?_
  (refine ⟨fun m es hs => ∃ (i : Nat), (m + i = l.length) ∧ es = [(10, .val false [.f (iL i)]), (9, .val false [.f (iL (modeF d (l.take i) s node))]), (4, .val false [.pt 80 0 0]), (3, .val false [.f (iL node)]), (2, .val false [.f (iL s)]), (1, .val false [.f (hos l)])] ∧ hs = [(80, some ⟨3, 3, [(dcL d).map .f]⟩)], ⟨l.length, [], [], _, _, don, 0, don, rfl, rfl⟩, ?_⟩; rintro m _ _ ⟨i, hMOS0, rfl, rfl⟩; refine nx ?_)
  refine ⟨fun h => nx ?_, fun h => nx ?_⟩
  have hi : i < l.length := by simpa using h
  refine ⟨(i, hoL l[i]), ⟨rfl, by simp [hi]⟩, nx ?_⟩
  have hst := mode_take (d := d) (s := s) (node := node) hi
  have hmd : Md (modeF d (l.take i) s node) := mode_md (fun h hh => hl.md h (List.mem_of_mem_take hh)) _ _
  have hpl := path_len d l[i].node
  have hhas := l02Has_ok (pathF d l[i].node) node (by omega)
  by_cases k : l[i].session = s
  rw [if_pos k] at hst
  refine ⟨fun h => absurd h (fun w => w k), fun h => nx ?_⟩
  by_cases k2 : l[i].node = node
  have hnd : needF d l[i] node = l[i].mode := by unfold needF; rw [if_pos k2]
  rw [hnd] at hst
  refine ⟨fun h => nx ?_, fun h => absurd h (fun w => w k2)⟩
  refine ⟨([], _), l07Join_ok (modeF d (l.take i) s node) l[i].mode, nx ?_⟩
  exact ⟨m - 1, [], [], _, _, by omega, don, (i + 1), don, rfl, rfl⟩
  refine ⟨fun h => absurd h (k2), fun h => nx ?_⟩
  refine ⟨(_, _), l02Path_ok d hd l[i].node (hl.has _ (List.getElem_mem _)), nx ?_⟩
  by_cases k3 : node ∈ pathF d l[i].node
  have hnd : needF d l[i] node = intM l[i].mode := by unfold needF; rw [if_neg k2, if_pos (mem_path.1 k3)]
  rw [hnd] at hst
  refine ⟨⟨true, [], _, _, _, _⟩, hhas.t k3, cd ?_⟩
  refine ⟨([], _), l07Intent_ok l[i].mode, nx ?_⟩
  refine ⟨([], _), l07Join_ok (modeF d (l.take i) s node) (intM l[i].mode), nx ?_⟩
  exact ⟨m - 1, [], [], _, _, by omega, don, (i + 1), don, rfl, rfl⟩
  have hnd : needF d l[i] node = 0 := by unfold needF; rw [if_neg k2, if_neg (fun w => k3 (mem_path.2 w))]
  rw [hnd, join_zero hmd] at hst
  refine ⟨⟨true, [], _, _, _, _⟩, hhas.n k3, cd ?_⟩
  exact ⟨m - 1, [], [], _, _, by omega, don, (i + 1), don, rfl, rfl⟩
  rw [if_neg k] at hst
  refine ⟨fun h => nx ?_, fun h => absurd h (fun w => w k)⟩
  exact ⟨m - 1, [], [], _, _, by omega, don, (i + 1), don, rfl, rfl⟩
  have hi : l.length ≤ i := by simpa using h
  rw [List.take_of_length_le hi]
  exact ⟨[], [], don⟩
theorem wanted_ok (d : Dc) (hd : DOK d) (l : List Ho) (hl : HoldG d l) (h : Ho) (h1 : (ndAt d.nodes h.node).isSome) (node : Int) : FC Tryz.prog 320 [(false, [.pv (dcL d)]), (false, [hos l]), (true, hoL h), (false, [iL node])] [] [(false, [.f (iL (wantF d l h node))])] := by
  refine gr Tryz.func320 Tryz.ntmps320 trivial ?_
  refine ⟨([], _), mode_ok d hd l hl h.session node, nx ?_⟩
  refine ⟨([], _), need_ok d hd h h1 node, nx ?_⟩
  refine ⟨([], _), joined_ok (modeF d l h.session node) (needF d h node), nx ?_⟩
  exact ⟨[], [], don⟩
end Go.Proofs.YtecnmodeggnjoaaGreat.Ac
set_option linter.unusedVariables false
set_option linter.unusedSimpArgs false
set_option maxRecDepth 20000
set_option maxHeartbeats 8000000
namespace Go.Proofs.YtecnmodeggnjoaaGreat.Ac
open Go.RowKit
theorem docOK_ok (d : Dc) (h64 : Dc64 d) : FC Tryz.prog 139 [(true, dcL d)] [] [(false, [.f (bL (dokB d))])] := by
  by_cases c1 : 1 ≤ (d.nodes.length : Int) ∧ (d.nodes.length : Int) ≤ 40
  rotate_left
  · rw [dokB_no fun h => c1 (by have := h.1; omega)]
    refine en Tryz.func139 Tryz.ntmps139 trivial ?_
    refine nw ?_
    refine ⟨([], _), within_f (by simpa using c1), ?_⟩
    refine nw ?_
    refine ⟨[], [], ?_⟩
    exact tel
  by_cases c2 : 2 ≤ d.next ∧ d.next ≤ 999999
  rotate_left
  · rw [dokB_no fun h => c2 h.2.1]
    refine en Tryz.func139 Tryz.ntmps139 trivial ?_
    refine nw ?_
    refine ⟨([], _), within_t (by simpa using c1), ?_⟩
    refine nw ?_
    refine ⟨([], _), within_f c2, ?_⟩
    refine nw ?_
    refine ⟨[], [], ?_⟩
    exact tel
  refine en Tryz.func139 Tryz.ntmps139 trivial ?_
  refine nw ?_
  refine ⟨([], _), within_t (by simpa using c1), ?_⟩
  refine nw ?_
  refine ⟨([], _), within_t c2, ?_⟩
  refine nw ?_
  refine ⟨fun (m : Nat) (es : Es) (hs : Hs) => ∃ i : Nat, m + i = d.nodes.length ∧ (∀ t (h : t < d.nodes.length), t < i → StepOK d.next d.nodes t h) ∧ es = [(24, .val false [.f (iL i)]), (23, .val false [.f (iL d.nodes.length)]), (22, .val false [.f (nds d.nodes)]), (1, .val false [.pt 32 0 0])] ∧ hs = [(32, some ⟨3, 3, [(dcL d).map .f]⟩)],
    ⟨d.nodes.length, [], [], _, _, ⟨?_, ?_, ?_⟩, 0, rfl, fun t h h' => by omega, rfl, rfl⟩, ?_⟩
  · rfl
  · refine tel1 ?_
    simp
  · exact tel
  rintro m es hs ⟨i, hm, hst, rfl, rfl⟩
  refine nw ?_
  refine ⟨fun h => ?_, fun h => ?_⟩
  · have hi : i < d.nodes.length := by omega
    refine nw ?_
    refine ⟨(i, ndL d.nodes[i]), ⟨rfl, by simp [hi]⟩, ?_⟩
    refine nw ?_
    refine ⟨by kernel_rfl, ?_⟩
    have hw : IntKind.i64.wrap (d.next - 1) = d.next - 1 := by rw [IntKind.wrap_i64]; omega
    refine nw ?_
    by_cases k1 : 1 ≤ d.nodes[i].id ∧ d.nodes[i].id ≤ d.next - 1
    rotate_left
    · refine ⟨([], _), within_f (by rw [hw]; exact k1), ?_⟩
      refine nw ?_
      refine ⟨by kernel_rfl, ?_⟩
      refine nw ?_
      refine ⟨[], [], ?_⟩
      refine tel1 ?_
      exact (dokB_no fun h => k1 (h.2.2.1 i hi).1.1).symm
    refine ⟨([], _), within_t (by rw [hw]; exact k1), ?_⟩
    refine nw ?_
    refine ⟨fun k0 => ?_, fun k0 => ?_⟩
    · have hi1 : i - 1 < d.nodes.length := by omega
      refine nw ?_
      refine ⟨(i - 1, ndL d.nodes[i - 1]), ⟨?_, by simp [hi1]⟩, ?_⟩
      · rw [IntKind.wrap_i64]; omega
      refine nw ?_
      refine ⟨fun k2 => ?_, fun k2 => ?_⟩
      · skip
        refine nw ?_
        refine ⟨by kernel_rfl, ?_⟩
        refine nw ?_
        refine ⟨[], [], ?_⟩
        refine tel1 ?_
        exact (dokB_no fun h => by have := (h.2.2.1 i hi).2 (i - 1) (by omega); omega).symm
      refine nw ?_
      by_cases k3 : 1 ≤ d.nodes[i].kind ∧ d.nodes[i].kind ≤ 8
      rotate_left
      · refine ⟨([], _), within_f k3, ?_⟩
        refine nw ?_
        refine ⟨by kernel_rfl, ?_⟩
        refine nw ?_
        refine ⟨[], [], ?_⟩
        refine tel1 ?_
        exact (dokB_no fun h => k3 (h.2.2.1 i hi).1.2.1).symm
      refine ⟨([], _), within_t k3, ?_⟩
      refine nw ?_
      by_cases k4 : 0 ≤ d.nodes[i].attr ∧ d.nodes[i].attr ≤ 99
      rotate_left
      · refine ⟨([], _), within_f k4, ?_⟩
        refine nw ?_
        refine ⟨by kernel_rfl, ?_⟩
        refine nw ?_
        refine ⟨[], [], ?_⟩
        refine tel1 ?_
        exact (dokB_no fun h => k4 (h.2.2.1 i hi).1.2.2.1).symm
      refine ⟨([], _), within_t k4, ?_⟩
      refine nw ?_
      refine ⟨fun k5 => ?_, fun k5 => ?_⟩
      · skip
        refine nw ?_
        refine ⟨by kernel_rfl, ?_⟩
        refine nw ?_
        refine ⟨[], [], ?_⟩
        refine tel1 ?_
        exact (dokB_no fun h => by have := (h.2.2.1 i hi).1.2.2.2.1; omega).symm
      refine nw ?_
      refine ⟨fun k6 => ?_, fun k6 => ?_⟩
      · skip
        refine nw ?_
        refine ⟨by kernel_rfl, ?_⟩
        refine nw ?_
        refine ⟨[], [], ?_⟩
        refine tel1 ?_
        exact (dokB_no fun h => by have := (h.2.2.1 i hi).1.2.2.2.2; simp at k6; omega).symm
      refine nw ?_
      refine ⟨by kernel_rfl, ?_⟩
      refine nw ?_
      refine ⟨m - 1, [], [], [(24, .val false [.f (iL (i + 1 : Nat))]), (23, .val false [.f (iL d.nodes.length)]), (22, .val false [.f (nds d.nodes)]), (1, .val false [.pt 32 0 0])], [(32, some ⟨3, 3, [(dcL d).map .f]⟩)], by omega, ⟨?_, ?_, ?_⟩, i + 1, by omega, ?_, rfl, rfl⟩
      · rfl
      · refine tel1 ?_
        exact wrap_suc (by omega)
      · exact tel
      · intro t ht hlt
        by_cases e : t = i
        · subst e
          exact ⟨⟨k1, k3, k4, by omega, by simp at k6; omega⟩, fun j hj => prev_lt hj ht hi1 k2⟩
        · exact hst t ht (by omega)
    · refine nw ?_
      by_cases k3 : 1 ≤ d.nodes[i].kind ∧ d.nodes[i].kind ≤ 8
      rotate_left
      · refine ⟨([], _), within_f k3, ?_⟩
        refine nw ?_
        refine ⟨by kernel_rfl, ?_⟩
        refine nw ?_
        refine ⟨[], [], ?_⟩
        refine tel1 ?_
        exact (dokB_no fun h => k3 (h.2.2.1 i hi).1.2.1).symm
      refine ⟨([], _), within_t k3, ?_⟩
      refine nw ?_
      by_cases k4 : 0 ≤ d.nodes[i].attr ∧ d.nodes[i].attr ≤ 99
      rotate_left
      · refine ⟨([], _), within_f k4, ?_⟩
        refine nw ?_
        refine ⟨by kernel_rfl, ?_⟩
        refine nw ?_
        refine ⟨[], [], ?_⟩
        refine tel1 ?_
        exact (dokB_no fun h => k4 (h.2.2.1 i hi).1.2.2.1).symm
      refine ⟨([], _), within_t k4, ?_⟩
      refine nw ?_
      refine ⟨fun k5 => ?_, fun k5 => ?_⟩
      · skip
        refine nw ?_
        refine ⟨by kernel_rfl, ?_⟩
        refine nw ?_
        refine ⟨[], [], ?_⟩
        refine tel1 ?_
        exact (dokB_no fun h => by have := (h.2.2.1 i hi).1.2.2.2.1; omega).symm
      refine nw ?_
      refine ⟨fun k6 => ?_, fun k6 => ?_⟩
      · skip
        refine nw ?_
        refine ⟨by kernel_rfl, ?_⟩
        refine nw ?_
        refine ⟨[], [], ?_⟩
        refine tel1 ?_
        exact (dokB_no fun h => by have := (h.2.2.1 i hi).1.2.2.2.2; simp at k6; omega).symm
      refine nw ?_
      refine ⟨by kernel_rfl, ?_⟩
      refine nw ?_
      refine ⟨m - 1, [], [], [(24, .val false [.f (iL (i + 1 : Nat))]), (23, .val false [.f (iL d.nodes.length)]), (22, .val false [.f (nds d.nodes)]), (1, .val false [.pt 32 0 0])], [(32, some ⟨3, 3, [(dcL d).map .f]⟩)], by omega, ⟨?_, ?_, ?_⟩, i + 1, by omega, ?_, rfl, rfl⟩
      · rfl
      · refine tel1 ?_
        exact wrap_suc (by omega)
      · exact tel
      · intro t ht hlt
        by_cases e : t = i
        · subst e
          exact ⟨⟨k1, k3, k4, by omega, by simp at k6; omega⟩, fun j hj => by omega⟩
        · exact hst t ht (by omega)
  · have hi : d.nodes.length = i := by omega
    refine nw ?_
    refine ⟨fun (m : Nat) (es : Es) (hs : Hs) => ∃ i : Nat, m + i = d.nodes.length ∧ SetOK d.root d.nodes (kidsTo d.nodes i) ∧ es = [(81, .val false [.f (iL i)]), (80, .val false [.f (iL d.nodes.length)]), (79, .val false [.f (nds d.nodes)]), (5, .val false [.mp 1248]), (1, .val false [.pt 32 0 0])] ∧ hs = [(1248, some ⟨4, 2, mpR (setM (kidsTo d.nodes i))⟩), (32, some ⟨3, 3, [(dcL d).map .f]⟩)],
      ⟨d.nodes.length, [], [], _, _, ⟨?_, ?_, ?_⟩, 0, rfl, ⟨by simp [kidsTo], fun k hk => by simp [kidsTo] at hk⟩, rfl, rfl⟩, ?_⟩
    · rfl
    · refine tel1 ?_
      simp
    · exact tel
    have hst' : ∀ t (h : t < d.nodes.length), StepOK d.next d.nodes t h := fun t h => hst t h (by omega)
    have hR : Rise d.nodes := rise_of c2.2 hst'
    clear hst hm h
    subst hi
    rintro m es hs ⟨i, hm, hset, rfl, rfl⟩
    refine nw ?_
    refine ⟨fun h => ?_, fun h => ?_⟩
    · have hi : i < d.nodes.length := by omega
      refine nw ?_
      refine ⟨(i, ndL d.nodes[i]), ⟨rfl, by simp [hi]⟩, ?_⟩
      refine nw ?_
      refine ⟨fun (m2 : Nat) (es : Es) (hs : Hs) => ∃ j : Nat, m2 + j = d.nodes[i].kids.length ∧ SetOK d.root d.nodes (kidsTo d.nodes i ++ d.nodes[i].kids.take j) ∧ es = [(88, .val false [.f (iL j)]), (87, .val false [.f (iL d.nodes[i].kids.length)]), (86, .val false [.f (ints d.nodes[i].kids)]), (81, .val false [.f (iL i)]), (80, .val false [.f (iL d.nodes.length)]), (79, .val false [.f (nds d.nodes)]), (5, .val false [.mp 1248]), (1, .val false [.pt 32 0 0])] ∧ hs = [(1248, some ⟨4, 2, mpR (setM (kidsTo d.nodes i ++ d.nodes[i].kids.take j))⟩), (32, some ⟨3, 3, [(dcL d).map .f]⟩)],
        ⟨d.nodes[i].kids.length, [], [], _, _, ⟨?_, ?_, ?_⟩, 0, rfl, by simpa using hset, rfl, rfl⟩, ?_⟩
      · rfl
      · refine tel1 ?_
        simp
      · refine tel1 ?_
        all_goals simp
      rintro m2 es hs ⟨j, hm2, hset2, rfl, rfl⟩
      refine nw ?_
      refine ⟨fun h => ?_, fun h => ?_⟩
      · have hj : j < d.nodes[i].kids.length := by omega
        obtain ⟨rest, hsp⟩ := kids_split hi hj
        refine nw ?_
        refine ⟨(j, intE d.nodes[i].kids[j]), ⟨rfl, by simp [hj]⟩, ?_⟩
        refine nw ?_
        have hk64 := h64.2 d.nodes[i] (List.getElem_mem _) d.nodes[i].kids[j] (List.getElem_mem _)
        have hhas := has_ok d d.nodes[i].kids[j] hR hk64 (by omega)
        have hget := setM_get (kidsTo d.nodes i ++ d.nodes[i].kids.take j) d.nodes[i].kids[j]
        by_cases k1 : d.nodes[i].kids[j] ∈ kidsTo d.nodes i ++ d.nodes[i].kids.take j
        · rw [decide_eq_true k1] at hget
          refine ⟨(_, .bool true), ⟨rfl, hget⟩, ?_⟩
          refine nw ?_
          refine ⟨[], [], ?_⟩
          refine tel1 ?_
          exact (dokB_no fun h => (set_bad (hsp ▸ h.2.2.2.1)).1 k1).symm
        rw [decide_eq_false k1] at hget
        refine ⟨(_, .bool false), ⟨rfl, hget⟩, ?_⟩
        refine nw ?_
        refine ⟨fun k2 => ?_, fun k2 => ?_⟩
        · skip
          refine nw ?_
          refine ⟨[], [], ?_⟩
          refine tel1 ?_
          exact (dokB_no fun h => (set_bad (hsp ▸ h.2.2.2.1)).2.1 k2).symm
        refine nw ?_
        cases k3 : (ndAt d.nodes d.nodes[i].kids[j]).isSome with
        | false =>
          rw [k3] at hhas
          refine ⟨⟨true, [], _, _, _, _⟩, hhas, ?_⟩
          refine nw ?_
          refine ⟨⟨?_, ?_, ?_⟩, ?_⟩
          · exact tel
          · exact tel
          · exact tel
          refine nw ?_
          refine ⟨[], [], ?_⟩
          refine tel1 ?_
          exact (dokB_no fun h => by have := (set_bad (hsp ▸ h.2.2.2.1)).2.2; rw [k3] at this; cases this).symm
        | true =>
          rw [k3] at hhas
          refine ⟨⟨true, [], _, _, _, _⟩, hhas, ?_⟩
          refine nw ?_
          refine ⟨⟨?_, ?_, ?_⟩, ?_⟩
          · exact tel
          · exact tel
          · exact tel
          refine nw ?_
          refine ⟨_, rfl, ?_⟩
          refine nw ?_
          refine ⟨m2 - 1, [], [], [(88, .val false [.f (iL (j + 1 : Nat))]), (87, .val false [.f (iL d.nodes[i].kids.length)]), (86, .val false [.f (ints d.nodes[i].kids)]), (81, .val false [.f (iL i)]), (80, .val false [.f (iL d.nodes.length)]), (79, .val false [.f (nds d.nodes)]), (5, .val false [.mp 1248]), (1, .val false [.pt 32 0 0])], [(1248, some ⟨4, 2, mpR (setM (kidsTo d.nodes i ++ d.nodes[i].kids.take (j + 1)))⟩), (32, some ⟨3, 3, [(dcL d).map .f]⟩)], by omega, ⟨?_, ?_, ?_⟩, j + 1, by omega, ?_, rfl, rfl⟩
          · rfl
          · refine tel1 ?_
            exact wrap_suc (by have := (hst' i hi).1.2.2.2.2; omega)
          · refine tel1 ?_
            dsimp only
            rw [setM_put k1, List.take_succ_eq_append_getElem hj, List.append_assoc]
          · rw [List.take_succ_eq_append_getElem hj, ← List.append_assoc]
            exact set_step hset2 k1 k2 k3
      · have hj : d.nodes[i].kids.length = j := by omega
        have hks : kidsTo d.nodes i ++ d.nodes[i].kids.take j = kidsTo d.nodes (i + 1) := by rw [kidsTo_step hi, ← hj, List.take_length]
        rw [hks] at hset2 ⊢
        refine nw ?_
        refine ⟨m - 1, [], [], [(81, .val false [.f (iL (i + 1 : Nat))]), (80, .val false [.f (iL d.nodes.length)]), (79, .val false [.f (nds d.nodes)]), (5, .val false [.mp 1248]), (1, .val false [.pt 32 0 0])], [(1248, some ⟨4, 2, mpR (setM (kidsTo d.nodes (i + 1)))⟩), (32, some ⟨3, 3, [(dcL d).map .f]⟩)], by omega, ⟨?_, ?_, ?_⟩, i + 1, by omega, hset2, rfl, rfl⟩
        · rfl
        · refine tel1 ?_
          exact wrap_suc (by omega)
        · exact tel
    · have hi : d.nodes.length = i := by omega
      have hset' : SetOK d.root d.nodes (kidsAll d.nodes) := by rw [← kidsTo_all, hi]; exact hset
      have hkl : (mpR (setM (kidsTo d.nodes i))).length = (kidsAll d.nodes).length := by rw [← kidsTo_all, hi]; simp [mpR, setM]
      have hhas := has_ok d d.root hR h64.1 (by omega)
      have hK : Kids d.nodes := fun n hn c hc => Option.isSome_iff_exists.1 (hset'.2 c (List.mem_flatMap.2 ⟨n, hn, hc⟩)).2
      have hks : ∀ n ∈ d.nodes, n.kids.length < 2 ^ 62 := fun n hn => by
        obtain ⟨t, ht, rfl⟩ := List.mem_iff_getElem.1 hn
        have := (hst' t ht).1.2.2.2.2; omega
      refine nw ?_
      cases k3 : (ndAt d.nodes d.root).isSome with
      | false =>
        rw [k3] at hhas
        refine ⟨⟨true, [], _, _, _, _⟩, hhas, ?_⟩
        refine nw ?_
        refine ⟨⟨?_, ?_, ?_⟩, ?_⟩
        · exact tel
        · exact tel
        · exact tel
        refine nw ?_
        refine ⟨[], [], ?_⟩
        refine tel1 ?_
        exact (dokB_no fun h => by have := h.2.2.2.2.1.1; rw [k3] at this; cases this).symm
      | true =>
        rw [k3] at hhas
        obtain ⟨n0, hn0⟩ := Option.isSome_iff_exists.1 k3
        refine ⟨⟨true, [], _, _, _, _⟩, hhas, ?_⟩
        refine nw ?_
        refine ⟨⟨?_, ?_, ?_⟩, ?_⟩
        · exact tel
        · exact tel
        · exact tel
        refine nw ?_
        have hw : IntKind.i64.wrap (((d.nodes.map ndL).length : Int) - 1) = (d.nodes.length : Int) - 1 := by rw [IntKind.wrap_i64]; simp; omega
        refine ⟨fun k4 => ?_, fun k4 => ?_⟩
        · rw [hkl, hw] at k4
          refine nw ?_
          refine ⟨[], [], ?_⟩
          refine tel1 ?_
          exact (dokB_no fun h => k4 (by have := h.2.2.2.2.1.2.1; omega)).symm
        rw [hkl, hw] at k4
        refine nw ?_
        have hd := isDeep_ok d hR hK (by omega) hks hn0
        by_cases k5 : 6 < depthF d.nodes 7 d.root
        · rw [decide_eq_true k5] at hd
          refine ⟨⟨true, [], _, _, _, _⟩, hd, ?_⟩
          refine nw ?_
          refine ⟨⟨?_, ?_, ?_⟩, ?_⟩
          · exact tel
          · exact tel
          · exact tel
          refine nw ?_
          refine ⟨[], [], ?_⟩
          refine tel1 ?_
          exact (dokB_no fun h => by have := h.2.2.2.2.1.2.2; omega).symm
        rw [decide_eq_false k5] at hd
        refine ⟨⟨true, [], _, _, _, _⟩, hd, ?_⟩
        refine nw ?_
        refine ⟨⟨?_, ?_, ?_⟩, ?_⟩
        · exact tel
        · exact tel
        · exact tel
        refine nw ?_
        have h12 : ∀ n ∈ d.nodes, n.kids.length ≤ 12 := fun n hn => by
          obtain ⟨t, ht, rfl⟩ := List.mem_iff_getElem.1 hn
          exact (hst' t ht).1.2.2.2.2
        have hol := orderF_len h12 6 d.root
        have ho := order_ok d hR (by omega) hks 6 d.root (depthF_fits hK 6 d.root k3 (Nat.le_of_not_lt k5)) [] (by simp; omega)
        refine ⟨by kernel_rfl, ?_⟩
        refine nw ?_
        refine ⟨⟨true, [(1, 7)], _, _, _, _⟩, ho, ?_⟩
        refine nw ?_
        refine ⟨⟨?_, ?_, ?_⟩, ?_⟩
        · exact tel
        · exact tel
        · exact tel
        refine nw ?_
        have hl : (([] : List Int) ++ orderF d.nodes 6 d.root).length = (orderF d.nodes 6 d.root).length := rfl
        refine ⟨fun k6 => ?_, fun k6 => ?_⟩
        · refine nw ?_
          refine ⟨by kernel_rfl, ?_⟩
          refine nw ?_
          refine ⟨[], [], ?_⟩
          refine tel1 ?_
          refine (dokB_yes ⟨by omega, c2, hst', hset', ⟨k3, ?_, Nat.le_of_not_lt k5⟩, ?_⟩).symm
          · omega
          · simp at k6; omega
        · refine nw ?_
          refine ⟨by kernel_rfl, ?_⟩
          refine nw ?_
          refine ⟨[], [], ?_⟩
          refine tel1 ?_
          refine (dokB_no fun h => k6 ?_).symm
          have := h.2.2.2.2.2
          simp; omega
end Go.Proofs.YtecnmodeggnjoaaGreat.Ac
