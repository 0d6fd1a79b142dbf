/- Several of our texts, one behind the other, without what this claim does not need: Lc. -/
import Derived.Test.YtchfpgpboifbeaaGreatZ1dd51d36
import Derived.Test.YtchfpgpboifbeaaGreatZc0fb2b0b
set_option linter.unusedVariables false
set_option linter.unusedSimpArgs false
set_option maxRecDepth 20000
set_option maxHeartbeats 20000000
namespace Go.Proofs.YtchfpgpboifbeaaGreat.Ac
open Go.RowKit
theorem path7_ok (d : Dc) (hd : DOK d) (id : Int) (h1 : (ndAt d.nodes id).isSome) : FC Tryz.prog 202 [(false, [.pv (dcL d)]), (false, [iL id])] [(1000, some ⟨0, 1, (pathF d id).map intW⟩)] [(false, [.row 1000 0 (pathF d id).length])] := by
  have h := path_ok d id 7 (hd.up h1) hd.par0 (by omega) (by have := hd.len; omega) (fun n hn => by have := hd.kl' n hn; omega)
  unfold pathF
  rw [List.length_reverse]
  exact h
theorem path_len (d : Dc) (id : Int) : (pathF d id).length ≤ 7 := by unfold pathF; rw [List.length_reverse]; exact upsF_len _ _ _
theorem need_ok (d : Dc) (hd : DOK d) (x : Ho) (h1 : (ndAt d.nodes x.node).isSome) (node : Int) : FC Tryz.prog 270 [(false, [.pv (dcL d)]), (true, hoL x), (false, [iL node])] [] [(false, [.f (iL (needF d x node))])] := by
  have hin := isIn_ok d x.node node 7 (hd.up h1) hd.par0 (by omega) (by have := hd.len; omega) (fun n hn => by have := hd.kl' n hn; omega)
  by_cases k : x.node = node
  · have q : needF d x node = x.mode := by unfold needF; rw [if_pos k]
    refine gcalls_run tbl_ok mixed Tryz.func270 rfl Tryz.ntmps270 (by kernel_rfl) (Nat.le_of_ble_eq_true rfl) rfl rfl trivial ?_; (conv => whnf); (repeat (refine ⟨by kernel_rfl, ?_⟩; (conv => whnf)))
    (refine ⟨fun h => ?_, fun h => absurd h (fun w => w k)⟩; (conv => whnf); (repeat (refine ⟨by kernel_rfl, ?_⟩; (conv => whnf))))
    (refine ⟨[], [], ?_⟩; rotate_left)
    all_goals try exact don
  by_cases k2 : node ∈ upsF d.nodes 7 x.node
  · have q : needF d x node = intM x.mode := by unfold needF; rw [if_neg k, if_pos k2]
    refine gcalls_run tbl_ok mixed Tryz.func270 rfl Tryz.ntmps270 (by kernel_rfl) (Nat.le_of_ble_eq_true rfl) rfl rfl trivial ?_; (conv => whnf); (repeat (refine ⟨by kernel_rfl, ?_⟩; (conv => whnf)))
    (refine ⟨fun h => absurd h (k), fun h => ?_⟩; (conv => whnf); (repeat (refine ⟨by kernel_rfl, ?_⟩; (conv => whnf))))
    (refine ⟨([], _), hin.t k2, ?_⟩; (conv => whnf); (repeat (refine ⟨by kernel_rfl, ?_⟩; (conv => whnf))))
    (refine ⟨([], _), intent_ok x.mode, ?_⟩; (conv => whnf); (repeat (refine ⟨by kernel_rfl, ?_⟩; (conv => whnf))))
    (refine ⟨[], [], ?_⟩; rotate_left)
    all_goals try exact don
  · have q : needF d x node = 0 := by unfold needF; rw [if_neg k, if_neg k2]
    refine gcalls_run tbl_ok mixed Tryz.func270 rfl Tryz.ntmps270 (by kernel_rfl) (Nat.le_of_ble_eq_true rfl) rfl rfl trivial ?_; (conv => whnf); (repeat (refine ⟨by kernel_rfl, ?_⟩; (conv => whnf)))
    (refine ⟨fun h => absurd h (k), fun h => ?_⟩; (conv => whnf); (repeat (refine ⟨by kernel_rfl, ?_⟩; (conv => whnf))))
    (refine ⟨([], _), hin.n k2, ?_⟩; (conv => whnf); (repeat (refine ⟨by kernel_rfl, ?_⟩; (conv => whnf))))
    (refine ⟨[], [], ?_⟩; rotate_left)
    all_goals try exact don
theorem l07Need_ok (x : Ho) (node : Int) : FC Tryz.prog 282 [(true, hoL x), (false, [iL node])] [] [(false, [.f (iL (if x.node = node then x.mode else intM x.mode))])] := by
  by_cases k : x.node = node
  · rw [if_pos k]
    refine gcalls_run tbl_ok mixed Tryz.func282 rfl Tryz.ntmps282 (by kernel_rfl) (Nat.le_of_ble_eq_true rfl) rfl rfl trivial ?_; (conv => whnf); (repeat (refine ⟨by kernel_rfl, ?_⟩; (conv => whnf)))
    (refine ⟨fun h => ?_, fun h => absurd h (fun w => w k.symm)⟩; (conv => whnf); (repeat (refine ⟨by kernel_rfl, ?_⟩; (conv => whnf))))
    (refine ⟨[], [], ?_⟩; rotate_left)
    all_goals try exact don
  · rw [if_neg k]
    refine gcalls_run tbl_ok mixed Tryz.func282 rfl Tryz.ntmps282 (by kernel_rfl) (Nat.le_of_ble_eq_true rfl) rfl rfl trivial ?_; (conv => whnf); (repeat (refine ⟨by kernel_rfl, ?_⟩; (conv => whnf)))
    (refine ⟨fun h => absurd h (fun w => k w.symm), fun h => ?_⟩; (conv => whnf); (repeat (refine ⟨by kernel_rfl, ?_⟩; (conv => whnf))))
    (refine ⟨([], _), l07Intent_ok x.mode, ?_⟩; (conv => whnf); (repeat (refine ⟨by kernel_rfl, ?_⟩; (conv => whnf))))
    (refine ⟨[], [], ?_⟩; rotate_left)
    all_goals try exact don
theorem need_on {d : Dc} {h : Ho} {node : Int} (hm : node ∈ pathF d h.node) : (if h.node = node then h.mode else intM h.mode) = needF d h node := by
  unfold needF
  rw [if_pos (mem_path.1 hm)]
theorem mode_take {d : Dc} {l : List Ho} {s node : Int} {i : Nat} (hi : i < l.length) : modeF d (l.take (i + 1)) s node = if l[i].session = s then joinM (modeF d (l.take i) s node) (needF d l[i] node) else modeF d (l.take i) s node := by
  unfold modeF
  rw [List.take_succ_eq_append_getElem hi, List.foldl_append]; rfl
structure HoldG (d : Dc) (l : List Ho) : Prop where
  len : l.length < 2 ^ 20
  has : ∀ h ∈ l, (ndAt d.nodes h.node).isSome
  md : ∀ h ∈ l, Md h.mode
theorem mode_ok (d : Dc) (hd : DOK d) (l : List Ho) (hl : HoldG d l) (s node : Int) : FC Tryz.prog 215 [(false, [.pv (dcL d)]), (false, [hos l]), (false, [iL s]), (false, [iL node])] [] [(false, [.f (iL (modeF d l s node))])] := by
  have hlen := hl.len
  refine gcalls_run tbl_ok mixed Tryz.func215 rfl Tryz.ntmps215 (by kernel_rfl) (Nat.le_of_ble_eq_true rfl) rfl rfl trivial ?_; (conv => whnf); (repeat (refine ⟨by kernel_rfl, ?_⟩; (conv => whnf)))
  (refine ⟨fun (m : Nat) (es : Es) (hs : Hs) => ∃ (i : Nat), (m + i = l.length) ∧ es = [(14, .val false [.f (iL i)]), (13, .val false [.f (iL l.length)]), (12, .val false [.f (hos l)]), (9, .val false [.f (iL (modeF d (l.take i) s node))]), (3, .val false [.f (iL node)]), (2, .val false [.f (iL s)]), (0, .val false [.f (.pv (dcL d))])] ∧ hs = [], ⟨l.length, [], [], _, _, ⟨rfl, ?_, ?_⟩, 0, ?_, rfl, rfl⟩, ?_⟩; rotate_left 3; rintro m es hs ⟨i, hMOD0, rfl, rfl⟩; (conv => whnf); (repeat (refine ⟨by kernel_rfl, ?_⟩; (conv => whnf))))
  (refine ⟨fun h => ?_, fun h => ?_⟩ <;> ((conv => whnf); (repeat (refine ⟨by kernel_rfl, ?_⟩; (conv => whnf)))))
  have hi : i < l.length := by omega
  (refine ⟨(i, hoL l[i]), ⟨rfl, by simp [hi]⟩, ?_⟩; (conv => whnf); (repeat (refine ⟨by kernel_rfl, ?_⟩; (conv => whnf))))
  have hst := mode_take (d := d) (s := s) (node := node) hi
  by_cases k : l[i].session = s
  (refine ⟨fun h => ?_, fun h => absurd h (fun w => w k)⟩; (conv => whnf); (repeat (refine ⟨by kernel_rfl, ?_⟩; (conv => whnf))))
  (refine ⟨([], _), need_ok d hd l[i] (hl.has _ (List.getElem_mem _)) node, ?_⟩; (conv => whnf); (repeat (refine ⟨by kernel_rfl, ?_⟩; (conv => whnf))))
  (refine ⟨([], _), joined_ok (modeF d (l.take i) s node) (needF d l[i] node), ?_⟩; (conv => whnf); (repeat (refine ⟨by kernel_rfl, ?_⟩; (conv => whnf))))
  rw [if_pos k] at hst
  (refine ⟨m - 1, [], [], [(14, .val false [.f (iL (i + 1))]), (13, .val false [.f (iL l.length)]), (12, .val false [.f (hos l)]), (9, .val false [.f (iL (modeF d (l.take (i + 1)) s node))]), (3, .val false [.f (iL node)]), (2, .val false [.f (iL s)]), (0, .val false [.f (.pv (dcL d))])], [], by omega, ⟨rfl, ?_, ?_⟩, (i + 1), ?_, rfl, rfl⟩; rotate_left 3)
  (refine ⟨fun h => absurd h (k), fun h => ?_⟩; (conv => whnf); (repeat (refine ⟨by kernel_rfl, ?_⟩; (conv => whnf))))
  rw [if_neg k] at hst
  (refine ⟨m - 1, [], [], [(14, .val false [.f (iL (i + 1))]), (13, .val false [.f (iL l.length)]), (12, .val false [.f (hos l)]), (9, .val false [.f (iL (modeF d (l.take (i + 1)) s node))]), (3, .val false [.f (iL node)]), (2, .val false [.f (iL s)]), (0, .val false [.f (.pv (dcL d))])], [], by omega, ⟨rfl, ?_, ?_⟩, (i + 1), ?_, rfl, rfl⟩; rotate_left 3)
  have hi : l.length ≤ i := by omega
  rw [List.take_of_length_le hi]
  (refine ⟨[], [], ?_⟩; rotate_left)
  all_goals try exact don
theorem l07At_ok (d : Dc) (hd : DOK d) (l : List Ho) (hl : HoldG d l) (s node : Int) : FC Tryz.prog 138 [(true, dcL d), (false, [hos l]), (false, [iL s]), (false, [iL node])] [] [(false, [.f (iL (modeF d l s node))])] := by
  have hlen := hl.len
  refine gcalls_run tbl_ok mixed Tryz.func138 rfl Tryz.ntmps138 (by kernel_rfl) (Nat.le_of_ble_eq_true rfl) rfl rfl trivial ?_; (conv => whnf); (repeat (refine ⟨by kernel_rfl, ?_⟩; (conv => whnf)))
  (refine ⟨fun (m : Nat) (es : Es) (hs : Hs) => ∃ (i : Nat), (m + i = l.length) ∧ es = [(10, .val false [.f (iL i)]), (9, .val false [.f (iL (modeF d (l.take i) s node))]), (4, .val false [.pt 80 0 0]), (3, .val false [.f (iL node)]), (2, .val false [.f (iL s)]), (1, .val false [.f (hos l)])] ∧ hs = [(80, some ⟨3, 3, [(dcL d).map .f]⟩)], ⟨l.length, [], [], _, _, ⟨rfl, ?_, ?_⟩, 0, ?_, rfl, rfl⟩, ?_⟩; rotate_left 3; rintro m es hs ⟨i, hMOS0, rfl, rfl⟩; (conv => whnf); (repeat (refine ⟨by kernel_rfl, ?_⟩; (conv => whnf))))
  (refine ⟨fun h => ?_, fun h => ?_⟩ <;> ((conv => whnf); (repeat (refine ⟨by kernel_rfl, ?_⟩; (conv => whnf)))))
  have hi : i < l.length := by simpa using h
  (refine ⟨(i, hoL l[i]), ⟨rfl, by simp [hi]⟩, ?_⟩; (conv => whnf); (repeat (refine ⟨by kernel_rfl, ?_⟩; (conv => whnf))))
  have hst := mode_take (d := d) (s := s) (node := node) hi
  have hmd : Md (modeF d (l.take i) s node) := mode_md (fun h hh => hl.md h (List.mem_of_mem_take hh)) _ _
  have hpl := path_len d l[i].node
  have hhas := l02Has_ok (pathF d l[i].node) node (by omega)
  by_cases k : l[i].session = s
  rw [if_pos k] at hst
  (refine ⟨fun h => absurd h (fun w => w k), fun h => ?_⟩; (conv => whnf); (repeat (refine ⟨by kernel_rfl, ?_⟩; (conv => whnf))))
  by_cases k2 : l[i].node = node
  have hnd : needF d l[i] node = l[i].mode := by unfold needF; rw [if_pos k2]
  rw [hnd] at hst
  (refine ⟨fun h => ?_, fun h => absurd h (fun w => w k2)⟩; (conv => whnf); (repeat (refine ⟨by kernel_rfl, ?_⟩; (conv => whnf))))
  (refine ⟨([], _), l07Join_ok (modeF d (l.take i) s node) l[i].mode, ?_⟩; (conv => whnf); (repeat (refine ⟨by kernel_rfl, ?_⟩; (conv => whnf))))
  (refine ⟨m - 1, [], [], [(10, .val false [.f (iL (i + 1))]), (9, .val false [.f (iL (modeF d (l.take (i + 1)) s node))]), (4, .val false [.pt 80 0 0]), (3, .val false [.f (iL node)]), (2, .val false [.f (iL s)]), (1, .val false [.f (hos l)])], [(80, some ⟨3, 3, [(dcL d).map .f]⟩)], by omega, ⟨rfl, ?_, ?_⟩, (i + 1), ?_, rfl, rfl⟩; rotate_left 3)
  (refine ⟨fun h => absurd h (k2), fun h => ?_⟩; (conv => whnf); (repeat (refine ⟨by kernel_rfl, ?_⟩; (conv => whnf))))
  (refine ⟨(_, _), l02Path_ok d hd l[i].node (hl.has _ (List.getElem_mem _)), ?_⟩; (conv => whnf); (repeat (refine ⟨by kernel_rfl, ?_⟩; (conv => whnf))))
  by_cases k3 : node ∈ pathF d l[i].node
  have hnd : needF d l[i] node = intM l[i].mode := by unfold needF; rw [if_neg k2, if_pos (mem_path.1 k3)]
  rw [hnd] at hst
  (refine ⟨⟨true, [], _, _, _, _⟩, hhas.t k3, ?_⟩; (conv => whnf); (repeat (refine ⟨by kernel_rfl, ?_⟩; (conv => whnf))); refine ⟨⟨?_, ?_, ?_⟩, ?_⟩; rotate_left 3; (conv => whnf); (repeat (refine ⟨by kernel_rfl, ?_⟩; (conv => whnf))))
  (refine ⟨([], _), l07Intent_ok l[i].mode, ?_⟩; (conv => whnf); (repeat (refine ⟨by kernel_rfl, ?_⟩; (conv => whnf))))
  (refine ⟨([], _), l07Join_ok (modeF d (l.take i) s node) (intM l[i].mode), ?_⟩; (conv => whnf); (repeat (refine ⟨by kernel_rfl, ?_⟩; (conv => whnf))))
  (refine ⟨m - 1, [], [], [(10, .val false [.f (iL (i + 1))]), (9, .val false [.f (iL (modeF d (l.take (i + 1)) s node))]), (4, .val false [.pt 80 0 0]), (3, .val false [.f (iL node)]), (2, .val false [.f (iL s)]), (1, .val false [.f (hos l)])], [(80, some ⟨3, 3, [(dcL d).map .f]⟩)], by omega, ⟨rfl, ?_, ?_⟩, (i + 1), ?_, rfl, rfl⟩; rotate_left 3)
  have hnd : needF d l[i] node = 0 := by unfold needF; rw [if_neg k2, if_neg (fun w => k3 (mem_path.2 w))]
  rw [hnd, join_zero hmd] at hst
  (refine ⟨⟨true, [], _, _, _, _⟩, hhas.n k3, ?_⟩; (conv => whnf); (repeat (refine ⟨by kernel_rfl, ?_⟩; (conv => whnf))); refine ⟨⟨?_, ?_, ?_⟩, ?_⟩; rotate_left 3; (conv => whnf); (repeat (refine ⟨by kernel_rfl, ?_⟩; (conv => whnf))))
  (refine ⟨m - 1, [], [], [(10, .val false [.f (iL (i + 1))]), (9, .val false [.f (iL (modeF d (l.take (i + 1)) s node))]), (4, .val false [.pt 80 0 0]), (3, .val false [.f (iL node)]), (2, .val false [.f (iL s)]), (1, .val false [.f (hos l)])], [(80, some ⟨3, 3, [(dcL d).map .f]⟩)], by omega, ⟨rfl, ?_, ?_⟩, (i + 1), ?_, rfl, rfl⟩; rotate_left 3)
  rw [if_neg k] at hst
  (refine ⟨fun h => ?_, fun h => absurd h (fun w => w k)⟩; (conv => whnf); (repeat (refine ⟨by kernel_rfl, ?_⟩; (conv => whnf))))
  (refine ⟨m - 1, [], [], [(10, .val false [.f (iL (i + 1))]), (9, .val false [.f (iL (modeF d (l.take (i + 1)) s node))]), (4, .val false [.pt 80 0 0]), (3, .val false [.f (iL node)]), (2, .val false [.f (iL s)]), (1, .val false [.f (hos l)])], [(80, some ⟨3, 3, [(dcL d).map .f]⟩)], by omega, ⟨rfl, ?_, ?_⟩, (i + 1), ?_, rfl, rfl⟩; rotate_left 3)
  have hi : l.length ≤ i := by simpa using h
  rw [List.take_of_length_le hi]
  (refine ⟨[], [], ?_⟩; rotate_left)
  all_goals try exact don
theorem wanted_ok (d : Dc) (hd : DOK d) (l : List Ho) (hl : HoldG d l) (h : Ho) (h1 : (ndAt d.nodes h.node).isSome) (node : Int) : FC Tryz.prog 291 [(false, [.pv (dcL d)]), (false, [hos l]), (true, hoL h), (false, [iL node])] [] [(false, [.f (iL (wantF d l h node))])] := by
  refine gcalls_run tbl_ok mixed Tryz.func291 rfl Tryz.ntmps291 (by kernel_rfl) (Nat.le_of_ble_eq_true rfl) rfl rfl trivial ?_; (conv => whnf); (repeat (refine ⟨by kernel_rfl, ?_⟩; (conv => whnf)))
  (refine ⟨([], _), mode_ok d hd l hl h.session node, ?_⟩; (conv => whnf); (repeat (refine ⟨by kernel_rfl, ?_⟩; (conv => whnf))))
  (refine ⟨([], _), need_ok d hd h h1 node, ?_⟩; (conv => whnf); (repeat (refine ⟨by kernel_rfl, ?_⟩; (conv => whnf))))
  (refine ⟨([], _), joined_ok (modeF d l h.session node) (needF d h node), ?_⟩; (conv => whnf); (repeat (refine ⟨by kernel_rfl, ?_⟩; (conv => whnf))))
  (refine ⟨[], [], ?_⟩; rotate_left)
  all_goals try exact don
def covG (d : Dc) (l : List Ho) (s node : Int) (i : Nat) : Int := ((pathF d node).take i).foldl (fun m a => joinM m (if a = node then ownF l s a else covM (ownF l s a))) 0
theorem covG_take {d : Dc} {l : List Ho} {s node : Int} {i : Nat} (hi : i < (pathF d node).length) : covG d l s node (i + 1) = joinM (covG d l s node i) (if (pathF d node)[i] = node then ownF l s (pathF d node)[i] else covM (ownF l s (pathF d node)[i])) := by
  unfold covG
  rw [List.take_succ_eq_append_getElem hi, List.foldl_append]; rfl
theorem cover_ok (d : Dc) (hd : DOK d) (l : List Ho) (hl : l.length < 2 ^ 62) (hm : ∀ h ∈ l, Md h.mode) (s node : Int) (h1 : (ndAt d.nodes node).isSome) : FC Tryz.prog 199 [(false, [.pv (dcL d)]), (false, [hos l]), (false, [iL s]), (false, [iL node])] [] [(false, [.f (iL (coverF d l s node))])] := by
  have hpl := path_len d node
  have hp := path7_ok d hd node h1
  obtain ⟨pi, hpi, hpn⟩ := path_last hd h1
  have hcf := cover_fold (s := s) hpi hpn hm
  have hct : ∀ i (hi : i < (pathF d node).length), _ := fun i hi => covG_take (l := l) (s := s) hi
  have hce : covG d l s node (pathF d node).length = coverF d l s node := by rw [← hcf]; unfold covG; rw [List.take_length]
  generalize hpp : pathF d node = p at hp hpl hct hce
  refine gcalls_run tbl_ok mixed Tryz.func199 rfl Tryz.ntmps199 (by kernel_rfl) (Nat.le_of_ble_eq_true rfl) rfl rfl trivial ?_; (conv => whnf); (repeat (refine ⟨by kernel_rfl, ?_⟩; (conv => whnf)))
  (refine ⟨(_, _), hp, ?_⟩; (conv => whnf); (repeat (refine ⟨by kernel_rfl, ?_⟩; (conv => whnf))))
  (refine ⟨fun (m : Nat) (es : Es) (hs : Hs) => ∃ (i : Nat), (m + i = p.length) ∧ es = [(17, .val false [.f (iL i)]), (16, .val false [.f (iL p.length)]), (15, .val false [.row 3 0 p.length]), (9, .val false [.f (iL (covG d l s node i))]), (3, .val false [.f (iL node)]), (2, .val false [.f (iL s)]), (1, .val false [.f (hos l)])] ∧ hs = [(3, some ⟨0, 1, p.map intW⟩)], ⟨p.length, [], [(3, 256)], _, _, ⟨rfl, ?_, ?_⟩, 0, ?_, rfl, rfl⟩, ?_⟩; rotate_left 3; rintro m es hs ⟨i, hCOV0, rfl, rfl⟩; (conv => whnf); (repeat (refine ⟨by kernel_rfl, ?_⟩; (conv => whnf))))
  (refine ⟨fun h => ?_, fun h => ?_⟩ <;> ((conv => whnf); (repeat (refine ⟨by kernel_rfl, ?_⟩; (conv => whnf)))))
  have hi : i < p.length := by omega
  (refine ⟨i, ⟨rfl, hi⟩, ?_⟩; (conv => whnf); (repeat (refine ⟨by kernel_rfl, ?_⟩; (conv => whnf))))
  (refine ⟨intW p[i], by simp [hi], ?_⟩; (conv => whnf); (repeat (refine ⟨by kernel_rfl, ?_⟩; (conv => whnf))))
  have ho := own_ok l s p[i] hl
  have hst := hct i hi
  have hom : Md (ownF l s p[i]) := own_md hm
  generalize ownF l s p[i] = o at ho hst hom
  (refine ⟨([], _), ho, ?_⟩; (conv => whnf); (repeat (refine ⟨by kernel_rfl, ?_⟩; (conv => whnf))))
  by_cases k : p[i] = node
  rw [if_pos k] at hst
  (refine ⟨fun h => absurd h (fun w => w k), fun h => ?_⟩; (conv => whnf); (repeat (refine ⟨by kernel_rfl, ?_⟩; (conv => whnf))))
  (refine ⟨([], _), joined_ok (covG d l s node i) o, ?_⟩; (conv => whnf); (repeat (refine ⟨by kernel_rfl, ?_⟩; (conv => whnf))))
  (refine ⟨m - 1, [], [(3, 3)], [(17, .val false [.f (iL (i + 1))]), (16, .val false [.f (iL p.length)]), (15, .val false [.row 3 0 p.length]), (9, .val false [.f (iL (covG d l s node (i + 1)))]), (3, .val false [.f (iL node)]), (2, .val false [.f (iL s)]), (1, .val false [.f (hos l)])], [(3, some ⟨0, 1, p.map intW⟩)], by omega, ⟨rfl, ?_, ?_⟩, (i + 1), ?_, rfl, rfl⟩; rotate_left 3)
  rw [if_neg k] at hst
  (refine ⟨fun h => ?_, fun h => absurd h (fun w => w k)⟩; (conv => whnf); (repeat (refine ⟨by kernel_rfl, ?_⟩; (conv => whnf))))
  by_cases k4 : o = 4
  (refine ⟨fun h => ?_, fun h => absurd h (fun w => w k4)⟩; (conv => whnf); (repeat (refine ⟨by kernel_rfl, ?_⟩; (conv => whnf))))
  have e1 : covM o = 3 := by unfold covM; rw [if_neg (by omega), if_pos (by omega)]
  rw [e1] at hst
  (refine ⟨([], _), joined_ok (covG d l s node i) 3, ?_⟩; (conv => whnf); (repeat (refine ⟨by kernel_rfl, ?_⟩; (conv => whnf))))
  (refine ⟨m - 1, [], [(3, 3)], [(17, .val false [.f (iL (i + 1))]), (16, .val false [.f (iL p.length)]), (15, .val false [.row 3 0 p.length]), (9, .val false [.f (iL (covG d l s node (i + 1)))]), (3, .val false [.f (iL node)]), (2, .val false [.f (iL s)]), (1, .val false [.f (hos l)])], [(3, some ⟨0, 1, p.map intW⟩)], by omega, ⟨rfl, ?_, ?_⟩, (i + 1), ?_, rfl, rfl⟩; rotate_left 3)
  (refine ⟨fun h => absurd h (k4), fun h => ?_⟩; (conv => whnf); (repeat (refine ⟨by kernel_rfl, ?_⟩; (conv => whnf))))
  by_cases k1 : o = 1
  have e1 : covM o = 0 := by unfold covM; rw [if_neg (by omega), if_neg (by omega)]
  rw [e1] at hst
  (refine ⟨fun h => ?_, fun h => absurd h (fun w => w k1)⟩; (conv => whnf); (repeat (refine ⟨by kernel_rfl, ?_⟩; (conv => whnf))))
  (refine ⟨([], _), joined_ok (covG d l s node i) 0, ?_⟩; (conv => whnf); (repeat (refine ⟨by kernel_rfl, ?_⟩; (conv => whnf))))
  (refine ⟨m - 1, [], [(3, 3)], [(17, .val false [.f (iL (i + 1))]), (16, .val false [.f (iL p.length)]), (15, .val false [.row 3 0 p.length]), (9, .val false [.f (iL (covG d l s node (i + 1)))]), (3, .val false [.f (iL node)]), (2, .val false [.f (iL s)]), (1, .val false [.f (hos l)])], [(3, some ⟨0, 1, p.map intW⟩)], by omega, ⟨rfl, ?_, ?_⟩, (i + 1), ?_, rfl, rfl⟩; rotate_left 3)
  (refine ⟨fun h => absurd h (k1), fun h => ?_⟩; (conv => whnf); (repeat (refine ⟨by kernel_rfl, ?_⟩; (conv => whnf))))
  by_cases k2 : o = 2
  have e1 : covM o = 0 := by unfold covM; rw [if_neg (by omega), if_neg (by omega)]
  rw [e1] at hst
  (refine ⟨fun h => ?_, fun h => absurd h (fun w => w k2)⟩; (conv => whnf); (repeat (refine ⟨by kernel_rfl, ?_⟩; (conv => whnf))))
  (refine ⟨([], _), joined_ok (covG d l s node i) 0, ?_⟩; (conv => whnf); (repeat (refine ⟨by kernel_rfl, ?_⟩; (conv => whnf))))
  (refine ⟨m - 1, [], [(3, 3)], [(17, .val false [.f (iL (i + 1))]), (16, .val false [.f (iL p.length)]), (15, .val false [.row 3 0 p.length]), (9, .val false [.f (iL (covG d l s node (i + 1)))]), (3, .val false [.f (iL node)]), (2, .val false [.f (iL s)]), (1, .val false [.f (hos l)])], [(3, some ⟨0, 1, p.map intW⟩)], by omega, ⟨rfl, ?_, ?_⟩, (i + 1), ?_, rfl, rfl⟩; rotate_left 3)
  have e1 : covM o = o := by
    unfold covM
    unfold Md at hom
    by_cases h5 : o = 5
    · rw [if_pos h5, h5]
    · rw [if_neg h5]; split <;> omega
  rw [e1] at hst
  (refine ⟨fun h => absurd h (k2), fun h => ?_⟩; (conv => whnf); (repeat (refine ⟨by kernel_rfl, ?_⟩; (conv => whnf))))
  (refine ⟨([], _), joined_ok (covG d l s node i) o, ?_⟩; (conv => whnf); (repeat (refine ⟨by kernel_rfl, ?_⟩; (conv => whnf))))
  (refine ⟨m - 1, [], [(3, 3)], [(17, .val false [.f (iL (i + 1))]), (16, .val false [.f (iL p.length)]), (15, .val false [.row 3 0 p.length]), (9, .val false [.f (iL (covG d l s node (i + 1)))]), (3, .val false [.f (iL node)]), (2, .val false [.f (iL s)]), (1, .val false [.f (hos l)])], [(3, some ⟨0, 1, p.map intW⟩)], by omega, ⟨rfl, ?_, ?_⟩, (i + 1), ?_, rfl, rfl⟩; rotate_left 3)
  have hi : i = p.length := by omega
  subst hi
  (refine ⟨[], [], ?_⟩; rotate_left)
  all_goals try exact don
def covS (d : Dc) (l : List Ho) (s node : Int) (i : Nat) : Int := ((pathF d node).take i).foldl (fun m a => joinM m (covM (ownF l s a))) (ownF l s node)
theorem covS_take {d : Dc} {l : List Ho} {s node : Int} {i : Nat} (hi : i < (pathF d node).length) : covS d l s node (i + 1) = joinM (covS d l s node i) (covM (ownF l s (pathF d node)[i])) := by
  unfold covS
  rw [List.take_succ_eq_append_getElem hi, List.foldl_append]; rfl
theorem l07Cover_ok (d : Dc) (hd : DOK d) (l : List Ho) (hl : l.length < 2 ^ 62) (hm : ∀ h ∈ l, Md h.mode) (s node : Int) (h1 : (ndAt d.nodes node).isSome) : FC Tryz.prog 257 [(true, dcL d), (false, [hos l]), (false, [iL s]), (false, [iL node])] [] [(false, [.f (iL (coverF d l s node))])] := by
  have hpl := path_len d node
  have hp := l02Path_ok d hd node h1
  obtain ⟨pi, hpi, hpn⟩ := path_last hd h1
  have hp1 : (pathF d node).length = pi.length + 1 := by rw [hpi]; simp
  have hct : ∀ i (hi : i < (pathF d node).length), _ := fun i hi => covS_take (l := l) (s := s) hi
  have hcm : ∀ i, Md (covS d l s node i) := fun i => (fold_join (f := fun a => covM (ownF l s a)) (fun a => cov_md _) (own_md hm)).1
  have hce : covS d l s node pi.length = coverF d l s node := by unfold covS coverF; rw [hpi]; simp
  generalize hpp : pathF d node = p at hp hpl hct hp1
  refine gcalls_run tbl_ok mixed Tryz.func257 rfl Tryz.ntmps257 (by kernel_rfl) (Nat.le_of_ble_eq_true rfl) rfl rfl trivial ?_; (conv => whnf); (repeat (refine ⟨by kernel_rfl, ?_⟩; (conv => whnf)))
  (refine ⟨([], _), l07Own_ok l s node hl, ?_⟩; (conv => whnf); (repeat (refine ⟨by kernel_rfl, ?_⟩; (conv => whnf))))
  (refine ⟨(_, _), hp, ?_⟩; (conv => whnf); (repeat (refine ⟨by kernel_rfl, ?_⟩; (conv => whnf))))
  (refine ⟨fun (m : Nat) (es : Es) (hs : Hs) => ∃ (i : Nat), (m + i + 1 = p.length) ∧ es = [(11, .val false [.f (iL i)]), (10, .val false [.row 3 0 p.length]), (9, .val false [.f (iL (covS d l s node i))]), (2, .val false [.f (iL s)]), (1, .val false [.f (hos l)])] ∧ hs = [(3, some ⟨0, 1, p.map intW⟩)], ⟨pi.length, [], [(3, 304)], _, _, ⟨rfl, ?_, ?_⟩, 0, ?_, rfl, rfl⟩, ?_⟩; rotate_left 3; rintro m es hs ⟨i, hCOS0, rfl, rfl⟩; (conv => whnf); (repeat (refine ⟨by kernel_rfl, ?_⟩; (conv => whnf))))
  rw [show IntKind.i64.wrap ((p.length : Int) - 1) = pi.length by rw [IntKind.wrap_i64]; omega]
  (refine ⟨fun h => ?_, fun h => ?_⟩ <;> ((conv => whnf); (repeat (refine ⟨by kernel_rfl, ?_⟩; (conv => whnf)))))
  have hi : i < p.length := by omega
  (refine ⟨i, ⟨rfl, hi⟩, ?_⟩; (conv => whnf); (repeat (refine ⟨by kernel_rfl, ?_⟩; (conv => whnf))))
  (refine ⟨intW p[i], by simp [hi], ?_⟩; (conv => whnf); (repeat (refine ⟨by kernel_rfl, ?_⟩; (conv => whnf))))
  have ho := l07Own_ok l s p[i] hl
  have hst := hct i hi
  have hom : Md (ownF l s p[i]) := own_md hm
  have hcmi := hcm i
  generalize ownF l s p[i] = o at ho hst hom
  (refine ⟨([], _), ho, ?_⟩; (conv => whnf); (repeat (refine ⟨by kernel_rfl, ?_⟩; (conv => whnf))))
  by_cases k5 : o = 5
  have e1 : covM o = 5 := by unfold covM; rw [if_pos k5]
  rw [e1, show joinM (covS d l s node i) 5 = 5 by unfold joinM; unfold Md at hcmi; rw [if_neg (by omega)]; omega] at hst
  (refine ⟨fun h => ?_, fun h => absurd h (fun w => w k5)⟩; (conv => whnf); (repeat (refine ⟨by kernel_rfl, ?_⟩; (conv => whnf))))
  (refine ⟨m - 1, [], [(3, 3)], [(11, .val false [.f (iL (i + 1))]), (10, .val false [.row 3 0 p.length]), (9, .val false [.f (iL (covS d l s node (i + 1)))]), (2, .val false [.f (iL s)]), (1, .val false [.f (hos l)])], [(3, some ⟨0, 1, p.map intW⟩)], by omega, ⟨rfl, ?_, ?_⟩, (i + 1), ?_, rfl, rfl⟩; rotate_left 3)
  (refine ⟨fun h => absurd h (k5), fun h => ?_⟩; (conv => whnf); (repeat (refine ⟨by kernel_rfl, ?_⟩; (conv => whnf))))
  by_cases k3 : o = 3
  have e1 : covM o = 3 := by unfold covM; rw [if_neg k5, if_pos (by omega)]
  rw [e1] at hst
  (refine ⟨fun h => ?_, fun h => absurd h (fun w => w k3)⟩; (conv => whnf); (repeat (refine ⟨by kernel_rfl, ?_⟩; (conv => whnf))))
  (refine ⟨([], _), l07Join_ok (covS d l s node i) 3, ?_⟩; (conv => whnf); (repeat (refine ⟨by kernel_rfl, ?_⟩; (conv => whnf))))
  (refine ⟨m - 1, [], [(3, 3)], [(11, .val false [.f (iL (i + 1))]), (10, .val false [.row 3 0 p.length]), (9, .val false [.f (iL (covS d l s node (i + 1)))]), (2, .val false [.f (iL s)]), (1, .val false [.f (hos l)])], [(3, some ⟨0, 1, p.map intW⟩)], by omega, ⟨rfl, ?_, ?_⟩, (i + 1), ?_, rfl, rfl⟩; rotate_left 3)
  (refine ⟨fun h => absurd h (k3), fun h => ?_⟩; (conv => whnf); (repeat (refine ⟨by kernel_rfl, ?_⟩; (conv => whnf))))
  by_cases k4 : o = 4
  have e1 : covM o = 3 := by unfold covM; rw [if_neg k5, if_pos (by omega)]
  rw [e1] at hst
  (refine ⟨fun h => ?_, fun h => absurd h (fun w => w k4)⟩; (conv => whnf); (repeat (refine ⟨by kernel_rfl, ?_⟩; (conv => whnf))))
  (refine ⟨([], _), l07Join_ok (covS d l s node i) 3, ?_⟩; (conv => whnf); (repeat (refine ⟨by kernel_rfl, ?_⟩; (conv => whnf))))
  (refine ⟨m - 1, [], [(3, 3)], [(11, .val false [.f (iL (i + 1))]), (10, .val false [.row 3 0 p.length]), (9, .val false [.f (iL (covS d l s node (i + 1)))]), (2, .val false [.f (iL s)]), (1, .val false [.f (hos l)])], [(3, some ⟨0, 1, p.map intW⟩)], by omega, ⟨rfl, ?_, ?_⟩, (i + 1), ?_, rfl, rfl⟩; rotate_left 3)
  (refine ⟨fun h => absurd h (k4), fun h => ?_⟩; (conv => whnf); (repeat (refine ⟨by kernel_rfl, ?_⟩; (conv => whnf))))
  have e1 : covM o = 0 := by unfold covM; rw [if_neg k5, if_neg (by omega)]
  rw [e1, join_zero hcmi] at hst
  (refine ⟨m - 1, [], [(3, 3)], [(11, .val false [.f (iL (i + 1))]), (10, .val false [.row 3 0 p.length]), (9, .val false [.f (iL (covS d l s node (i + 1)))]), (2, .val false [.f (iL s)]), (1, .val false [.f (hos l)])], [(3, some ⟨0, 1, p.map intW⟩)], by omega, ⟨rfl, ?_, ?_⟩, (i + 1), ?_, rfl, rfl⟩; rotate_left 3)
  have hi : i = pi.length := by omega
  subst hi
  (refine ⟨[], [], ?_⟩; rotate_left)
  all_goals try exact don
end Go.Proofs.YtchfpgpboifbeaaGreat.Ac
