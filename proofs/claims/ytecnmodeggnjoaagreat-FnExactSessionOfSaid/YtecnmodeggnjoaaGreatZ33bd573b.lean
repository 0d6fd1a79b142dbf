/- Several of our texts, one behind the other, without what this claim does not need: Lc, Df. -/
import Derived.Test.YtecnmodeggnjoaaGreatZ2e4902f1
import Derived.Test.YtecnmodeggnjoaaGreatZ411b082b
import Derived.Test.YtecnmodeggnjoaaGreatZdecfb37c
set_option linter.unusedVariables false
set_option linter.unusedSimpArgs false
set_option maxRecDepth 20000
set_option maxHeartbeats 20000000
namespace Go.Proofs.YtecnmodeggnjoaaGreat.Ac
open Go.RowKit
theorem path7_ok (d : Dc) (hd : DOK d) (id : Int) (h1 : (ndAt d.nodes id).isSome) : FC Tryz.prog 198 [(false, [.pv (dcL d)]), (false, [iL id])] [(1000, some ⟨0, 1, (pathF d id).map intW⟩)] [(false, [.row 1000 0 (pathF d id).length])] := by
  have h := path_ok d id 7 (hd.up h1) hd.par0 (by omega) (by have := hd.len; omega) (fun n hn => by have := hd.kl' n hn; omega)
  unfold pathF
  rw [List.length_reverse]
  exact h
theorem path_len (d : Dc) (id : Int) : (pathF d id).length ≤ 7 := by unfold pathF; rw [List.length_reverse]; exact upsF_len _ _ _
theorem need_ok (d : Dc) (hd : DOK d) (x : Ho) (h1 : (ndAt d.nodes x.node).isSome) (node : Int) : FC Tryz.prog 289 [(false, [.pv (dcL d)]), (true, hoL x), (false, [iL node])] [] [(false, [.f (iL (needF d x node))])] := by
  have hin := isIn_ok d x.node node 7 (hd.up h1) hd.par0 (by omega) (by have := hd.len; omega) (fun n hn => by have := hd.kl' n hn; omega)
  by_cases k : x.node = node
  · have q : needF d x node = x.mode := by unfold needF; rw [if_pos k]
    refine gr Tryz.func289 Tryz.ntmps289 trivial ?_
    refine ⟨fun h => nx ?_, fun h => absurd h (fun w => w k)⟩
    exact ⟨[], [], don⟩
  by_cases k2 : node ∈ upsF d.nodes 7 x.node
  · have q : needF d x node = intM x.mode := by unfold needF; rw [if_neg k, if_pos k2]
    refine gr Tryz.func289 Tryz.ntmps289 trivial ?_
    refine ⟨fun h => absurd h (k), fun h => nx ?_⟩
    refine ⟨([], _), hin.t k2, nx ?_⟩
    refine ⟨([], _), intent_ok x.mode, nx ?_⟩
    exact ⟨[], [], don⟩
  · have q : needF d x node = 0 := by unfold needF; rw [if_neg k, if_neg k2]
    refine gr Tryz.func289 Tryz.ntmps289 trivial ?_
    refine ⟨fun h => absurd h (k), fun h => nx ?_⟩
    refine ⟨([], _), hin.n k2, nx ?_⟩
    exact ⟨[], [], don⟩
theorem l07Need_ok (x : Ho) (node : Int) : FC Tryz.prog 310 [(true, hoL x), (false, [iL node])] [] [(false, [.f (iL (if x.node = node then x.mode else intM x.mode))])] := by
  by_cases k : x.node = node
  · rw [if_pos k]
    refine gr Tryz.func310 Tryz.ntmps310 trivial ?_
    refine ⟨fun h => nx ?_, fun h => absurd h (fun w => w k.symm)⟩
    exact ⟨[], [], don⟩
  · rw [if_neg k]
    refine gr Tryz.func310 Tryz.ntmps310 trivial ?_
    refine ⟨fun h => absurd h (fun w => k w.symm), fun h => nx ?_⟩
    refine ⟨([], _), l07Intent_ok x.mode, nx ?_⟩
    exact ⟨[], [], don⟩
theorem need_on {d : Dc} {h : Ho} {node : Int} (hm : node ∈ pathF d h.node) : (if h.node = node then h.mode else intM h.mode) = needF d h node := by
  unfold needF
  rw [if_pos (mem_path.1 hm)]
theorem mode_take {d : Dc} {l : List Ho} {s node : Int} {i : Nat} (hi : i < l.length) : modeF d (l.take (i + 1)) s node = if l[i].session = s then joinM (modeF d (l.take i) s node) (needF d l[i] node) else modeF d (l.take i) s node := by
  unfold modeF
  rw [List.take_succ_eq_append_getElem hi, List.foldl_append]; rfl
structure HoldG (d : Dc) (l : List Ho) : Prop where
  len : l.length < 2 ^ 20
  has : ∀ h ∈ l, (ndAt d.nodes h.node).isSome
  md : ∀ h ∈ l, Md h.mode
theorem mode_ok (d : Dc) (hd : DOK d) (l : List Ho) (hl : HoldG d l) (s node : Int) : FC Tryz.prog 214 [(false, [.pv (dcL d)]), (false, [hos l]), (false, [iL s]), (false, [iL node])] [] [(false, [.f (iL (modeF d l s node))])] := by
  have hlen := hl.len
  refine gr Tryz.func214 Tryz.ntmps214 trivial ?_
  (refine ⟨fun m es hs => ∃ (i : Nat), (m + i = l.length) ∧ es = [(14, .val false [.f (iL i)]), (13, .val false [.f (iL l.length)]), (12, .val false [.f (hos l)]), (9, .val false [.f (iL (modeF d (l.take i) s node))]), (3, .val false [.f (iL node)]), (2, .val false [.f (iL s)]), (0, .val false [.f (.pv (dcL d))])] ∧ hs = [], ⟨l.length, [], [], _, _, don, 0, don, rfl, rfl⟩, ?_⟩; rintro m _ _ ⟨i, hMOD0, rfl, rfl⟩; refine nx ?_)
  refine ⟨fun h => nx ?_, fun h => nx ?_⟩
  have hi : i < l.length := by omega
  refine ⟨(i, hoL l[i]), ⟨rfl, by simp [hi]⟩, nx ?_⟩
  have hst := mode_take (d := d) (s := s) (node := node) hi
  by_cases k : l[i].session = s
  refine ⟨fun h => nx ?_, fun h => absurd h (fun w => w k)⟩
  refine ⟨([], _), need_ok d hd l[i] (hl.has _ (List.getElem_mem _)) node, nx ?_⟩
  refine ⟨([], _), joined_ok (modeF d (l.take i) s node) (needF d l[i] node), nx ?_⟩
  rw [if_pos k] at hst
  exact ⟨m - 1, [], [], _, _, by omega, don, (i + 1), don, rfl, rfl⟩
  refine ⟨fun h => absurd h (k), fun h => nx ?_⟩
  rw [if_neg k] at hst
  exact ⟨m - 1, [], [], _, _, by omega, don, (i + 1), don, rfl, rfl⟩
  have hi : l.length ≤ i := by omega
  rw [List.take_of_length_le hi]
  exact ⟨[], [], don⟩
theorem l07At_ok (d : Dc) (hd : DOK d) (l : List Ho) (hl : HoldG d l) (s node : Int) : FC Tryz.prog 126 [(true, dcL d), (false, [hos l]), (false, [iL s]), (false, [iL node])] [] [(false, [.f (iL (modeF d l s node))])] := by
  have hlen := hl.len
  refine gr Tryz.func126 Tryz.ntmps126 trivial ?_
  (refine ⟨fun m es hs => ∃ (i : Nat), (m + i = l.length) ∧ es = [(10, .val false [.f (iL i)]), (9, .val false [.f (iL (modeF d (l.take i) s node))]), (4, .val false [.pt 80 0 0]), (3, .val false [.f (iL node)]), (2, .val false [.f (iL s)]), (1, .val false [.f (hos l)])] ∧ hs = [(80, some ⟨3, 3, [(dcL d).map .f]⟩)], ⟨l.length, [], [], _, _, don, 0, don, rfl, rfl⟩, ?_⟩; rintro m _ _ ⟨i, hMOS0, rfl, rfl⟩; refine nx ?_)
  refine ⟨fun h => nx ?_, fun h => nx ?_⟩
  have hi : i < l.length := by simpa using h
  refine ⟨(i, hoL l[i]), ⟨rfl, by simp [hi]⟩, nx ?_⟩
  have hst := mode_take (d := d) (s := s) (node := node) hi
  have hmd : Md (modeF d (l.take i) s node) := mode_md (fun h hh => hl.md h (List.mem_of_mem_take hh)) _ _
  have hpl := path_len d l[i].node
  have hhas := l02Has_ok (pathF d l[i].node) node (by omega)
  by_cases k : l[i].session = s
  rw [if_pos k] at hst
  refine ⟨fun h => absurd h (fun w => w k), fun h => nx ?_⟩
  by_cases k2 : l[i].node = node
  have hnd : needF d l[i] node = l[i].mode := by unfold needF; rw [if_pos k2]
  rw [hnd] at hst
  refine ⟨fun h => nx ?_, fun h => absurd h (fun w => w k2)⟩
  refine ⟨([], _), l07Join_ok (modeF d (l.take i) s node) l[i].mode, nx ?_⟩
  exact ⟨m - 1, [], [], _, _, by omega, don, (i + 1), don, rfl, rfl⟩
  refine ⟨fun h => absurd h (k2), fun h => nx ?_⟩
  refine ⟨(_, _), l02Path_ok d hd l[i].node (hl.has _ (List.getElem_mem _)), nx ?_⟩
  by_cases k3 : node ∈ pathF d l[i].node
  have hnd : needF d l[i] node = intM l[i].mode := by unfold needF; rw [if_neg k2, if_pos (mem_path.1 k3)]
  rw [hnd] at hst
  refine ⟨⟨true, [], _, _, _, _⟩, hhas.t k3, cd ?_⟩
  refine ⟨([], _), l07Intent_ok l[i].mode, nx ?_⟩
  refine ⟨([], _), l07Join_ok (modeF d (l.take i) s node) (intM l[i].mode), nx ?_⟩
  exact ⟨m - 1, [], [], _, _, by omega, don, (i + 1), don, rfl, rfl⟩
  have hnd : needF d l[i] node = 0 := by unfold needF; rw [if_neg k2, if_neg (fun w => k3 (mem_path.2 w))]
  rw [hnd, join_zero hmd] at hst
  refine ⟨⟨true, [], _, _, _, _⟩, hhas.n k3, cd ?_⟩
  exact ⟨m - 1, [], [], _, _, by omega, don, (i + 1), don, rfl, rfl⟩
  rw [if_neg k] at hst
  refine ⟨fun h => nx ?_, fun h => absurd h (fun w => w k)⟩
  exact ⟨m - 1, [], [], _, _, by omega, don, (i + 1), don, rfl, rfl⟩
  have hi : l.length ≤ i := by simpa using h
  rw [List.take_of_length_le hi]
  exact ⟨[], [], don⟩
theorem wanted_ok (d : Dc) (hd : DOK d) (l : List Ho) (hl : HoldG d l) (h : Ho) (h1 : (ndAt d.nodes h.node).isSome) (node : Int) : FC Tryz.prog 320 [(false, [.pv (dcL d)]), (false, [hos l]), (true, hoL h), (false, [iL node])] [] [(false, [.f (iL (wantF d l h node))])] := by
  refine gr Tryz.func320 Tryz.ntmps320 trivial ?_
  refine ⟨([], _), mode_ok d hd l hl h.session node, nx ?_⟩
  refine ⟨([], _), need_ok d hd h h1 node, nx ?_⟩
  refine ⟨([], _), joined_ok (modeF d l h.session node) (needF d h node), nx ?_⟩
  exact ⟨[], [], don⟩
def covG (d : Dc) (l : List Ho) (s node : Int) (i : Nat) : Int := ((pathF d node).take i).foldl (fun m a => joinM m (if a = node then ownF l s a else covM (ownF l s a))) 0
theorem covG_take {d : Dc} {l : List Ho} {s node : Int} {i : Nat} (hi : i < (pathF d node).length) : covG d l s node (i + 1) = joinM (covG d l s node i) (if (pathF d node)[i] = node then ownF l s (pathF d node)[i] else covM (ownF l s (pathF d node)[i])) := by
  unfold covG
  rw [List.take_succ_eq_append_getElem hi, List.foldl_append]; rfl
theorem cover_ok (d : Dc) (hd : DOK d) (l : List Ho) (hl : l.length < 2 ^ 62) (hm : ∀ h ∈ l, Md h.mode) (s node : Int) (h1 : (ndAt d.nodes node).isSome) : FC Tryz.prog 276 [(false, [.pv (dcL d)]), (false, [hos l]), (false, [iL s]), (false, [iL node])] [] [(false, [.f (iL (coverF d l s node))])] := by
  have hpl := path_len d node
  have hp := path7_ok d hd node h1
  obtain ⟨pi, hpi, hpn⟩ := path_last hd h1
  have hcf := cover_fold (s := s) hpi hpn hm
  have hct : ∀ i (hi : i < (pathF d node).length), _ := fun i hi => covG_take (l := l) (s := s) hi
  have hce : covG d l s node (pathF d node).length = coverF d l s node := by rw [← hcf]; unfold covG; rw [List.take_length]
  generalize hpp : pathF d node = p at hp hpl hct hce
  refine gr Tryz.func276 Tryz.ntmps276 trivial ?_
  refine ⟨(_, _), hp, nx ?_⟩
  (refine ⟨fun m es hs => ∃ (i : Nat), (m + i = p.length) ∧ es = [(17, .val false [.f (iL i)]), (16, .val false [.f (iL p.length)]), (15, .val false [.row 3 0 p.length]), (9, .val false [.f (iL (covG d l s node i))]), (3, .val false [.f (iL node)]), (2, .val false [.f (iL s)]), (1, .val false [.f (hos l)])] ∧ hs = [(3, some ⟨0, 1, p.map intW⟩)], ⟨p.length, [], [(3, 256)], _, _, don, 0, don, rfl, rfl⟩, ?_⟩; rintro m _ _ ⟨i, hCOV0, rfl, rfl⟩; refine nx ?_)
  refine ⟨fun h => nx ?_, fun h => nx ?_⟩
  have hi : i < p.length := by omega
  refine ⟨i, ⟨rfl, hi⟩, nx ?_⟩
  refine ⟨intW p[i], by simp [hi], nx ?_⟩
  have ho := own_ok l s p[i] hl
  have hst := hct i hi
  have hom : Md (ownF l s p[i]) := own_md hm
  generalize ownF l s p[i] = o at ho hst hom
  refine ⟨([], _), ho, nx ?_⟩
  by_cases k : p[i] = node
  rw [if_pos k] at hst
  refine ⟨fun h => absurd h (fun w => w k), fun h => nx ?_⟩
  refine ⟨([], _), joined_ok (covG d l s node i) o, nx ?_⟩
  exact ⟨m - 1, [], [(3, 3)], _, _, by omega, don, (i + 1), don, rfl, rfl⟩
  rw [if_neg k] at hst
  refine ⟨fun h => nx ?_, fun h => absurd h (fun w => w k)⟩
  by_cases k4 : o = 4
  refine ⟨fun h => nx ?_, fun h => absurd h (fun w => w k4)⟩
  have e1 : covM o = 3 := by unfold covM; rw [if_neg (by omega), if_pos (by omega)]
  rw [e1] at hst
  refine ⟨([], _), joined_ok (covG d l s node i) 3, nx ?_⟩
  exact ⟨m - 1, [], [(3, 3)], _, _, by omega, don, (i + 1), don, rfl, rfl⟩
  refine ⟨fun h => absurd h (k4), fun h => nx ?_⟩
  by_cases k1 : o = 1
  have e1 : covM o = 0 := by unfold covM; rw [if_neg (by omega), if_neg (by omega)]
  rw [e1] at hst
  refine ⟨fun h => nx ?_, fun h => absurd h (fun w => w k1)⟩
  refine ⟨([], _), joined_ok (covG d l s node i) 0, nx ?_⟩
  exact ⟨m - 1, [], [(3, 3)], _, _, by omega, don, (i + 1), don, rfl, rfl⟩
  refine ⟨fun h => absurd h (k1), fun h => nx ?_⟩
  by_cases k2 : o = 2
  have e1 : covM o = 0 := by unfold covM; rw [if_neg (by omega), if_neg (by omega)]
  rw [e1] at hst
  refine ⟨fun h => nx ?_, fun h => absurd h (fun w => w k2)⟩
  refine ⟨([], _), joined_ok (covG d l s node i) 0, nx ?_⟩
  exact ⟨m - 1, [], [(3, 3)], _, _, by omega, don, (i + 1), don, rfl, rfl⟩
  have e1 : covM o = o := by
    unfold covM
    unfold Md at hom
    by_cases h5 : o = 5
    · rw [if_pos h5, h5]
    · rw [if_neg h5]; split <;> omega
  rw [e1] at hst
  refine ⟨fun h => absurd h (k2), fun h => nx ?_⟩
  refine ⟨([], _), joined_ok (covG d l s node i) o, nx ?_⟩
  exact ⟨m - 1, [], [(3, 3)], _, _, by omega, don, (i + 1), don, rfl, rfl⟩
  have hi : i = p.length := by omega
  subst hi
  exact ⟨[], [], don⟩
def covS (d : Dc) (l : List Ho) (s node : Int) (i : Nat) : Int := ((pathF d node).take i).foldl (fun m a => joinM m (covM (ownF l s a))) (ownF l s node)
theorem covS_take {d : Dc} {l : List Ho} {s node : Int} {i : Nat} (hi : i < (pathF d node).length) : covS d l s node (i + 1) = joinM (covS d l s node i) (covM (ownF l s (pathF d node)[i])) := by
  unfold covS
  rw [List.take_succ_eq_append_getElem hi, List.foldl_append]; rfl
theorem l07Cover_ok (d : Dc) (hd : DOK d) (l : List Ho) (hl : l.length < 2 ^ 62) (hm : ∀ h ∈ l, Md h.mode) (s node : Int) (h1 : (ndAt d.nodes node).isSome) : FC Tryz.prog 266 [(true, dcL d), (false, [hos l]), (false, [iL s]), (false, [iL node])] [] [(false, [.f (iL (coverF d l s node))])] := by
  have hpl := path_len d node
  have hp := l02Path_ok d hd node h1
  obtain ⟨pi, hpi, hpn⟩ := path_last hd h1
  have hp1 : (pathF d node).length = pi.length + 1 := by rw [hpi]; simp
  have hct : ∀ i (hi : i < (pathF d node).length), _ := fun i hi => covS_take (l := l) (s := s) hi
  have hcm : ∀ i, Md (covS d l s node i) := fun i => (fold_join (f := fun a => covM (ownF l s a)) (fun a => cov_md _) (own_md hm)).1
  have hce : covS d l s node pi.length = coverF d l s node := by unfold covS coverF; rw [hpi]; simp
  generalize hpp : pathF d node = p at hp hpl hct hp1
  refine gr Tryz.func266 Tryz.ntmps266 trivial ?_
  refine ⟨([], _), l07Own_ok l s node hl, nx ?_⟩
  refine ⟨(_, _), hp, nx ?_⟩
  (refine ⟨fun m es hs => ∃ (i : Nat), (m + i + 1 = p.length) ∧ es = [(11, .val false [.f (iL i)]), (10, .val false [.row 3 0 p.length]), (9, .val false [.f (iL (covS d l s node i))]), (2, .val false [.f (iL s)]), (1, .val false [.f (hos l)])] ∧ hs = [(3, some ⟨0, 1, p.map intW⟩)], ⟨pi.length, [], [(3, 304)], _, _, don, 0, don, rfl, rfl⟩, ?_⟩; rintro m _ _ ⟨i, hCOS0, rfl, rfl⟩; refine nx ?_)
  rw [show IntKind.i64.wrap ((p.length : Int) - 1) = pi.length by rw [IntKind.wrap_i64]; omega]
  refine ⟨fun h => nx ?_, fun h => nx ?_⟩
  have hi : i < p.length := by omega
  refine ⟨i, ⟨rfl, hi⟩, nx ?_⟩
  refine ⟨intW p[i], by simp [hi], nx ?_⟩
  have ho := l07Own_ok l s p[i] hl
  have hst := hct i hi
  have hom : Md (ownF l s p[i]) := own_md hm
  have hcmi := hcm i
  generalize ownF l s p[i] = o at ho hst hom
  refine ⟨([], _), ho, nx ?_⟩
  by_cases k5 : o = 5
  have e1 : covM o = 5 := by unfold covM; rw [if_pos k5]
  rw [e1, show joinM (covS d l s node i) 5 = 5 by unfold joinM; unfold Md at hcmi; rw [if_neg (by omega)]; omega] at hst
  refine ⟨fun h => nx ?_, fun h => absurd h (fun w => w k5)⟩
  exact ⟨m - 1, [], [(3, 3)], _, _, by omega, don, (i + 1), don, rfl, rfl⟩
  refine ⟨fun h => absurd h (k5), fun h => nx ?_⟩
  by_cases k3 : o = 3
  have e1 : covM o = 3 := by unfold covM; rw [if_neg k5, if_pos (by omega)]
  rw [e1] at hst
  refine ⟨fun h => nx ?_, fun h => absurd h (fun w => w k3)⟩
  refine ⟨([], _), l07Join_ok (covS d l s node i) 3, nx ?_⟩
  exact ⟨m - 1, [], [(3, 3)], _, _, by omega, don, (i + 1), don, rfl, rfl⟩
  refine ⟨fun h => absurd h (k3), fun h => nx ?_⟩
  by_cases k4 : o = 4
  have e1 : covM o = 3 := by unfold covM; rw [if_neg k5, if_pos (by omega)]
  rw [e1] at hst
  refine ⟨fun h => nx ?_, fun h => absurd h (fun w => w k4)⟩
  refine ⟨([], _), l07Join_ok (covS d l s node i) 3, nx ?_⟩
  exact ⟨m - 1, [], [(3, 3)], _, _, by omega, don, (i + 1), don, rfl, rfl⟩
  refine ⟨fun h => absurd h (k4), fun h => nx ?_⟩
  have e1 : covM o = 0 := by unfold covM; rw [if_neg k5, if_neg (by omega)]
  rw [e1, join_zero hcmi] at hst
  exact ⟨m - 1, [], [(3, 3)], _, _, by omega, don, (i + 1), don, rfl, rfl⟩
  have hi : i = pi.length := by omega
  subst hi
  exact ⟨[], [], don⟩
end Go.Proofs.YtecnmodeggnjoaaGreat.Ac
set_option linter.unusedVariables false
set_option linter.unusedSimpArgs false
set_option maxRecDepth 20000
set_option maxHeartbeats 20000000
namespace Go.Proofs.YtecnmodeggnjoaaGreat.Ac
open Go.RowKit
theorem app_drop_get {α : Type} {B l : List α} {n t : Nat} (hB : B.length = n) (h : n ≤ t) (ht : t < l.length) : (B ++ l.drop n)[t]? = some l[t] := by
  rw [List.getElem?_append_right (by omega), List.getElem?_drop, hB, show n + (t - n) = t by omega, List.getElem?_eq_getElem ht]
theorem app_drop_set {α : Type} {B l : List α} {n : Nat} (hB : B.length = n) (hn : n < l.length) (x : α) : (B ++ l.drop n).set n x = (B ++ [x]) ++ l.drop (n + 1) := by
  rw [List.set_append, if_neg (by omega), hB, Nat.sub_self, List.drop_eq_getElem_cons hn, List.append_assoc]
  rfl
theorem app_drop_get' {α : Type} {W : α → List A} {B l : List α} {n t : Nat} (hB : B.length = n) (h : n ≤ t) (ht : t < l.length) : ((B ++ l.drop n).map W)[t]? = some (W l[t]) := by
  rw [List.getElem?_map, app_drop_get hB h ht]; rfl
theorem app_drop_set' {α : Type} {W : α → List A} {B l : List α} {n : Nat} (hB : B.length = n) (hn : n < l.length) (x : α) : ((B ++ l.drop n).map W).set n (W x) = ((B ++ [x]) ++ l.drop (n + 1)).map W := by
  rw [← app_drop_set hB hn x, List.map_set]
theorem app_drop_getT {α : Type} {W : α → List A} {B l u : List α} {n t : Nat} (hB : B.length = n) (h : n ≤ t) (ht : t < l.length) : ((B ++ l.drop n ++ u).map W)[t]? = some (W l[t]) := by
  rw [List.map_append, List.getElem?_append_left (by simp; omega)]; exact app_drop_get' hB h ht
theorem app_drop_setT {α : Type} {W : α → List A} {B l u : List α} {n : Nat} (hB : B.length = n) (hn : n < l.length) (x : α) : ((B ++ l.drop n ++ u).map W).set n (W x) = ((B ++ [x]) ++ l.drop (n + 1) ++ u).map W := by
  rw [List.map_append, List.set_append_left _ _ (by simp; omega), app_drop_set' hB hn, ← List.map_append]
theorem clear_tail {α : Type} {W : α → List A} {B l u : List α} {z : List A} {n len : Nat} (x : α) (hx : W x = z) (hB : B.length = n) (hn : n ≤ l.length) (hl : l.length = len) :
    ((B ++ l.drop n ++ u).map W).take n ++ List.replicate (len - n) z ++ ((B ++ l.drop n ++ u).map W).drop len = (B ++ (List.replicate (len - n) x ++ u)).map W := by
  subst hx hl
  have e1 : ((B ++ l.drop n ++ u).map W).take n = B.map W := by
    rw [List.append_assoc, List.map_append, List.take_append_of_le_length (by simp; omega), List.take_of_length_le (by simp; omega)]
  have e2 : ((B ++ l.drop n ++ u).map W).drop l.length = u.map W := by
    rw [List.map_append, List.drop_append, List.drop_eq_nil_of_le (by simp; omega), List.nil_append, show l.length - ((B ++ l.drop n).map W).length = 0 by simp; omega, List.drop_zero]
  rw [e1, e2, List.map_append, List.map_append, List.map_replicate, List.append_assoc]
theorem filter_take {α : Type} {p : α → Bool} {l : List α} {j : Nat} (hj : j < l.length) : (l.take (j + 1)).filter p = if p l[j] then (l.take j).filter p ++ [l[j]] else (l.take j).filter p := by
  rw [List.take_succ_eq_append_getElem hj, List.filter_append]
  by_cases h : p l[j] = true
  · rw [if_pos h, List.filter_cons_of_pos h]; rfl
  · rw [if_neg h, List.filter_cons_of_neg h]; simp
theorem filter_le {α : Type} {p : α → Bool} {l : List α} {j : Nat} (hj : j ≤ l.length) : ((l.take j).filter p).length ≤ j := by
  have := List.length_filter_le p (l.take j)
  simp at this; omega
theorem ixfI3_ok (l : List Int) (f : FuncId) (c0 c1 c2 : L) (p : Int → Bool) (hl : l.length < 2 ^ 28) (hp : ∀ t ∈ l, FC Tryz.prog f [(false, [iL t]), (false, [c0]), (false, [c1]), (false, [c2])] [] [(false, [.f (bL (p t))])]) : FC Tryz.prog 324 [(false, [ints l]), (false, [.cl f [(false, [c0]), (false, [c1]), (false, [c2])]])] [] [(false, [.f (iL (ixP p 0 l))])] := by
  refine gr Tryz.func324 Tryz.ntmps324 trivial ?_
  (refine ⟨fun m es hs => ∃ (i : Nat), (m + i = l.length) ∧ (ixP p i (l.drop i) = ixP p 0 l) ∧ es = [(8, .val false [.f (iL i)]), (7, .val false [.f (iL l.length)]), (1, .val false [.f (.cl f [(false, [c0]), (false, [c1]), (false, [c2])])]), (0, .val false [.f (ints l)])] ∧ hs = [], ⟨l.length, [], [], _, _, don, 0, don, don, rfl, rfl⟩, ?_⟩; rintro m _ _ ⟨i, hIXI30, hIXI31, rfl, rfl⟩; refine nx ?_)
  refine ⟨fun h => nx ?_, fun h => nx ?_⟩
  have hi : i < l.length := by omega
  rw [List.drop_eq_getElem_cons hi] at hIXI31
  rw [ixP_cons] at hIXI31
  refine ⟨(i, intE l[i]), ⟨rfl, by simp [hi]⟩, nx ?_⟩
  have hc := hp l[i] (List.getElem_mem _)
  cases hq : p l[i] with
  | true =>
    rw [hq] at hc hIXI31
    rw [if_pos rfl] at hIXI31
    refine ⟨([], _), hc, nx ?_⟩
    exact ⟨[], [], don⟩
  | false =>
    rw [hq] at hc hIXI31
    rw [if_neg (by simp)] at hIXI31
    refine ⟨([], _), hc, nx ?_⟩
    exact ⟨m - 1, [], [], _, _, by omega, don, (i + 1), don, don, rfl, rfl⟩
  have hi : l.length ≤ i := by omega
  rw [List.drop_eq_nil_of_le hi] at hIXI31
  have q : (-1 : Int) = ixP p 0 l := hIXI31
  exact ⟨[], [], don⟩
theorem dlfI3_ok (l : List Int) (f : FuncId) (c0 c1 c2 : L) (p : Int → Bool) (hl : l.length < 2 ^ 28) (hp : ∀ t ∈ l, FC Tryz.prog f [(false, [iL t]), (false, [c0]), (false, [c1]), (false, [c2])] [] [(false, [.f (bL (p t))])]) (u : List Int) : GCalls Tryz.prog 259 [(1, some ⟨0, 1, (l ++ u).map intW⟩)] [(false, [.row 1 0 l.length]), (false, [.f (.cl f [(false, [c0]), (false, [c1]), (false, [c2])])])] [(1, some ⟨0, 1, (l.filter (fun x => !p x) ++ (List.replicate (l.length - (l.filter (fun x => !p x)).length) (0 : Int) ++ u)).map intW⟩)] [(false, [.row 1 0 (l.filter (fun x => !p x)).length])] := by
  have hx := ixfI3_ok l f c0 c1 c2 p hl hp
  rcases ixP_at (p := p) l 0 with ⟨h1, h2⟩ | ⟨i, hi, h1, h2, h3⟩
  · have q : l.filter (fun x => !p x) = l := by rw [List.filter_eq_self]; intro x hx; rw [h2 x hx]; rfl
    rw [h1] at hx
    rw [q]
    refine gr Tryz.func259 Tryz.ntmps259 (⟨cl_ints _, trivial⟩) ?_
    (refine ⟨⟨true, [], _, _, _, _⟩, hx, co ?_ ?_ ?_ ?_⟩; rotate_left 3)
    refine ⟨fun h => nx ?_, fun h => absurd h (fun w => w rfl)⟩
    (refine ⟨[], [], ?_⟩; rotate_left)
    simp only [Nat.sub_self, List.replicate_zero, List.nil_append]
    all_goals try exact don
  · rw [h1, Nat.zero_add] at hx
    have hf0 : (l.take i).filter (fun x => !p x) = l.take i := by
      rw [List.filter_eq_self]; intro x hx
      obtain ⟨t, ht, rfl⟩ := List.mem_iff_getElem.1 hx
      simp at ht
      rw [List.getElem_take, h3 t (by omega)]; rfl
    have hf1 : (l.take (i + 1)).filter (fun x => !p x) = l.take i := by rw [filter_take hi, h2]; simpa using hf0
    have hf2 := hf1.symm
    have hil : (l.take i).length = i := by simp; omega
    refine gr Tryz.func259 Tryz.ntmps259 (⟨cl_ints _, trivial⟩) ?_
    (refine ⟨⟨true, [], _, _, _, _⟩, hx, co ?_ ?_ ?_ ?_⟩; rotate_left 3)
    refine ⟨fun h => absurd h (by omega), fun h => nx ?_⟩
    have q0 : (l ++ u).map intW = (l.take i ++ l.drop (l.take i).length ++ u).map intW := by rw [hil, List.take_append_drop]
    (refine ⟨fun m es hs => ∃ (j : Nat) (B : List Int), (m + j = l.length) ∧ (B = (l.take j).filter (fun x => !p x)) ∧ (B.length + 1 ≤ j) ∧ es = [(6, .val false [.f (iL j)]), (5, .val false [.f (iL B.length)]), (1, .val false [.f (.cl f [(false, [c0]), (false, [c1]), (false, [c2])])]), (0, .val false [.row 1 0 l.length])] ∧ hs = [(1, some ⟨0, 1, (B ++ l.drop B.length ++ u).map intW⟩)], ⟨l.length - (i + 1), [], [], _, _, ⟨rfl, ?_, ?_⟩, (i + 1), (l.take i), ?_, ?_, ?_, rfl, rfl⟩, ?_⟩; rotate_left 5; rintro m _ _ ⟨j, B, hDFI30, hDFI31, hDFI32, rfl, rfl⟩; refine nx ?_)
    refine ⟨fun h => nx ?_, fun h => nx ?_⟩
    have hj : j < l.length := by omega
    have hBj := filter_take (p := fun x => !p x) hj
    have hc := hp l[j] (List.getElem_mem _)
    refine ⟨j, ⟨rfl, hj⟩, nx ?_⟩
    refine ⟨intW l[j], app_drop_getT rfl (by omega) hj, nx ?_⟩
    cases hq : p l[j] with
    | true =>
      rw [hq] at hc hBj
      refine ⟨([], _), hc, nx ?_⟩
      rw [if_neg (by simp)] at hBj
      have q1 : B = (l.take (j + 1)).filter (fun x => !p x) := by rw [hBj, hDFI31]
      (refine ⟨m - 1, [], [], [(6, .val false [.f (iL (j + 1))]), (5, .val false [.f (iL B.length)]), (1, .val false [.f (.cl f [(false, [c0]), (false, [c1]), (false, [c2])])]), (0, .val false [.row 1 0 l.length])], [(1, some ⟨0, 1, (B ++ l.drop B.length ++ u).map intW⟩)], by omega, ⟨rfl, ?_, ?_⟩, (j + 1), B, ?_, ?_, ?_, rfl, rfl⟩; rotate_left 5)
      all_goals try exact don
    | false =>
      rw [hq] at hc hBj
      rw [if_pos (by simp)] at hBj
      have q1 : B ++ [l[j]] = (l.take (j + 1)).filter (fun x => !p x) := by rw [hBj, hDFI31]
      have q2 : (B ++ [l[j]]).length = B.length + 1 := by simp
      have q3 := app_drop_setT (W := intW) (B := B) (l := l) (u := u) rfl (by omega) l[j]
      have q4 := app_drop_getT (W := intW) (B := B) (l := l) (u := u) (t := B.length) rfl (Nat.le_refl _) (by omega)
      refine ⟨([], _), hc, nx ?_⟩
      refine ⟨B.length, ⟨rfl, by omega⟩, nx ?_⟩
      refine ⟨_, q4, nx ?_⟩
      have q5 : ((B ++ l.drop B.length ++ u).map intW).set B.length (intW l[j]) = ((B ++ [l[j]]) ++ l.drop (B ++ [l[j]]).length ++ u).map intW := by rw [q2]; exact q3
      (refine ⟨m - 1, [], [], [(6, .val false [.f (iL (j + 1))]), (5, .val false [.f (iL (B ++ [l[j]]).length)]), (1, .val false [.f (.cl f [(false, [c0]), (false, [c1]), (false, [c2])])]), (0, .val false [.row 1 0 l.length])], [(1, some ⟨0, 1, ((B ++ [l[j]]) ++ l.drop (B ++ [l[j]]).length ++ u).map intW⟩)], by omega, ⟨rfl, ?_, ?_⟩, (j + 1), (B ++ [l[j]]), ?_, ?_, ?_, rfl, rfl⟩; rotate_left 5)
      all_goals try exact don
    have hj : j = l.length := by omega
    have hBl := filter_le (p := fun x => !p x) (l := l) (j := j) (by omega)
    rw [← hDFI31] at hBl
    rw [hj, List.take_length] at hDFI31
    refine ⟨(B.length, l.length), ⟨rfl, rfl, by omega, .inl (Nat.le_refl _)⟩, nx ?_⟩
    refine ⟨_, clear_tail (W := intW) (B := B) (l := l) (u := u) (0 : Int) rfl rfl (by omega) rfl, nx ?_⟩
    refine ⟨(0, B.length), ⟨rfl, rfl, Nat.zero_le _, .inl (by omega)⟩, nx ?_⟩
    rw [← hDFI31]
    (refine ⟨[], [], ?_⟩; rotate_left)
    all_goals try exact don
theorem ixfI4_ok (l : List Int) (f : FuncId) (c0 c1 c2 c3 : L) (p : Int → Bool) (hl : l.length < 2 ^ 28) (hp : ∀ t ∈ l, FC Tryz.prog f [(false, [iL t]), (false, [c0]), (false, [c1]), (false, [c2]), (false, [c3])] [] [(false, [.f (bL (p t))])]) : FC Tryz.prog 324 [(false, [ints l]), (false, [.cl f [(false, [c0]), (false, [c1]), (false, [c2]), (false, [c3])]])] [] [(false, [.f (iL (ixP p 0 l))])] := by
  refine gr Tryz.func324 Tryz.ntmps324 trivial ?_
  (refine ⟨fun m es hs => ∃ (i : Nat), (m + i = l.length) ∧ (ixP p i (l.drop i) = ixP p 0 l) ∧ es = [(8, .val false [.f (iL i)]), (7, .val false [.f (iL l.length)]), (1, .val false [.f (.cl f [(false, [c0]), (false, [c1]), (false, [c2]), (false, [c3])])]), (0, .val false [.f (ints l)])] ∧ hs = [], ⟨l.length, [], [], _, _, don, 0, don, don, rfl, rfl⟩, ?_⟩; rintro m _ _ ⟨i, hIXI40, hIXI41, rfl, rfl⟩; refine nx ?_)
  refine ⟨fun h => nx ?_, fun h => nx ?_⟩
  have hi : i < l.length := by omega
  rw [List.drop_eq_getElem_cons hi] at hIXI41
  rw [ixP_cons] at hIXI41
  refine ⟨(i, intE l[i]), ⟨rfl, by simp [hi]⟩, nx ?_⟩
  have hc := hp l[i] (List.getElem_mem _)
  cases hq : p l[i] with
  | true =>
    rw [hq] at hc hIXI41
    rw [if_pos rfl] at hIXI41
    refine ⟨([], _), hc, nx ?_⟩
    exact ⟨[], [], don⟩
  | false =>
    rw [hq] at hc hIXI41
    rw [if_neg (by simp)] at hIXI41
    refine ⟨([], _), hc, nx ?_⟩
    exact ⟨m - 1, [], [], _, _, by omega, don, (i + 1), don, don, rfl, rfl⟩
  have hi : l.length ≤ i := by omega
  rw [List.drop_eq_nil_of_le hi] at hIXI41
  have q : (-1 : Int) = ixP p 0 l := hIXI41
  exact ⟨[], [], don⟩
theorem cofI4_ok (l : List Int) (f : FuncId) (c0 c1 c2 c3 : L) (p : Int → Bool) (hl : l.length < 2 ^ 28) (hp : ∀ t ∈ l, FC Tryz.prog f [(false, [iL t]), (false, [c0]), (false, [c1]), (false, [c2]), (false, [c3])] [] [(false, [.f (bL (p t))])]) : FC Tryz.prog 317 [(false, [ints l]), (false, [.cl f [(false, [c0]), (false, [c1]), (false, [c2]), (false, [c3])]])] [] [(false, [.f (bL (l.any p))])] := by
  have hx := ixfI4_ok l f c0 c1 c2 c3 p hl hp
  by_cases k : 0 ≤ ixP p 0 l
  · have q : l.any p = true := by rw [List.any_eq_true]; exact (ixP_any l 0).1 k
    refine gr Tryz.func317 Tryz.ntmps317 trivial ?_
    refine ⟨([], _), hx, nx ?_⟩
    refine ⟨fun h => nx ?_, fun h => absurd h (fun w => w k)⟩
    exact ⟨[], [], don⟩
  · have q : l.any p = false := by
      cases e : l.any p with
      | false => rfl
      | true => rw [List.any_eq_true] at e; exact absurd ((ixP_any l 0).2 e) k
    refine gr Tryz.func317 Tryz.ntmps317 trivial ?_
    refine ⟨([], _), hx, nx ?_⟩
    refine ⟨fun h => absurd h (k), fun h => nx ?_⟩
    exact ⟨[], [], don⟩
theorem ixfI5_ok (l : List Int) (f : FuncId) (c0 c1 c2 c3 c4 : L) (p : Int → Bool) (hl : l.length < 2 ^ 28) (hp : ∀ t ∈ l, FC Tryz.prog f [(false, [iL t]), (false, [c0]), (false, [c1]), (false, [c2]), (false, [c3]), (false, [c4])] [] [(false, [.f (bL (p t))])]) : FC Tryz.prog 324 [(false, [ints l]), (false, [.cl f [(false, [c0]), (false, [c1]), (false, [c2]), (false, [c3]), (false, [c4])]])] [] [(false, [.f (iL (ixP p 0 l))])] := by
  refine gr Tryz.func324 Tryz.ntmps324 trivial ?_
  (refine ⟨fun m es hs => ∃ (i : Nat), (m + i = l.length) ∧ (ixP p i (l.drop i) = ixP p 0 l) ∧ es = [(8, .val false [.f (iL i)]), (7, .val false [.f (iL l.length)]), (1, .val false [.f (.cl f [(false, [c0]), (false, [c1]), (false, [c2]), (false, [c3]), (false, [c4])])]), (0, .val false [.f (ints l)])] ∧ hs = [], ⟨l.length, [], [], _, _, don, 0, don, don, rfl, rfl⟩, ?_⟩; rintro m _ _ ⟨i, hIXI50, hIXI51, rfl, rfl⟩; refine nx ?_)
  refine ⟨fun h => nx ?_, fun h => nx ?_⟩
  have hi : i < l.length := by omega
  rw [List.drop_eq_getElem_cons hi] at hIXI51
  rw [ixP_cons] at hIXI51
  refine ⟨(i, intE l[i]), ⟨rfl, by simp [hi]⟩, nx ?_⟩
  have hc := hp l[i] (List.getElem_mem _)
  cases hq : p l[i] with
  | true =>
    rw [hq] at hc hIXI51
    rw [if_pos rfl] at hIXI51
    refine ⟨([], _), hc, nx ?_⟩
    exact ⟨[], [], don⟩
  | false =>
    rw [hq] at hc hIXI51
    rw [if_neg (by simp)] at hIXI51
    refine ⟨([], _), hc, nx ?_⟩
    exact ⟨m - 1, [], [], _, _, by omega, don, (i + 1), don, don, rfl, rfl⟩
  have hi : l.length ≤ i := by omega
  rw [List.drop_eq_nil_of_le hi] at hIXI51
  have q : (-1 : Int) = ixP p 0 l := hIXI51
  exact ⟨[], [], don⟩
theorem cofI5_ok (l : List Int) (f : FuncId) (c0 c1 c2 c3 c4 : L) (p : Int → Bool) (hl : l.length < 2 ^ 28) (hp : ∀ t ∈ l, FC Tryz.prog f [(false, [iL t]), (false, [c0]), (false, [c1]), (false, [c2]), (false, [c3]), (false, [c4])] [] [(false, [.f (bL (p t))])]) : FC Tryz.prog 317 [(false, [ints l]), (false, [.cl f [(false, [c0]), (false, [c1]), (false, [c2]), (false, [c3]), (false, [c4])]])] [] [(false, [.f (bL (l.any p))])] := by
  have hx := ixfI5_ok l f c0 c1 c2 c3 c4 p hl hp
  by_cases k : 0 ≤ ixP p 0 l
  · have q : l.any p = true := by rw [List.any_eq_true]; exact (ixP_any l 0).1 k
    refine gr Tryz.func317 Tryz.ntmps317 trivial ?_
    refine ⟨([], _), hx, nx ?_⟩
    refine ⟨fun h => nx ?_, fun h => absurd h (fun w => w k)⟩
    exact ⟨[], [], don⟩
  · have q : l.any p = false := by
      cases e : l.any p with
      | false => rfl
      | true => rw [List.any_eq_true] at e; exact absurd ((ixP_any l 0).2 e) k
    refine gr Tryz.func317 Tryz.ntmps317 trivial ?_
    refine ⟨([], _), hx, nx ?_⟩
    refine ⟨fun h => absurd h (k), fun h => nx ?_⟩
    exact ⟨[], [], don⟩
end Go.Proofs.YtecnmodeggnjoaaGreat.Ac
