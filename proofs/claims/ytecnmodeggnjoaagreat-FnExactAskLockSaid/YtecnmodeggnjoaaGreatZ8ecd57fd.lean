/- Several of our texts, one behind the other, without what this claim does not need: Tk, Tm, Tq. -/
import Derived.Test.YtecnmodeggnjoaaGreatZ7a81eb2a
import Derived.Test.YtecnmodeggnjoaaGreatZe2002630
set_option linter.unusedVariables false
set_option linter.unusedSimpArgs false
set_option maxRecDepth 20000
set_option maxHeartbeats 20000000
namespace Go.Proofs.YtecnmodeggnjoaaGreat.Ac
open Go.RowKit
def witF (s : Int) (l : List Ho) : List Ho := l.filter fun x => !decide (x.session = s)
theorem wit_len {s : Int} {l : List Ho} : (witF s l).length ≤ l.length := List.length_filter_le _ _
theorem wit_mem {s : Int} {l : List Ho} {x : Ho} (h : x ∈ witF s l) : x ∈ l := (List.mem_filter.1 h).1
def leaveF (t : Tb) (s : Int) : Tb := ⟨witF s t.holds, witF s t.waits⟩
def cutT (l m u : List Ho) : List Ho := List.replicate (l.length - m.length) (⟨0, 0, 0⟩ : Ho) ++ u
theorem leave_tabG {d : Dc} {t : Tb} (s : Int) (h : TabG d t) : TabG d (leaveF t s) :=
  ⟨⟨by have := h.hg.len; have := wit_len (s := s) (l := t.holds); show (witF s t.holds).length < _; omega, fun x hx => h.hg.has x (wit_mem hx), fun x hx => h.hg.md x (wit_mem hx)⟩, h.rise.sublist List.filter_sublist,
    by have := h.wl; have := wit_len (s := s) (l := t.waits); show (witF s t.waits).length < _; omega, fun x hx => h.wh x (wit_mem hx), fun x hx => h.wm x (wit_mem hx)⟩
theorem leave1_ok (x : Ho) (s : Int) : FC Tryz.prog 172 [(true, hoL x), (false, [.pv [iL s]])] [] [(false, [.f (bL (decide (x.session = s)))])] := by
  by_cases k : x.session = s
  · have q : decide (x.session = s) = true := decide_eq_true k
    refine gr Tryz.func172 Tryz.ntmps172 trivial ?_
    refine ⟨fun h => nx ?_, fun h => absurd h (fun w => w k)⟩
    exact ⟨[], [], don⟩
  · have q : decide (x.session = s) = false := decide_eq_false k
    refine gr Tryz.func172 Tryz.ntmps172 trivial ?_
    refine ⟨fun h => absurd h (k), fun h => nx ?_⟩
    exact ⟨[], [], don⟩
theorem leave_ok (t : Tb) (s : Int) (h1 : t.holds.length < 2 ^ 28) (h2 : t.waits.length < 2 ^ 28) (u v : List Ho) : GCalls Tryz.prog 90 [(1, some ⟨3, 2, [[.row 2 0 t.holds.length, .row 3 0 t.waits.length]]⟩), (2, some ⟨0, 3, (t.holds ++ u).map hoW⟩), (3, some ⟨0, 3, (t.waits ++ v).map hoW⟩)] [(false, [.pt 1 0 0]), (false, [.f (iL s)])]
    [(1, some ⟨3, 2, [[.row 2 0 (leaveF t s).holds.length, .row 3 0 (leaveF t s).waits.length]]⟩), (2, some ⟨0, 3, ((leaveF t s).holds ++ cutT t.holds (witF s t.holds) u).map hoW⟩), (3, some ⟨0, 3, ((leaveF t s).waits ++ cutT t.waits (witF s t.waits) v).map hoW⟩)] [] := by
  have c1 := dlfHo1_ok t.holds 172 (.pv [iL s]) (fun x => decide (x.session = s)) h1 (fun x _ => leave1_ok x s) u
  have c2 := dlfHo1_ok t.waits 172 (.pv [iL s]) (fun x => decide (x.session = s)) h2 (fun x _ => leave1_ok x s) v
  refine gr Tryz.func90 Tryz.ntmps90 (⟨trivial, cl_hos _, cl_hos _, trivial⟩) ?_
  refine ⟨⟨true, [(1, 2)], _, _, _, _⟩, c1, cd ?_⟩
  refine ⟨⟨true, [(1, 3)], _, _, _, _⟩, c2, cd ?_⟩
  exact ⟨[], [], don⟩
theorem wit_take {s : Int} {l : List Ho} {i : Nat} (hi : i < l.length) : witF s (l.take (i + 1)) = if l[i].session = s then witF s (l.take i) else witF s (l.take i) ++ [l[i]] := by
  unfold witF
  rw [List.take_succ_eq_append_getElem hi, List.filter_append]
  by_cases k : l[i].session = s
  · rw [if_pos k, List.filter_cons_of_neg (by simp [k])]; simp
  · rw [if_neg k, List.filter_cons_of_pos (by simp [k])]; simp
theorem l08Without_ok (t : Tb) (s : Int) (h1 : t.holds.length < 2 ^ 28) (h2 : t.waits.length < 2 ^ 28) : FC Tryz.prog 88 [(true, tbL t), (false, [iL s])] [] [(true, [.f (hos (witF s t.holds)), .f (hos (witF s t.waits))])] := by
  refine gr Tryz.func88 Tryz.ntmps88 trivial ?_
  have q0 : ([] : List Ho) = witF s (t.holds.take 0) := rfl
  have q1 : ([] : List Ho) = witF s (t.waits.take 0) := rfl
  (refine ⟨fun m es hs => ∃ (i : Nat) (a : List Ho), (m + i = t.holds.length) ∧ (a = witF s (t.holds.take i)) ∧ es = [(6, .val false [.f (iL i)]), (5, .val false [.pt 96 0 0]), (4, .val false [.pt 80 0 0]), (2, .val false [.pt 48 0 0]), (1, .val false [.f (iL s)])] ∧ hs = [(48, some ⟨3, 2, [(tbL t).map .f]⟩), (80, some ⟨3, 2, [[.nl, .nl]]⟩), (96, some ⟨3, 2, [[.row 3 0 a.length, .row 4 0 0]]⟩), (3, some ⟨0, 3, a.map hoW⟩), (4, some ⟨0, 3, []⟩)], ⟨t.holds.length, [], [(3, 144), (4, 160)], _, _, don, 0, ([]), don, don, rfl, rfl⟩, ?_⟩; rintro m _ _ ⟨i, a, hWIA0, hWIA1, rfl, rfl⟩; refine nx ?_)
  refine ⟨fun h => nx ?_, fun h => nx ?_⟩
  have hi : i < t.holds.length := by simpa using h
  have ht := wit_take (s := s) hi
  have hal : a.length ≤ i := by rw [hWIA1]; have := wit_len (s := s) (l := t.holds.take i); simp at this; omega
  refine ⟨(i, hoL t.holds[i]), ⟨rfl, by simp [hi]⟩, nx ?_⟩
  by_cases k : t.holds[i].session = s
  rw [if_pos k, ← hWIA1] at ht
  have q := ht.symm
  refine ⟨fun h => absurd h (fun w => w k), fun h => nx ?_⟩
  exact ⟨m - 1, [], [], _, _, by omega, don, (i + 1), a, don, don, rfl, rfl⟩
  rw [if_neg k, ← hWIA1] at ht
  have q := ht.symm
  refine ⟨fun h => nx ?_, fun h => absurd h (fun w => w k)⟩
  refine ⟨(i, hoL t.holds[i]), ⟨rfl, by simp [hi]⟩, nx ?_⟩
  refine ⟨(a ++ [t.holds[i]]).map hoW, ⟨app_one hoW a t.holds[i], by simp; omega⟩, nx ?_⟩
  exact ⟨m - 1, [], [(3, 560)], _, _, by omega, don, (i + 1), (a ++ [t.holds[i]]), don, don, rfl, rfl⟩
  have hi' : t.holds.length ≤ i := by simpa using h
  have hi : i = t.holds.length := by omega
  rw [hi, List.take_length] at hWIA1
  rw [hWIA1]
  clear hWIA0 hWIA1 h hi hi'
  (refine ⟨fun m es hs => ∃ (j : Nat) (b : List Ho), (m + j = t.waits.length) ∧ (b = witF s (t.waits.take j)) ∧ es = [(7, .val false [.f (iL j)]), (5, .val false [.pt 96 0 0]), (4, .val false [.pt 80 0 0]), (2, .val false [.pt 48 0 0]), (1, .val false [.f (iL s)])] ∧ hs = [(48, some ⟨3, 2, [(tbL t).map .f]⟩), (80, some ⟨3, 2, [[.nl, .nl]]⟩), (96, some ⟨3, 2, [[.row 3 0 (witF s t.holds).length, .row 4 0 b.length]]⟩), (3, some ⟨0, 3, (witF s t.holds).map hoW⟩), (4, some ⟨0, 3, b.map hoW⟩)], ⟨t.waits.length, [], [], _, _, don, 0, ([]), don, don, rfl, rfl⟩, ?_⟩; rintro m _ _ ⟨j, b, hWIB0, hWIB1, rfl, rfl⟩; refine nx ?_)
  refine ⟨fun h => nx ?_, fun h => nx ?_⟩
  have hi : j < t.waits.length := by simpa using h
  have ht := wit_take (s := s) hi
  have hal : b.length ≤ j := by rw [hWIB1]; have := wit_len (s := s) (l := t.waits.take j); simp at this; omega
  refine ⟨(j, hoL t.waits[j]), ⟨rfl, by simp [hi]⟩, nx ?_⟩
  by_cases k : t.waits[j].session = s
  rw [if_pos k, ← hWIB1] at ht
  have q := ht.symm
  refine ⟨fun h => absurd h (fun w => w k), fun h => nx ?_⟩
  exact ⟨m - 1, [], [], _, _, by omega, don, (j + 1), b, don, don, rfl, rfl⟩
  rw [if_neg k, ← hWIB1] at ht
  have q := ht.symm
  refine ⟨fun h => nx ?_, fun h => absurd h (fun w => w k)⟩
  refine ⟨(j, hoL t.waits[j]), ⟨rfl, by simp [hi]⟩, nx ?_⟩
  refine ⟨(b ++ [t.waits[j]]).map hoW, ⟨app_one hoW b t.waits[j], by simp; omega⟩, nx ?_⟩
  exact ⟨m - 1, [], [(4, 960)], _, _, by omega, don, (j + 1), (b ++ [t.waits[j]]), don, don, rfl, rfl⟩
  have hi : t.waits.length ≤ j := by simpa using h
  rw [List.take_of_length_le hi] at hWIB1
  rw [hWIB1]
  exact ⟨[], [], don⟩
end Go.Proofs.YtecnmodeggnjoaaGreat.Ac
set_option linter.unusedVariables false
set_option linter.unusedSimpArgs false
set_option maxRecDepth 20000
set_option maxHeartbeats 20000000
namespace Go.Proofs.YtecnmodeggnjoaaGreat.Ac
open Go.RowKit
def sesP (s : Int) : Prop := 1 ≤ s ∧ s ≤ 999
noncomputable def tcF (d : Dc) (t : Tb) (s : Int) : Int := if dB (DOK d ∧ TabP d t) then (if dB (sesP s) then 0 else 4) else 1
theorem tc_no {d : Dc} {t : Tb} {s : Int} (h : ¬ (DOK d ∧ TabP d t)) : tcF d t s = 1 := by unfold tcF; rw [dB_no h]; rfl
theorem tc_out {d : Dc} {t : Tb} {s : Int} (h : DOK d ∧ TabP d t) (k : ¬ sesP s) : tcF d t s = 4 := by unfold tcF; rw [dB_yes h, dB_no k]; rfl
theorem tc_yes {d : Dc} {t : Tb} {s : Int} (h : DOK d ∧ TabP d t) (k : sesP s) : tcF d t s = 0 := by unfold tcF; rw [dB_yes h, dB_yes k]; rfl
theorem tableCode_ok (d : Dc) (t : Tb) (hg : TbG d t) (s : Int) : FC Tryz.prog 89 [(true, dcL d), (true, tbL t), (false, [iL s])] [] [(false, [.f (iL (tcF d t s))])] := by
  have ho := tableOK_ok d hg.d64 t (by have := hg.hl; omega) (by have := hg.wl; omega) hg.hn hg.wn
  have hs := isSession_ok s
  by_cases k : DOK d ∧ TabP d t
  case neg =>
    rw [tc_no k]
    refine gr Tryz.func89 Tryz.ntmps89 trivial ?_
    refine ⟨([], _), ho.x k, nx ?_⟩
    exact ⟨[], [], don⟩
  by_cases k2 : sesP s
  case neg =>
    rw [tc_out k k2]
    refine gr Tryz.func89 Tryz.ntmps89 trivial ?_
    refine ⟨([], _), ho.y k, nx ?_⟩
    refine ⟨([], _), hs.n k2, nx ?_⟩
    exact ⟨[], [], don⟩
  rw [tc_yes k k2]
  refine gr Tryz.func89 Tryz.ntmps89 trivial ?_
  refine ⟨([], _), ho.y k, nx ?_⟩
  refine ⟨([], _), hs.t k2, nx ?_⟩
  exact ⟨[], [], don⟩
theorem l08Ask_ok (d : Dc) (t : Tb) (hg : TbG d t) (s : Int) : FC Tryz.prog 87 [(true, dcL d), (true, tbL t), (false, [iL s])] [] [(false, [.f (iL (tcF d t s))])] := by
  have ho := specTableOK_ok d hg.d64 (by have := hg.dl; omega) t (by have := hg.hl; omega) (by have := hg.wl; omega)
  by_cases k : DOK d ∧ TabP d t
  case neg =>
    rw [tc_no k]
    refine gr Tryz.func87 Tryz.ntmps87 trivial ?_
    refine ⟨([], _), ho.x k, nx ?_⟩
    exact ⟨[], [], don⟩
  by_cases k2 : sesP s
  case neg =>
    rw [tc_out k k2]
    refine gr Tryz.func87 Tryz.ntmps87 trivial ?_
    refine ⟨([], _), ho.y k, nx ?_⟩
    refine ⟨([], _), in_f k2, nx ?_⟩
    exact ⟨[], [], don⟩
  rw [tc_yes k k2]
  refine gr Tryz.func87 Tryz.ntmps87 trivial ?_
  refine ⟨([], _), ho.y k, nx ?_⟩
  refine ⟨([], _), in_t k2, nx ?_⟩
  exact ⟨[], [], don⟩
theorem tc_iff {d : Dc} {t : Tb} {s : Int} : tcF d t s = 0 ↔ (DOK d ∧ TabP d t) ∧ sesP s := by
  by_cases k : DOK d ∧ TabP d t
  · by_cases k2 : sesP s
    · rw [tc_yes k k2]; exact ⟨fun _ => ⟨k, k2⟩, fun _ => rfl⟩
    · rw [tc_out k k2]; exact ⟨fun h => absurd h (by decide), fun h => absurd h.2 k2⟩
  · rw [tc_no k]; exact ⟨fun h => absurd h (by decide), fun h => absurd h.1 k⟩
end Go.Proofs.YtecnmodeggnjoaaGreat.Ac
set_option linter.unusedVariables false
set_option linter.unusedSimpArgs false
namespace Go.Proofs.YtecnmodeggnjoaaGreat.Ac
open Go.RowKit
noncomputable def vicA (d : Dc) (t : Tb) (s : Int) : Int := (circF d t s).getLastD 0
noncomputable def vicX (d : Dc) (s : Int) {β : Type} (f : Tb → Int → β → β) : Nat → Tb → β → β
  | 0, _, b => b
  | n + 1, t, b => if dB (circF d t s = []) then b else vicX d s f n (leaveF t (vicA d t s)) (f t (vicA d t s) b)
noncomputable def vicK (d : Dc) (s : Int) {β : Type} (f : Tb → Int → β → β) (t : Tb) (b : β) : β := vicX d s f (t.waits.length + 1) t b
theorem circ_wait {d : Dc} {t : Tb} {s x : Int} (h : x ∈ circF d t s) : ∃ w ∈ t.waits, w.session = x := by
  have h1 := dB_iff.1 (List.mem_filter.1 h).2
  rcases wait_at t x with ⟨hw, _⟩ | ⟨k, hk, _, e, _⟩
  · exfalso
    unfold reachF at h1
    rw [bfsF] at h1
    simp only [blk_none hw, addF, List.append_nil, bfs_nil] at h1
    cases h1
  · exact ⟨_, List.getElem_mem hk, e⟩
theorem vic_mem {d : Dc} {t : Tb} {s : Int} (h : circF d t s ≠ []) : vicA d t s ∈ circF d t s := by
  unfold vicA
  rw [List.getLastD_eq_getLast?, List.getLast?_eq_some_getLast h]
  exact List.getLast_mem h
theorem vic_lt {d : Dc} {t : Tb} {s : Int} (h : circF d t s ≠ []) : (leaveF t (vicA d t s)).waits.length < t.waits.length := by
  obtain ⟨w, hw, e⟩ := circ_wait (vic_mem h)
  exact List.length_filter_lt_length_iff_exists.2 ⟨w, hw, by simp [e]⟩
theorem vicX_more (d : Dc) (s : Int) {β : Type} (f : Tb → Int → β → β) : ∀ (n m : Nat) (t : Tb) (b : β), t.waits.length < n → t.waits.length < m → vicX d s f n t b = vicX d s f m t b
  | 0, _, _, _, h, _ => by omega
  | _ + 1, 0, _, _, _, h => by omega
  | n + 1, m + 1, t, b, h1, h2 => by
    unfold vicX
    by_cases h : circF d t s = []
    · rw [dB_yes h]; rfl
    · have := vic_lt h
      rw [dB_no h]
      exact vicX_more d s f n m _ _ (by omega) (by omega)
theorem vic_end {d : Dc} {s : Int} {β : Type} {f : Tb → Int → β → β} {t : Tb} {b : β} (h : circF d t s = []) : vicK d s f t b = b := by
  unfold vicK vicX; rw [dB_yes h]; rfl
theorem vic_step {d : Dc} {s : Int} {β : Type} {f : Tb → Int → β → β} {t : Tb} {b : β} (h : circF d t s ≠ []) : vicK d s f t b = vicK d s f (leaveF t (vicA d t s)) (f t (vicA d t s) b) := by
  have := vic_lt h
  have e : vicX d s f t.waits.length (leaveF t (vicA d t s)) (f t (vicA d t s) b) = vicK d s f (leaveF t (vicA d t s)) (f t (vicA d t s) b) := vicX_more d s f _ _ _ _ this (Nat.lt_succ_self _)
  show vicX d s f (t.waits.length + 1) t b = _
  rw [vicX, dB_no h]
  exact e
def fT (t : Tb) (x : Int) (_ : Tb) : Tb := leaveF t x
def fV (_ : Tb) (x : Int) (l : List Int) : List Int := l ++ [x]
def fU (t : Tb) (x : Int) (u : List Ho) : List Ho := cutT t.holds (witF x t.holds) u
def fW (t : Tb) (x : Int) (u : List Ho) : List Ho := cutT t.waits (witF x t.waits) u
theorem vic_inv {d : Dc} {s : Int} {P : Tb → Prop} (hP : ∀ t x, P t → P (leaveF t x)) : ∀ (n : Nat) (t : Tb), P t → P (vicX d s fT n t t)
  | 0, _, h => h
  | n + 1, t, h => by
    unfold vicX
    split
    · exact h
    · exact vic_inv hP n _ (hP _ _ h)
theorem vic_pre {d : Dc} {s y : Int} : ∀ (n : Nat) (t : Tb) (b : List Int), y ∈ b → y ∈ vicX d s fV n t b
  | 0, _, _, h => h
  | n + 1, t, b, h => by
    unfold vicX
    split
    · exact h
    · exact vic_pre n _ _ (List.mem_append_left _ h)
theorem vic_keep {d : Dc} {s : Int} {w : Ho} (hw : w.session = s) : ∀ (n : Nat) (t : Tb) (b : List Int), s ∉ vicX d s fV n t b → w ∈ t.waits → w ∈ (vicX d s fT n t t).waits
  | 0, _, _, _, h => h
  | n + 1, t, b, h1, h => by
    unfold vicX at h1 ⊢
    split
    · exact h
    · rename_i hc
      rw [if_neg hc] at h1
      refine vic_keep hw n _ _ h1 ?_
      have hx : s ≠ vicA d t s := fun e => h1 (vic_pre n _ _ (List.mem_append_right _ (by rw [← e]; exact List.mem_singleton_self _)))
      exact List.mem_filter.2 ⟨h, by rw [hw, decide_eq_false hx]; rfl⟩
theorem vic_len {d : Dc} {s : Int} : ∀ (n : Nat) (t : Tb) (b : List Int), t.waits.length < n → (vicX d s fV n t b).length + (vicX d s fT n t t).waits.length ≤ b.length + t.waits.length
  | 0, _, _, h => by omega
  | n + 1, t, b, h => by
    unfold vicX
    by_cases hc : circF d t s = []
    · rw [dB_yes hc]; exact Nat.le_refl _
    · have := vic_lt hc
      rw [dB_no hc]
      have ih := vic_len (d := d) (s := s) n (leaveF t (vicA d t s)) (fV t (vicA d t s) b) (by omega)
      have e : (fV t (vicA d t s) b).length = b.length + 1 := by simp [fV]
      show (vicX d s fV n (leaveF t (vicA d t s)) (fV t (vicA d t s) b)).length + (vicX d s fT n (leaveF t (vicA d t s)) (leaveF t (vicA d t s))).waits.length ≤ _
      omega
theorem erase_perm {l : List Ho} {k : Nat} (hk : k < l.length) : l.Perm (l[k] :: l.eraseIdx k) := by
  rw [List.eraseIdx_eq_take_drop_succ]
  have e : l = l.take k ++ l[k] :: l.drop (k + 1) := by rw [← List.drop_eq_getElem_cons hk, List.take_append_drop]
  conv => lhs; rw [e]
  exact List.perm_middle
theorem set_perm {d : Dc} : ∀ (n : Nat) (t : Tb) (k : Nat), setN t k < n → t.waits.Perm ((setK d t k).2 ++ (setK d t k).1.waits)
  | 0, _, _, h => by omega
  | n + 1, t, k, h => by
    by_cases hk : k < t.waits.length
    · have a := setN_grant hk
      have b := setN_next hk
      by_cases hf : freeP d t k
      · rw [setK_free hk hf]
        have ih := set_perm (d := d) n (grant t k) 0 (by omega)
        exact (erase_perm hk).trans (ih.cons _)
      · rw [setK_next hk hf]; exact set_perm n t (k + 1) (by omega)
    · rw [setK_end (by omega)]; exact List.Perm.refl _
def askT (t : Tb) (y : Ho) : Tb := ⟨t.holds, t.waits ++ [y]⟩
noncomputable def vcT (d : Dc) (t : Tb) (y : Ho) : Tb := vicK d y.session fT (askT t y) (askT t y)
noncomputable def vcV (d : Dc) (t : Tb) (y : Ho) : List Int := vicK d y.session fV (askT t y) []
noncomputable def lkF (d : Dc) (t : Tb) (y : Ho) : Tb × List Ho × List Int × Int :=
  if joinM (ownF t.holds y.session y.node) y.mode = ownF t.holds y.session y.node then (t, [], [], 0)
  else if (putF t.holds y).length > 30 ∨ t.waits.length = 6 then (t, [], [], 7)
  else ((setK d (vcT d t y) 0).1, (setK d (vcT d t y) 0).2, vcV d t y, if y.session ∈ vcV d t y then 15 else if waitF (setK d (vcT d t y) 0).1 y.session < 0 then 0 else 14)
theorem wait_neg {t : Tb} {s : Int} : waitF t s < 0 ↔ s ∉ t.waits.map (·.session) := by
  rcases wait_at t s with ⟨h1, h2⟩ | ⟨k, hk, h1, h2, _⟩
  · exact ⟨fun _ w => by obtain ⟨x, hx, e⟩ := List.mem_map.1 w; exact h2 x hx e, fun _ => h1⟩
  · exact ⟨fun w => by omega, fun w => absurd (List.mem_map.2 ⟨_, List.getElem_mem hk, h2⟩) w⟩
theorem ask_code {d : Dc} {t : Tb} {y : Ho} (hw : WaitsP d t.waits) (hn : waitF t y.session < 0) (hv : y.session ∉ vcV d t y) :
    waitF (setK d (vcT d t y) 0).1 y.session < 0 ↔ y.session ∈ (setK d (vcT d t y) 0).2.map (·.session) := by
  have nd : ((askT t y).waits.map (·.session)).Nodup := by
    show ((t.waits ++ [y]).map (·.session)).Nodup
    rw [List.map_append, List.nodup_append]
    refine ⟨?_, by simp, fun a ha b hb => ?_⟩
    · rw [List.nodup_iff_pairwise_ne, List.pairwise_iff_getElem]
      intro i j hi hj hij
      rw [List.getElem_map, List.getElem_map]
      exact (hw.2 j (by simpa using hj)).2 i hij
    · rintro rfl
      have : a = y.session := by simpa using hb
      rw [this] at ha
      exact wait_neg.1 hn ha
  have nd2 : ((vcT d t y).waits.map (·.session)).Nodup := vic_inv (P := fun t : Tb => (t.waits.map fun w : Ho => w.session).Nodup) (fun t x h => h.sublist ((List.filter_sublist (l := t.waits)).map _)) _ _ nd
  have hin : y.session ∈ (vcT d t y).waits.map (·.session) := List.mem_map.2 ⟨y, vic_keep rfl _ _ [] hv (List.mem_append_right _ List.mem_cons_self), rfl⟩
  have pm := (set_perm (d := d) (setN (vcT d t y) 0 + 1) (vcT d t y) 0 (Nat.lt_succ_self _)).map (·.session)
  rw [List.map_append] at pm
  have nd3 := pm.nodup_iff.1 nd2
  have hin2 := pm.mem_iff.1 hin
  rw [List.nodup_append] at nd3
  rw [wait_neg]
  rcases List.mem_append.1 hin2 with h | h
  · exact ⟨fun _ => h, fun _ w => nd3.2.2 _ h _ w rfl⟩
  · exact ⟨fun w => absurd h w, fun w => absurd rfl (nd3.2.2 _ w _ h)⟩
theorem ask_tabG {d : Dc} {t : Tb} {y : Ho} (h : TabG d t) (hw : t.waits.length < 2 ^ 19) (hn : (ndAt d.nodes y.node).isSome) (hm : Md y.mode) : TabG d (askT t y) :=
  ⟨h.hg, h.rise, by show (t.waits ++ [y]).length < _; simp; omega, fun x hx => by
    rcases List.mem_append.1 hx with k | k
    · exact h.wh x k
    · rw [List.mem_singleton.1 k]; exact hn, fun x hx => by
    rcases List.mem_append.1 hx with k | k
    · exact h.wm x k
    · rw [List.mem_singleton.1 k]; exact hm⟩
end Go.Proofs.YtecnmodeggnjoaaGreat.Ac
