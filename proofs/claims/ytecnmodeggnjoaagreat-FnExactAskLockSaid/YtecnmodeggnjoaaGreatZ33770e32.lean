/- Several of our texts, one behind the other, without what this claim does not need: Lf. -/
import Derived.Test.YtecnmodeggnjoaaGreatZe2002630
import Derived.Test.YtecnmodeggnjoaaGreatZ3021d712
set_option linter.unusedVariables false
set_option linter.unusedSimpArgs false
set_option maxRecDepth 20000
set_option maxHeartbeats 20000000
namespace Go.Proofs.YtecnmodeggnjoaaGreat.Ac
open Go.RowKit
theorem waiting1_ok (x : Ho) (s : Int) : FC Tryz.prog 251 [(true, hoL x), (false, [.pv [iL s]])] [] [(false, [.f (bL (decide (x.session = s)))])] := by
  by_cases k : x.session = s
  · have q := b_true k
    refine gr Tryz.func251 Tryz.ntmps251 trivial ?_
    refine ⟨fun h => nx ?_, fun h => absurd h (fun w => w k)⟩
    exact ⟨[], [], don⟩
  · have q := b_false k
    refine gr Tryz.func251 Tryz.ntmps251 trivial ?_
    refine ⟨fun h => absurd h (k), fun h => nx ?_⟩
    exact ⟨[], [], don⟩
theorem waiting_ok (t : Tb) (s : Int) (hl : t.waits.length < 2 ^ 62) : FC Tryz.prog 165 [(false, [.pv (tbL t)]), (false, [iL s])] [] [(false, [.f (iL (waitF t s))])] := by
  have hx := ixfHold_ok t.waits 251 (.pv [iL s]) (fun h : Ho => decide (h.session = s)) hl fun x hx => waiting1_ok x s
  refine gr Tryz.func165 Tryz.ntmps165 trivial ?_
  refine ⟨⟨true, [], _, _, _, _⟩, hx, cd ?_⟩
  exact ⟨[], [], don⟩
theorem l08At_ok (t : Tb) (s : Int) (hl : t.waits.length < 2 ^ 62) : FC Tryz.prog 97 [(true, tbL t), (false, [iL s])] [] [(false, [.f (iL (waitF t s))])] := by
  have h0 : ixP (fun h : Ho => decide (h.session = s)) 0 (t.waits.drop 0) = waitF t s := rfl
  refine gr Tryz.func97 Tryz.ntmps97 trivial ?_
  (refine ⟨fun m es hs => ∃ (i : Nat), (m + i = t.waits.length) ∧ (ixP (fun h : Ho => decide (h.session = s)) i (t.waits.drop i) = waitF t s) ∧ es = [(5, .val false [.f (iL i)]), (2, .val false [.pt 48 0 0]), (1, .val false [.f (iL s)])] ∧ hs = [(48, some ⟨3, 2, [(tbL t).map .f]⟩)], ⟨t.waits.length, [], [], _, _, don, 0, don, don, rfl, rfl⟩, ?_⟩; rintro m _ _ ⟨i, hWAS0, hWAS1, rfl, rfl⟩; refine nx ?_)
  refine ⟨fun h => nx ?_, fun h => nx ?_⟩
  have hi : i < t.waits.length := by simpa using h
  rw [List.drop_eq_getElem_cons hi, ixP_cons] at hWAS1
  refine ⟨(i, hoL t.waits[i]), ⟨rfl, by simp [hi]⟩, nx ?_⟩
  by_cases k : t.waits[i].session = s
  · rw [if_pos (by simpa using k)] at hWAS1
    refine ⟨fun h => nx ?_, fun h => absurd h (fun w => w k)⟩
    exact ⟨[], [], don⟩
  · rw [if_neg (by simpa using k)] at hWAS1
    refine ⟨fun h => absurd h (k), fun h => nx ?_⟩
    exact ⟨m - 1, [], [], _, _, by omega, don, (i + 1), don, don, rfl, rfl⟩
  have hi : t.waits.length ≤ i := by simpa using h
  rw [List.drop_eq_nil_of_le hi] at hWAS1
  have q : (-1 : Int) = waitF t s := hWAS1
  exact ⟨[], [], don⟩
theorem wait_at (t : Tb) (s : Int) : (waitF t s < 0 ∧ ∀ x ∈ t.waits, x.session ≠ s) ∨ ∃ k, ∃ h : k < t.waits.length, waitF t s = (k : Int) ∧ t.waits[k].session = s ∧ ∀ j (hj : j < k), t.waits[j].session ≠ s := by
  rcases ixP_at (p := fun h : Ho => decide (h.session = s)) t.waits 0 with ⟨h1, h2⟩ | ⟨k, hk, h1, h2, h3⟩
  · exact .inl ⟨by unfold waitF; omega, fun x hx => by simpa using h2 x hx⟩
  · exact .inr ⟨k, hk, by unfold waitF; rw [h1, Nat.zero_add], by simpa using h2, fun j hj => by simpa using h3 j hj⟩
theorem blk_none {d : Dc} {t : Tb} {s : Int} (h : waitF t s < 0) : blkF d t s = [] := by unfold blkF; rw [if_pos h]
theorem blk_at {d : Dc} {t : Tb} {s : Int} {k : Nat} (hk : k < t.waits.length) (h : waitF t s = (k : Int)) : blkF d t s = blockF d t k t.waits[k] := by
  unfold blkF
  rw [if_neg (by omega), h]
  simp [hk]
def allS (t : Tb) : List Int := (t.holds ++ t.waits).map (·.session)
theorem allS_len (t : Tb) : (allS t).length = t.holds.length + t.waits.length := by unfold allS; simp
theorem out_le {t : Tb} {out : List Int} (h : out.Nodup ∧ ∀ x ∈ out, x ∈ allS t) : out.length ≤ t.holds.length + t.waits.length := by rw [← allS_len]; exact len_le h.1 h.2
theorem add_ok {d : Dc} {t : Tb} {out : List Int} (x : Int) (h : out.Nodup ∧ ∀ x ∈ out, x ∈ allS t) : (out ++ addF out (blkF d t x)).Nodup ∧ ∀ y ∈ out ++ addF out (blkF d t x), y ∈ allS t :=
  ⟨add_nodup h.1, fun y hy => (List.mem_append.1 hy).elim (h.2 y) fun hy => blk_mem (add_mem hy)⟩
theorem add_part {d : Dc} {t : Tb} {out bl : List Int} {u : Nat} (x : Int) (hb : bl = blkF d t x) (h : out.Nodup ∧ ∀ x ∈ out, x ∈ allS t) : (out ++ addF out (bl.take u)).length ≤ t.holds.length + t.waits.length :=
  out_le (t := t) ⟨add_nodup h.1, fun y hy => (List.mem_append.1 hy).elim (h.2 y) fun hy => blk_mem (d := d) (s := x) (hb ▸ List.mem_of_mem_take (add_mem hy))⟩
theorem add_take {out bl : List Int} {u : Nat} (hu : u < bl.length) : addF out (bl.take (u + 1)) = if bl[u] ∈ out ++ addF out (bl.take u) then addF out (bl.take u) else addF out (bl.take u) ++ [bl[u]] := by
  rw [List.take_succ_eq_append_getElem hu, add_snoc]
theorem bfs_step {blk : Int → List Int} {m : Nat} {Q out : List Int} {i : Nat} (hi : i < Q.length) : bfsF blk (m + 1) (Q.drop i) out = bfsF blk m ((Q ++ addF out (blk Q[i])).drop (i + 1)) (out ++ addF out (blk Q[i])) := by
  rw [List.drop_eq_getElem_cons hi, bfsF, List.drop_append_of_le_length (by omega)]
theorem reached_ok (d : Dc) (hd : DOK d) (t : Tb) (ht : TabG d t) (s : Int) : FC Tryz.prog 260 [(false, [.pv (dcL d)]), (false, [.pv (tbL t)]), (false, [iL s])] [(1000, some ⟨0, 1, (sortI (reachF d t s)).map intW⟩)] [(false, [.row 1000 0 (reachF d t s).length])] := by
  have hwl := ht.wl
  have hgl := ht.hg.len
  have h0 : bfsF (blkF d t) (t.holds.length + t.waits.length + 1) ((s :: ([] : List Int)).drop 0) [] = reachF d t s := rfl
  have hn0 : ([] : List Int).Nodup ∧ ∀ x ∈ ([] : List Int), x ∈ allS t := ⟨List.nodup_nil, fun x hx => by cases hx⟩
  refine gr Tryz.func260 Tryz.ntmps260 (⟨cl_ints _, trivial⟩) ?_
  (refine ⟨fun m es hs => ∃ (i : Nat) (out : List Int), (bfsF (blkF d t) m ((s :: out).drop i) out = reachF d t s) ∧ (m + i = t.holds.length + t.waits.length + 1) ∧ (out.Nodup ∧ ∀ x ∈ out, x ∈ allS t) ∧ es = [(9, .val false [.f (iL i)]), (8, .val false [.row 4 0 (s :: out).length]), (7, .val false [.row 3 0 out.length]), (1, .val false [.f (.pv (tbL t))]), (0, .val false [.f (.pv (dcL d))])] ∧ hs = [(3, some ⟨0, 1, out.map intW⟩), (4, some ⟨0, 1, (s :: out).map intW⟩)], ⟨t.holds.length + t.waits.length + 1, [], [(4, 240)], _, _, don, 0, ([]), don, don, don, rfl, rfl⟩, ?_⟩; rintro m _ _ ⟨i, out, hRCH0, hRCH1, hRCH2, rfl, rfl⟩; refine nx ?_)
  refine ⟨fun h => nx ?_, fun h => nx ?_⟩
  have hi : i < (s :: out).length := by omega
  have hol := out_le hRCH2
  have hll : (s :: out).length = out.length + 1 := rfl
  obtain ⟨mo, rfl⟩ : ∃ mo, m = mo + 1 := ⟨m - 1, by omega⟩
  rw [bfs_step hi] at hRCH0
  have hno := add_ok (d := d) (s :: out)[i] hRCH2
  refine ⟨i, ⟨rfl, hi⟩, nx ?_⟩
  refine ⟨intW (s :: out)[i], by rw [List.getElem?_map, List.getElem?_eq_getElem hi]; rfl, nx ?_⟩
  have hw := waiting_ok t (s :: out)[i] (by omega)
  rcases wait_at t (s :: out)[i] with ⟨hn, _⟩ | ⟨k, hk, hke, _⟩
  · have hb : blkF d t (s :: out)[i] = [] := blk_none hn
    rw [hb] at hRCH0
    have q : bfsF (blkF d t) mo ((s :: out).drop (i + 1)) out = reachF d t s := by rw [← hRCH0]; simp [addF]
    refine ⟨([], _), hw, nx ?_⟩
    refine ⟨fun h => nx ?_, fun h => absurd h (fun w => w hn)⟩
    obtain ⟨qa, qb⟩ := hRCH2
    exact ⟨mo, [], [], _, _, by omega, don, (i + 1), out, don, don, don, rfl, rfl⟩
  have hb : blkF d t (s :: out)[i] = blockF d t k t.waits[k] := blk_at hk hke
  have hbo := blockers_ok d hd t ht k hk
  rw [hke] at hw
  rw [← hb] at hbo
  generalize hbl : blkF d t (s :: out)[i] = bl at hRCH0 hno hbo
  generalize blockT d t k t.waits[k] = bt at hbo
  have hblen : bl.length ≤ t.holds.length + t.waits.length + (t.holds.length + t.waits.length) := by
    rw [← hbl, hb]
    unfold blockF
    have h1 := ded_len (sortI (confF d t.holds t.waits[k] ++ rivF d t k t.waits[k]))
    rw [sortI_len, List.length_append] at h1
    have h2 := conf_len d t.holds t.waits[k]
    have h3 : (rivF d t k t.waits[k]).length ≤ t.waits.length := by
      unfold rivF; rw [List.length_map]
      have := List.length_filter_le (fun a => dB (rivalP d t.holds a t.waits[k])) (t.waits.take k)
      simp at this ⊢; omega
    omega
  refine ⟨([], _), hw, nx ?_⟩
  refine ⟨fun h => absurd h (by omega), fun h => nx ?_⟩
  refine ⟨(_, _), hbo, nx ?_⟩
  have q0 : out = out ++ addF out (bl.take 0) := by simp [addF]
  (refine ⟨fun m es hs => ∃ (u : Nat) (acc : List Int), (m + u = bl.length) ∧ (acc = out ++ addF out (bl.take u)) ∧ es = [(34, .val false [.f (iL u)]), (33, .val false [.f (iL bl.length)]), (32, .val false [.row 5 0 bl.length]), (9, .val false [.f (iL i)]), (8, .val false [.row 4 0 (s :: acc).length]), (7, .val false [.row 3 0 acc.length]), (1, .val false [.f (.pv (tbL t))]), (0, .val false [.f (.pv (dcL d))])] ∧ hs = [(3, some ⟨0, 1, acc.map intW⟩), (4, some ⟨0, 1, (s :: acc).map intW⟩), (5, some ⟨0, 1, (bl ++ bt).map intW⟩)], ⟨bl.length, [], [(5, 528)], _, _, don, 0, out, don, don, rfl, rfl⟩, ?_⟩; rintro m _ _ ⟨u, acc, hRCI0, hRCI1, rfl, rfl⟩; refine nx ?_)
  refine ⟨fun h => nx ?_, fun h => nx ?_⟩
  have hu : u < bl.length := by omega
  have hst := add_take (out := out) hu
  rw [← hRCI1] at hst
  have hal : acc.length ≤ t.holds.length + t.waits.length := by rw [hRCI1]; exact add_part _ hbl.symm hRCH2
  refine ⟨u, ⟨rfl, hu⟩, nx ?_⟩
  refine ⟨intW bl[u], app_get_left hu, nx ?_⟩
  by_cases km : bl[u] ∈ acc
  · rw [if_pos km] at hst
    have q : acc = out ++ addF out (bl.take (u + 1)) := by rw [hst]; exact hRCI1
    refine ⟨⟨true, [], _, _, _, _⟩, (contains_ok acc bl[u] (by omega)).t km, cd ?_⟩
    exact ⟨m - 1, [], [], _, _, by omega, don, (u + 1), acc, don, don, rfl, rfl⟩
  · rw [if_neg km] at hst
    have q : acc ++ [bl[u]] = out ++ addF out (bl.take (u + 1)) := by rw [hst, hRCI1]; simp
    refine ⟨⟨true, [], _, _, _, _⟩, (contains_ok acc bl[u] (by omega)).n km, cd ?_⟩
    refine ⟨(acc ++ [bl[u]]).map intW, ⟨app_one intW acc _, by simp; omega⟩, nx ?_⟩
    refine ⟨(s :: (acc ++ [bl[u]])).map intW, ⟨app_one intW (s :: acc) _, by simp; omega⟩, nx ?_⟩
    exact ⟨m - 1, [], [(3, 736), (4, 800)], _, _, by omega, don, (u + 1), (acc ++ [bl[u]]), don, don, rfl, rfl⟩
  have hu : bl.length ≤ u := by omega
  rw [List.take_of_length_le hu] at hRCI1
  rw [← hRCI1] at hRCH0 hno
  have q : bfsF (blkF d t) mo ((s :: acc).drop (i + 1)) acc = reachF d t s := by rw [← hRCH0, hRCI1]; rfl
  obtain ⟨qa, qb⟩ := hno
  exact ⟨mo, [], [], _, _, by omega, don, (i + 1), acc, don, don, don, rfl, rfl⟩
  have hi : (s :: out).length ≤ i := by omega
  rw [List.drop_eq_nil_of_le hi, bfs_nil] at hRCH0
  have hol := out_le hRCH2
  rw [← hRCH0]
  refine ⟨⟨false, [(1, 3)], _, _, _, _⟩, sort_ok out (by omega), cd ?_⟩
  exact ⟨[], [(1000, 3)], don⟩
theorem app_view (f : Int → List A) (hf : ∀ x, (f x).map cpA = f x) (l : List Int) (lo : Nat) (x : Int) : cpE (((l.map f).take l.length).drop lo) ++ [f x] = (l.drop lo ++ [x]).map f := by
  rw [List.take_of_length_le (by simp), ← List.map_drop, List.map_append]
  unfold cpE
  rw [List.map_map, show (fun x : List A => x.map cpA) ∘ f = f from funext hf]; rfl
theorem bl_len {d : Dc} {t : Tb} {k : Nat} (hk : k < t.waits.length) : (blockF d t k t.waits[k]).length ≤ t.holds.length + t.waits.length := by
  unfold blockF
  have h1 := ded_len (sortI (confF d t.holds t.waits[k] ++ rivF d t k t.waits[k]))
  rw [sortI_len, List.length_append] at h1
  have h2 := conf_len d t.holds t.waits[k]
  have h3 : (rivF d t k t.waits[k]).length ≤ t.waits.length := by
    unfold rivF; rw [List.length_map]
    have := List.length_filter_le (fun a => dB (rivalP d t.holds a t.waits[k])) (t.waits.take k)
    simp at this ⊢; omega
  omega
theorem l08Reach_ok (d : Dc) (hd : DOK d) (t : Tb) (ht : TabG d t) (s : Int) : FC Tryz.prog 258 [(true, dcL d), (true, tbL t), (false, [iL s])] [(1000, some ⟨0, 1, (reachF d t s).map intW⟩)] [(false, [.row 1000 0 (reachF d t s).length])] := by
  have hwl := ht.wl
  have hgl := ht.hg.len
  have h0 : bfsF (blkF d t) (t.holds.length + t.waits.length + 1) ([s].drop 0) [] = reachF d t s := rfl
  have hn0 : ([] : List Int).Nodup ∧ ∀ x ∈ ([] : List Int), x ∈ allS t := ⟨List.nodup_nil, fun x hx => by cases hx⟩
  refine gr Tryz.func258 Tryz.ntmps258 (⟨cl_ints _, trivial⟩) ?_
  (refine ⟨fun m es hs => ∃ (lo : Nat) (Q out : List Int), (bfsF (blkF d t) m (Q.drop lo) out = reachF d t s) ∧ (m + out.length + lo = t.holds.length + t.waits.length + Q.length) ∧ (lo ≤ Q.length ∧ Q.length ≤ out.length + 1) ∧ (out.Nodup ∧ ∀ x ∈ out, x ∈ allS t) ∧ es = [(8, .val false [.row 4 lo Q.length]), (7, .val false [.row 3 0 out.length]), (4, .val false [.pt 80 0 0]), (3, .val false [.pt 64 0 0])] ∧ hs = [(3, some ⟨0, 1, out.map intW⟩), (4, some ⟨0, 1, Q.map intW⟩), (64, some ⟨3, 3, [(dcL d).map .f]⟩), (80, some ⟨3, 2, [(tbL t).map .f]⟩)], ⟨t.holds.length + t.waits.length + 1, [], [(3, 208), (4, 240)], _, _, don, 0, ([s]), ([]), don, don, don, don, rfl, rfl⟩, ?_⟩; rintro m _ _ ⟨lo, Q, out, hRCS0, hRCS1, hRCS2, hRCS3, rfl, rfl⟩; refine nx ?_)
  have hol := out_le hRCS3
  cases lo with
  | zero =>
    refine nx ?_
    refine ⟨fun h => nx ?_, fun h => nx ?_⟩
    have hi : 0 < Q.length := by omega
    obtain ⟨mo, rfl⟩ : ∃ mo, m = mo + 1 := ⟨m - 1, by omega⟩
    rw [bfs_step hi] at hRCS0
    have hno := add_ok (d := d) Q[0] hRCS3
    have hw := l08At_ok t Q[0] (by omega)
    refine ⟨0, ⟨rfl, hi⟩, nx ?_⟩
    refine ⟨intW Q[0], by simp [hi], nx ?_⟩
    rcases wait_at t Q[0] with ⟨hn, _⟩ | ⟨k, hk, hke, _⟩
    · have hb : blkF d t Q[0] = [] := blk_none hn
      rw [hb] at hRCS0
      have q : bfsF (blkF d t) mo (Q.drop (0 + 1)) out = reachF d t s := by rw [← hRCS0]; simp [addF]
      refine ⟨([], _), hw, nx ?_⟩
      refine ⟨(1, Q.length), ⟨rfl, rfl, by omega, .inl (by omega)⟩, nx ?_⟩
      refine ⟨fun h => nx ?_, fun h => absurd h (fun w => w hn)⟩
      obtain ⟨qa, qb⟩ := hRCS3
      exact ⟨mo, [], [], _, _, by omega, don, (0 + 1), Q, out, don, don, don, don, rfl, rfl⟩
    have hb : blkF d t Q[0] = blockF d t k t.waits[k] := blk_at hk hke
    have hbo := l08Blockers_ok d hd t ht k hk
    rw [hke] at hw
    have hblen := bl_len (d := d) hk
    rw [← hb] at hbo hblen
    generalize hbl : blkF d t Q[0] = bl at hRCS0 hno hbo hblen
    refine ⟨([], _), hw, nx ?_⟩
    refine ⟨(1, Q.length), ⟨rfl, rfl, by omega, .inl (by omega)⟩, nx ?_⟩
    refine ⟨fun h => absurd h (by omega), fun h => nx ?_⟩
    refine ⟨(_, _), hbo, nx ?_⟩
    have q0 : out = out ++ addF out (bl.take 0) := by simp [addF]
    have q00 : Q.drop (0 + 1) = Q.drop (0 + 1) ++ addF out (bl.take 0) := by simp [addF]
    (refine ⟨fun m es hs => ∃ (u : Nat) (acc : List Int) (lo2 : Nat) (Q2 : List Int), (m + u = bl.length) ∧ (acc = out ++ addF out (bl.take u)) ∧ (Q2.drop lo2 = Q.drop (0 + 1) ++ addF out (bl.take u)) ∧ (lo2 ≤ Q2.length ∧ Q2.length ≤ acc.length + 1) ∧ es = [(11, .val false [.f (iL u)]), (10, .val false [.row 5 0 bl.length]), (8, .val false [.row 4 lo2 Q2.length]), (7, .val false [.row 3 0 acc.length]), (4, .val false [.pt 80 0 0]), (3, .val false [.pt 64 0 0])] ∧ hs = [(3, some ⟨0, 1, acc.map intW⟩), (4, some ⟨0, 1, Q2.map intW⟩), (5, some ⟨0, 1, bl.map intW⟩), (64, some ⟨3, 3, [(dcL d).map .f]⟩), (80, some ⟨3, 2, [(tbL t).map .f]⟩)], ⟨bl.length, [], [(5, 496)], _, _, don, 0, out, (0 + 1), Q, don, don, don, don, rfl, rfl⟩, ?_⟩; rintro m _ _ ⟨u, acc, lo2, Q2, hRCJ00, hRCJ01, hRCJ02, hRCJ03, rfl, rfl⟩; refine nx ?_)
    refine ⟨fun h => nx ?_, fun h => nx ?_⟩
    have hu : u < bl.length := by omega
    have hst := add_take (out := out) hu
    rw [← hRCJ01] at hst
    have hal : acc.length ≤ t.holds.length + t.waits.length := by rw [hRCJ01]; exact add_part _ hbl.symm hRCS3
    refine ⟨u, ⟨rfl, hu⟩, nx ?_⟩
    refine ⟨intW bl[u], by simp [hu], nx ?_⟩
    by_cases km : bl[u] ∈ acc
    · rw [if_pos km] at hst
      have q : acc = out ++ addF out (bl.take (u + 1)) := by rw [hst]; exact hRCJ01
      have q2 : Q2.drop lo2 = Q.drop (0 + 1) ++ addF out (bl.take (u + 1)) := by rw [hst]; exact hRCJ02
      refine ⟨⟨true, [], _, _, _, _⟩, (l02Has_ok acc bl[u] (by omega)).t km, cd ?_⟩
      exact ⟨m - 1, [], [], _, _, by omega, don, (u + 1), acc, lo2, Q2, don, don, don, don, rfl, rfl⟩
    rw [if_neg km] at hst
    have q : acc ++ [bl[u]] = out ++ addF out (bl.take (u + 1)) := by rw [hst, hRCJ01]; simp
    have ql : (acc ++ [bl[u]]).length = acc.length + 1 := by simp
    refine ⟨⟨true, [], _, _, _, _⟩, (l02Has_ok acc bl[u] (by omega)).n km, cd ?_⟩
    refine ⟨u, ⟨rfl, hu⟩, nx ?_⟩
    refine ⟨intW bl[u], by simp [hu], nx ?_⟩
    refine ⟨(acc ++ [bl[u]]).map intW, ⟨app_one intW acc _, by simp; omega⟩, nx ?_⟩
    refine ⟨u, ⟨rfl, hu⟩, nx ?_⟩
    refine ⟨intW bl[u], by simp [hu], nx ?_⟩
    cases lo2 with
    | zero =>
      have q2 : (Q2 ++ [bl[u]]).drop 0 = Q.drop (0 + 1) ++ addF out (bl.take (u + 1)) := by rw [List.drop_zero] at hRCJ02 ⊢; rw [hst, hRCJ02]; simp
      have q3 : 0 ≤ (Q2 ++ [bl[u]]).length ∧ (Q2 ++ [bl[u]]).length ≤ (acc ++ [bl[u]]).length + 1 := by simp; omega
      refine nx ?_
      refine ⟨(Q2 ++ [bl[u]]).map intW, ⟨app_one intW Q2 _, by simp; omega⟩, nx ?_⟩
      exact ⟨m - 1, [], [(3, 816), (4, 928)], _, _, by omega, don, (u + 1), (acc ++ [bl[u]]), 0, (Q2 ++ [bl[u]]), don, don, don, don, rfl, rfl⟩
    | succ lo2 =>
      have q2 : (Q2.drop (lo2 + 1) ++ [bl[u]]).drop 0 = Q.drop (0 + 1) ++ addF out (bl.take (u + 1)) := by rw [List.drop_zero, hst, hRCJ02]; simp
      have q3 : 0 ≤ (Q2.drop (lo2 + 1) ++ [bl[u]]).length ∧ (Q2.drop (lo2 + 1) ++ [bl[u]]).length ≤ (acc ++ [bl[u]]).length + 1 := by simp; omega
      refine nx ?_
      refine ⟨(Q2.drop (lo2 + 1) ++ [bl[u]]).map intW, ⟨app_view intW (fun _ => rfl) Q2 (lo2 + 1) _, by simp; omega⟩, nx ?_⟩
      exact ⟨m - 1, [], [(3, 816), (4, 928)], _, _, by omega, don, (u + 1), (acc ++ [bl[u]]), 0, (Q2.drop (lo2 + 1) ++ [bl[u]]), don, don, don, don, rfl, rfl⟩
    have hu : bl.length ≤ u := by omega
    rw [List.take_of_length_le hu] at hRCJ01 hRCJ02
    rw [← hRCJ01] at hRCS0 hno
    have q : bfsF (blkF d t) mo (Q2.drop lo2) acc = reachF d t s := by rw [← hRCS0, hRCJ02, List.drop_append_of_le_length (by omega)]
    have hac := congrArg List.length hRCJ01
    have hqc := congrArg List.length hRCJ02
    simp only [List.length_append, List.length_drop] at hac hqc
    obtain ⟨qa, qb⟩ := hno
    exact ⟨mo, [], [], _, _, by omega, don, lo2, Q2, acc, don, don, don, don, rfl, rfl⟩
    have hQ : Q.drop 0 = [] := by rw [List.drop_zero]; exact List.eq_nil_of_length_eq_zero (by omega)
    rw [hQ, bfs_nil] at hRCS0
    rw [← hRCS0]
    exact ⟨[], [(1000, 3)], don⟩
  | succ lo =>
    refine nx ?_
    refine ⟨fun h => nx ?_, fun h => nx ?_⟩
    have hi : lo + 1 < Q.length := by omega
    obtain ⟨mo, rfl⟩ : ∃ mo, m = mo + 1 := ⟨m - 1, by omega⟩
    rw [bfs_step hi] at hRCS0
    have hno := add_ok (d := d) Q[lo + 1] hRCS3
    have hw := l08At_ok t Q[lo + 1] (by omega)
    refine ⟨0, ⟨rfl, hi⟩, nx ?_⟩
    refine ⟨intW Q[lo + 1], by simp [hi], nx ?_⟩
    rcases wait_at t Q[lo + 1] with ⟨hn, _⟩ | ⟨k, hk, hke, _⟩
    · have hb : blkF d t Q[lo + 1] = [] := blk_none hn
      rw [hb] at hRCS0
      have q : bfsF (blkF d t) mo (Q.drop (lo + 1 + 1)) out = reachF d t s := by rw [← hRCS0]; simp [addF]
      refine ⟨([], _), hw, nx ?_⟩
      refine ⟨(1, Q.length - (lo + 1)), ⟨rfl, rfl, by omega, .inl (by omega)⟩, nx ?_⟩
      refine ⟨fun h => nx ?_, fun h => absurd h (fun w => w hn)⟩
      obtain ⟨qa, qb⟩ := hRCS3
      exact ⟨mo, [], [], _, _, by omega, don, (lo + 1 + 1), Q, out, don, don, don, don, rfl, rfl⟩
    have hb : blkF d t Q[lo + 1] = blockF d t k t.waits[k] := blk_at hk hke
    have hbo := l08Blockers_ok d hd t ht k hk
    rw [hke] at hw
    have hblen := bl_len (d := d) hk
    rw [← hb] at hbo hblen
    generalize hbl : blkF d t Q[lo + 1] = bl at hRCS0 hno hbo hblen
    refine ⟨([], _), hw, nx ?_⟩
    refine ⟨(1, Q.length - (lo + 1)), ⟨rfl, rfl, by omega, .inl (by omega)⟩, nx ?_⟩
    refine ⟨fun h => absurd h (by omega), fun h => nx ?_⟩
    refine ⟨(_, _), hbo, nx ?_⟩
    have q0 : out = out ++ addF out (bl.take 0) := by simp [addF]
    have q00 : Q.drop (lo + 1 + 1) = Q.drop (lo + 1 + 1) ++ addF out (bl.take 0) := by simp [addF]
    (refine ⟨fun m es hs => ∃ (u : Nat) (acc : List Int) (lo2 : Nat) (Q2 : List Int), (m + u = bl.length) ∧ (acc = out ++ addF out (bl.take u)) ∧ (Q2.drop lo2 = Q.drop (lo + 1 + 1) ++ addF out (bl.take u)) ∧ (lo2 ≤ Q2.length ∧ Q2.length ≤ acc.length + 1) ∧ es = [(11, .val false [.f (iL u)]), (10, .val false [.row 5 0 bl.length]), (8, .val false [.row 4 lo2 Q2.length]), (7, .val false [.row 3 0 acc.length]), (4, .val false [.pt 80 0 0]), (3, .val false [.pt 64 0 0])] ∧ hs = [(3, some ⟨0, 1, acc.map intW⟩), (4, some ⟨0, 1, Q2.map intW⟩), (5, some ⟨0, 1, bl.map intW⟩), (64, some ⟨3, 3, [(dcL d).map .f]⟩), (80, some ⟨3, 2, [(tbL t).map .f]⟩)], ⟨bl.length, [], [(5, 496)], _, _, don, 0, out, (lo + 1 + 1), Q, don, don, don, don, rfl, rfl⟩, ?_⟩; rintro m _ _ ⟨u, acc, lo2, Q2, hRCJ10, hRCJ11, hRCJ12, hRCJ13, rfl, rfl⟩; refine nx ?_)
    refine ⟨fun h => nx ?_, fun h => nx ?_⟩
    have hu : u < bl.length := by omega
    have hst := add_take (out := out) hu
    rw [← hRCJ11] at hst
    have hal : acc.length ≤ t.holds.length + t.waits.length := by rw [hRCJ11]; exact add_part _ hbl.symm hRCS3
    refine ⟨u, ⟨rfl, hu⟩, nx ?_⟩
    refine ⟨intW bl[u], by simp [hu], nx ?_⟩
    by_cases km : bl[u] ∈ acc
    · rw [if_pos km] at hst
      have q : acc = out ++ addF out (bl.take (u + 1)) := by rw [hst]; exact hRCJ11
      have q2 : Q2.drop lo2 = Q.drop (lo + 1 + 1) ++ addF out (bl.take (u + 1)) := by rw [hst]; exact hRCJ12
      refine ⟨⟨true, [], _, _, _, _⟩, (l02Has_ok acc bl[u] (by omega)).t km, cd ?_⟩
      exact ⟨m - 1, [], [], _, _, by omega, don, (u + 1), acc, lo2, Q2, don, don, don, don, rfl, rfl⟩
    rw [if_neg km] at hst
    have q : acc ++ [bl[u]] = out ++ addF out (bl.take (u + 1)) := by rw [hst, hRCJ11]; simp
    have ql : (acc ++ [bl[u]]).length = acc.length + 1 := by simp
    refine ⟨⟨true, [], _, _, _, _⟩, (l02Has_ok acc bl[u] (by omega)).n km, cd ?_⟩
    refine ⟨u, ⟨rfl, hu⟩, nx ?_⟩
    refine ⟨intW bl[u], by simp [hu], nx ?_⟩
    refine ⟨(acc ++ [bl[u]]).map intW, ⟨app_one intW acc _, by simp; omega⟩, nx ?_⟩
    refine ⟨u, ⟨rfl, hu⟩, nx ?_⟩
    refine ⟨intW bl[u], by simp [hu], nx ?_⟩
    cases lo2 with
    | zero =>
      have q2 : (Q2 ++ [bl[u]]).drop 0 = Q.drop (lo + 1 + 1) ++ addF out (bl.take (u + 1)) := by rw [List.drop_zero] at hRCJ12 ⊢; rw [hst, hRCJ12]; simp
      have q3 : 0 ≤ (Q2 ++ [bl[u]]).length ∧ (Q2 ++ [bl[u]]).length ≤ (acc ++ [bl[u]]).length + 1 := by simp; omega
      refine nx ?_
      refine ⟨(Q2 ++ [bl[u]]).map intW, ⟨app_one intW Q2 _, by simp; omega⟩, nx ?_⟩
      exact ⟨m - 1, [], [(3, 816), (4, 928)], _, _, by omega, don, (u + 1), (acc ++ [bl[u]]), 0, (Q2 ++ [bl[u]]), don, don, don, don, rfl, rfl⟩
    | succ lo2 =>
      have q2 : (Q2.drop (lo2 + 1) ++ [bl[u]]).drop 0 = Q.drop (lo + 1 + 1) ++ addF out (bl.take (u + 1)) := by rw [List.drop_zero, hst, hRCJ12]; simp
      have q3 : 0 ≤ (Q2.drop (lo2 + 1) ++ [bl[u]]).length ∧ (Q2.drop (lo2 + 1) ++ [bl[u]]).length ≤ (acc ++ [bl[u]]).length + 1 := by simp; omega
      refine nx ?_
      refine ⟨(Q2.drop (lo2 + 1) ++ [bl[u]]).map intW, ⟨app_view intW (fun _ => rfl) Q2 (lo2 + 1) _, by simp; omega⟩, nx ?_⟩
      exact ⟨m - 1, [], [(3, 816), (4, 928)], _, _, by omega, don, (u + 1), (acc ++ [bl[u]]), 0, (Q2.drop (lo2 + 1) ++ [bl[u]]), don, don, don, don, rfl, rfl⟩
    have hu : bl.length ≤ u := by omega
    rw [List.take_of_length_le hu] at hRCJ11 hRCJ12
    rw [← hRCJ11] at hRCS0 hno
    have q : bfsF (blkF d t) mo (Q2.drop lo2) acc = reachF d t s := by rw [← hRCS0, hRCJ12, List.drop_append_of_le_length (by omega)]
    have hac := congrArg List.length hRCJ11
    have hqc := congrArg List.length hRCJ12
    simp only [List.length_append, List.length_drop] at hac hqc
    obtain ⟨qa, qb⟩ := hno
    exact ⟨mo, [], [], _, _, by omega, don, lo2, Q2, acc, don, don, don, don, rfl, rfl⟩
    have hQ : Q.drop (lo + 1) = [] := List.drop_eq_nil_of_le (by omega)
    rw [hQ, bfs_nil] at hRCS0
    rw [← hRCS0]
    exact ⟨[], [(1000, 3)], don⟩
theorem bfs_ok {d : Dc} {t : Tb} : ∀ (n : Nat) (q out : List Int), (out.Nodup ∧ ∀ x ∈ out, x ∈ allS t) → ((bfsF (blkF d t) n q out).Nodup ∧ ∀ x ∈ bfsF (blkF d t) n q out, x ∈ allS t)
  | 0, q, out, h => h
  | n + 1, [], out, h => h
  | n + 1, x :: q, out, h => bfs_ok n _ _ (add_ok x h)
theorem reach_all (d : Dc) (t : Tb) (s : Int) : (reachF d t s).Nodup ∧ ∀ x ∈ reachF d t s, x ∈ allS t := bfs_ok _ _ _ ⟨List.nodup_nil, fun x hx => by cases hx⟩
theorem reach_len' (d : Dc) {t : Tb} (ht : TabG d t) (s : Int) : (reachF d t s).length < 2 ^ 28 := by
  have := out_le (reach_all d t s)
  have := ht.wl
  have := ht.hg.len
  omega
theorem reach_len (d : Dc) {t : Tb} (ht : TabG d t) (s : Int) : (reachF d t s).length < 2 ^ 62 := by have := reach_len' d ht s; omega
theorem circle1_ok (d : Dc) (hd : DOK d) (t : Tb) (ht : TabG d t) (s x : Int) : FC Tryz.prog 261 [(false, [iL x]), (false, [.pv [.pv (dcL d)]]), (false, [.pv [.pv (tbL t)]]), (false, [.pv [iL s]])] [] [(false, [.f (bL (!dB (s ∈ reachF d t x)))])] := by
  have hre := reached_ok d hd t ht x
  have hlen := reach_len d ht x
  have hco := contains_ok (sortI (reachF d t x)) s (by rw [sortI_len]; exact hlen)
  have hsl := sortI_len (reachF d t x)
  rw [← hsl] at hre
  by_cases k : s ∈ reachF d t x
  · have q : (!dB (s ∈ reachF d t x)) = false := by rw [dB_yes k]; rfl
    refine gr Tryz.func261 Tryz.ntmps261 trivial ?_
    refine ⟨(_, _), hre, nx ?_⟩
    refine ⟨⟨true, [], _, _, _, _⟩, hco.t (sort_mem.2 k), cd ?_⟩
    exact ⟨[], [], don⟩
  · have q : (!dB (s ∈ reachF d t x)) = true := by rw [dB_no k]; rfl
    refine gr Tryz.func261 Tryz.ntmps261 trivial ?_
    refine ⟨(_, _), hre, nx ?_⟩
    refine ⟨⟨true, [], _, _, _, _⟩, hco.n fun w => k (sort_mem.1 w), cd ?_⟩
    exact ⟨[], [], don⟩
noncomputable def circT (d : Dc) (t : Tb) (s : Int) : List Int := List.replicate ((sortI (reachF d t s)).length - (circF d t s).length) 0 ++ []
theorem circle_ok (d : Dc) (hd : DOK d) (t : Tb) (ht : TabG d t) (s : Int) : FC Tryz.prog 180 [(false, [.pv (dcL d)]), (false, [.pv (tbL t)]), (false, [iL s])] [(1000, some ⟨0, 1, (circF d t s ++ circT d t s).map intW⟩)] [(false, [.row 1000 0 (circF d t s).length])] := by
  have hlen := reach_len' d ht s
  have hsl := sortI_len (reachF d t s)
  have hdl := dlfI3_ok (sortI (reachF d t s)) 261 (.pv [.pv (dcL d)]) (.pv [.pv (tbL t)]) (.pv [iL s]) (fun x => !dB (s ∈ reachF d t x)) (by rw [hsl]; exact hlen) (fun x hx => circle1_ok d hd t ht s x) []
  have hfe : (sortI (reachF d t s)).filter (fun x => !(!dB (s ∈ reachF d t x))) = circF d t s := by simp only [Bool.not_not]; rfl
  rw [hfe, List.append_nil (sortI (reachF d t s))] at hdl
  unfold circT
  refine gr Tryz.func180 Tryz.ntmps180 (⟨cl_ints _, trivial⟩) ?_
  refine ⟨(_, _), reached_ok d hd t ht s, nx ?_⟩
  rw [← hsl]
  refine ⟨⟨true, [(1, 176)], _, _, _, _⟩, hdl, cd ?_⟩
  exact ⟨[], [(1000, 176)], don⟩
theorem l08Circle_ok (d : Dc) (hd : DOK d) (t : Tb) (ht : TabG d t) (s : Int) : FC Tryz.prog 177 [(true, dcL d), (true, tbL t), (false, [iL s])] [(1000, some ⟨0, 1, (circF d t s).map intW⟩)] [(false, [.row 1000 0 (circF d t s).length])] := by
  have hlen := reach_len' d ht s
  have hre := l08Reach_ok d hd t ht s
  have hce := circ_eq (d := d) t s
  rw [← hce]
  generalize reachF d t s = R at hlen hre
  refine gr Tryz.func177 Tryz.ntmps177 (⟨cl_ints _, trivial⟩) ?_
  refine ⟨(_, _), hre, nx ?_⟩
  (refine ⟨fun m es hs => ∃ (i : Nat) (out : List Int), (m + i = R.length) ∧ (out = (R.take i).foldl (fun out x => if dB (x = s ∨ s ∈ reachF d t x) then riseF out x else out) []) ∧ (out.length ≤ i) ∧ es = [(9, .val false [.f (iL i)]), (8, .val false [.row 3 0 R.length]), (7, .val false [.row 4 0 out.length]), (4, .val false [.pt 80 0 0]), (3, .val false [.pt 64 0 0]), (2, .val false [.f (iL s)])] ∧ hs = [(64, some ⟨3, 3, [(dcL d).map .f]⟩), (80, some ⟨3, 2, [(tbL t).map .f]⟩), (3, some ⟨0, 1, R.map intW⟩), (4, some ⟨0, 1, out.map intW⟩)], ⟨R.length, [], [(3, 240), (4, 176)], _, _, don, 0, ([]), don, don, don, rfl, rfl⟩, ?_⟩; rintro m _ _ ⟨i, out, hCIR0, hCIR1, hCIR2, rfl, rfl⟩; refine nx ?_)
  refine ⟨fun h => nx ?_, fun h => nx ?_⟩
  have hi : i < R.length := by omega
  have hst : (R.take (i + 1)).foldl (fun out x => if dB (x = s ∨ s ∈ reachF d t x) then riseF out x else out) [] = if dB (R[i] = s ∨ s ∈ reachF d t R[i]) then riseF out R[i] else out := by
    rw [List.take_succ_eq_append_getElem hi, List.foldl_append, ← hCIR1]; rfl
  have hrl := riseF_len R[i] out
  have hhas := l02Has_ok (reachF d t R[i]) s (reach_len d ht R[i])
  refine ⟨i, ⟨rfl, hi⟩, nx ?_⟩
  refine ⟨intW R[i], by simp [hi], nx ?_⟩
  by_cases ks : R[i] = s
  · rw [dB_yes (.inl ks), if_pos rfl] at hst
    have q := hst.symm
    refine ⟨fun h => nx ?_, fun h => absurd h (fun w => w ks)⟩
    refine ⟨i, ⟨rfl, hi⟩, nx ?_⟩
    refine ⟨intW R[i], by simp [hi], nx ?_⟩
    refine ⟨⟨true, [], _, _, _, _⟩, rise_ok out R[i] (by omega), cd ?_⟩
    exact ⟨m - 1, [], [(4, 704)], _, _, by omega, don, (i + 1), (riseF out R[i]), don, don, don, rfl, rfl⟩
  refine ⟨fun h => absurd h (ks), fun h => nx ?_⟩
  refine ⟨i, ⟨rfl, hi⟩, nx ?_⟩
  refine ⟨intW R[i], by simp [hi], nx ?_⟩
  refine ⟨(_, _), l08Reach_ok d hd t ht R[i], nx ?_⟩
  by_cases km : s ∈ reachF d t R[i]
  · rw [dB_yes (.inr km), if_pos rfl] at hst
    have q := hst.symm
    refine ⟨⟨true, [], _, _, _, _⟩, hhas.t km, cd ?_⟩
    refine ⟨i, ⟨rfl, hi⟩, nx ?_⟩
    refine ⟨intW R[i], by simp [hi], nx ?_⟩
    refine ⟨⟨true, [], _, _, _, _⟩, rise_ok out R[i] (by omega), cd ?_⟩
    exact ⟨m - 1, [], [(4, 704)], _, _, by omega, don, (i + 1), (riseF out R[i]), don, don, don, rfl, rfl⟩
  · rw [dB_no fun w => w.elim ks km, if_neg (by simp)] at hst
    have q := hst.symm
    refine ⟨⟨true, [], _, _, _, _⟩, hhas.n km, cd ?_⟩
    exact ⟨m - 1, [], [], _, _, by omega, don, (i + 1), out, don, don, don, rfl, rfl⟩
  have hi : R.length ≤ i := by omega
  rw [List.take_of_length_le hi] at hCIR1
  rw [← hCIR1]
  exact ⟨[], [(1000, 4)], don⟩
end Go.Proofs.YtecnmodeggnjoaaGreat.Ac
