/- Several of our texts, one behind the other, without what this claim does not need: Lg, Tf, Tg, Th, Ti. -/
import Derived.Test.YtecnmodeggnjoaaGreatZe2002630
import Derived.Test.YtecnmodeggnjoaaGreatZ33770e32
import Derived.Test.YtecnmodeggnjoaaGreatZ3834ad63
import Derived.Test.YtecnmodeggnjoaaGreatZe8e65b59
set_option linter.unusedVariables false
set_option linter.unusedSimpArgs false
set_option maxRecDepth 20000
set_option maxHeartbeats 20000000
namespace Go.Proofs.YtecnmodeggnjoaaGreat.Ac
open Go.RowKit
def OneP (l : List Ho) (i : Nat) (h : i < l.length) : Prop := ∀ k (hk : k < i), l[k].session ≠ l[i].session
theorem waits_next {d : Dc} {l : List Ho} {i : Nat} (hi : i < l.length) (h : ∀ j (hj : j < l.length), j < i → holdP d l[j] ∧ OneP l j hj) (h1 : holdP d l[i]) (h2 : OneP l i hi) : ∀ j (hj : j < l.length), j < i + 1 → holdP d l[j] ∧ OneP l j hj := fun j hj hji => by
  by_cases k : j < i
  · exact h j hj k
  · obtain rfl : j = i := by omega
    exact ⟨h1, h2⟩
theorem wait_one {t : Tb} {i : Nat} (hi : i < t.waits.length) : waitF t t.waits[i].session = (i : Int) ↔ OneP t.waits i hi := by
  rcases wait_at t t.waits[i].session with ⟨_, h⟩ | ⟨k, hk, h1, h2, h3⟩
  · exact absurd rfl (h _ (List.getElem_mem hi))
  · rw [h1]
    constructor
    · intro e
      obtain rfl : k = i := by omega
      exact fun j hj => h3 j hj
    · intro h
      have h4 : ¬ k < i := fun w => h k w h2
      have h5 : ¬ i < k := fun w => h3 i w rfl
      omega
theorem tableOK_ok (d : Dc) (h64 : Dc64 d) (t : Tb) (hl : t.holds.length < 2 ^ 62) (hwl : t.waits.length < 2 ^ 62) (hn : ∀ x ∈ t.holds, I64 x.node) (hwn : ∀ x ∈ t.waits, I64 x.node) : FC Tryz.prog 81 [(true, dcL d), (true, tbL t)] [] [(false, [.f (bL (dB (DOK d ∧ TabP d t)))])] := by
  have hH := holdsOK_ok d h64 t.holds hl hn
  have hlen : ((t.waits.map hoL).length : Int) = t.waits.length := by rw [List.length_map]
  by_cases kh : DOK d ∧ HoldsP d t.holds
  case neg =>
    have q : dB (DOK d ∧ TabP d t) = false := dB_no fun w => kh ⟨w.1, w.2.1⟩
    refine gr Tryz.func81 Tryz.ntmps81 trivial ?_
    refine ⟨([], _), hH.x kh, nx ?_⟩
    exact ⟨[], [], don⟩
  by_cases k6 : (t.waits.length : Int) > 6
  · have q : dB (DOK d ∧ TabP d t) = false := dB_no fun w => by have := w.2.2.1; omega
    refine gr Tryz.func81 Tryz.ntmps81 trivial ?_
    refine ⟨([], _), hH.y kh, nx ?_⟩
    rw [hlen]
    refine ⟨fun h => nx ?_, fun h => absurd h (fun w => w k6)⟩
    exact ⟨[], [], don⟩
  have hd := kh.1
  refine gr Tryz.func81 Tryz.ntmps81 trivial ?_
  refine ⟨([], _), hH.y kh, nx ?_⟩
  rw [hlen]
  refine ⟨fun h => absurd h (k6), fun h => nx ?_⟩
  rw [hlen]
  (refine ⟨fun m es hs => ∃ (i : Nat), (m + i = t.waits.length) ∧ (∀ j (hj : j < t.waits.length), j < i → holdP d t.waits[j] ∧ OneP t.waits j hj) ∧ es = [(21, .val false [.f (iL i)]), (20, .val false [.f (iL t.waits.length)]), (19, .val false [.f (hos t.waits)]), (3, .val false [.pt 64 0 0]), (2, .val false [.pt 48 0 0])] ∧ hs = [(48, some ⟨3, 3, [(dcL d).map .f]⟩), (64, some ⟨3, 2, [(tbL t).map .f]⟩)], ⟨t.waits.length, [], [], _, _, don, 0, don, don, rfl, rfl⟩, ?_⟩; rintro m _ _ ⟨i, hTOK0, hTOK1, rfl, rfl⟩; refine nx ?_)
  refine ⟨fun h => nx ?_, fun h => nx ?_⟩
  have hi : i < t.waits.length := by omega
  refine ⟨(i, hoL t.waits[i]), ⟨rfl, by simp [hi]⟩, nx ?_⟩
  have hh := isHold_ok d hd t.waits[i] (hwn _ (List.getElem_mem _))
  by_cases k : holdP d t.waits[i]
  case neg =>
    have q : dB (DOK d ∧ TabP d t) = false := dB_no fun w => k (w.2.2.2 i hi).1
    refine ⟨⟨true, [], _, _, _, _⟩, hh.x k, cd ?_⟩
    exact ⟨[], [], don⟩
  refine ⟨⟨true, [], _, _, _, _⟩, hh.y k, cd ?_⟩
  refine ⟨⟨true, [], _, _, _, _⟩, waiting_ok t t.waits[i].session hwl, cd ?_⟩
  have hw1 := wait_one hi
  by_cases k1 : waitF t t.waits[i].session = (i : Int)
  · have q := waits_next hi hTOK1 k (hw1.1 k1)
    refine ⟨fun h => absurd h (fun w => w k1), fun h => nx ?_⟩
    exact ⟨m - 1, [], [], _, _, by omega, don, (i + 1), don, don, rfl, rfl⟩
  · have q : dB (DOK d ∧ TabP d t) = false := dB_no fun w => k1 (hw1.2 (w.2.2.2 i hi).2)
    refine ⟨fun h => nx ?_, fun h => absurd h (fun w => w k1)⟩
    exact ⟨[], [], don⟩
  have q : dB (DOK d ∧ TabP d t) = true := dB_yes ⟨hd, kh.2, by omega, fun j hj => hTOK1 j hj (by omega)⟩
  exact ⟨[], [], don⟩
  all_goals intro j hj hji; omega
theorem l08Waits_ok (d : Dc) (hdl : d.nodes.length < 2 ^ 62) (l : List Ho) (hl : l.length < 2 ^ 62) : FC Tryz.prog 159 [(true, dcL d), (false, [hos l])] [] [(false, [.f (bL (dB (WaitsP d l)))])] := by
  have hlen : ((l.map hoL).length : Int) = l.length := by rw [List.length_map]
  by_cases k6 : (l.length : Int) > 6
  · have q : dB (WaitsP d l) = false := dB_no fun w => by have := w.1; omega
    refine gr Tryz.func159 Tryz.ntmps159 trivial ?_
    rw [hlen]
    refine ⟨fun h => nx ?_, fun h => absurd h (fun w => w k6)⟩
    exact ⟨[], [], don⟩
  refine gr Tryz.func159 Tryz.ntmps159 trivial ?_
  rw [hlen]
  refine ⟨fun h => absurd h (k6), fun h => nx ?_⟩
  (refine ⟨fun m es hs => ∃ (i : Nat), (m + i = l.length) ∧ (∀ j (hj : j < l.length), j < i → holdP d l[j] ∧ OneP l j hj) ∧ es = [(5, .val false [.f (iL i)]), (2, .val false [.pt 48 0 0]), (1, .val false [.f (hos l)])] ∧ hs = [(48, some ⟨3, 3, [(dcL d).map .f]⟩)], ⟨l.length, [], [], _, _, don, 0, don, don, rfl, rfl⟩, ?_⟩; rintro m _ _ ⟨i, hWAI0, hWAI1, rfl, rfl⟩; refine nx ?_)
  refine ⟨fun h => nx ?_, fun h => nx ?_⟩
  have hi : i < l.length := by simpa using h
  refine ⟨(i, hoL l[i]), ⟨rfl, by simp [hi]⟩, nx ?_⟩
  have hh := l07Hold_ok d hdl l[i]
  by_cases kh : holdP d l[i]
  case neg =>
    have q : dB (WaitsP d l) = false := dB_no fun w => kh (w.2 i hi).1
    refine ⟨([], _), hh.x kh, nx ?_⟩
    exact ⟨[], [], don⟩
  refine ⟨([], _), hh.y kh, nx ?_⟩
  obtain ⟨mo, hmo⟩ : ∃ mo, mo = m := ⟨m, rfl⟩
  (refine ⟨fun m es hs => ∃ (u : Nat), (m + u = i) ∧ (∀ k (hk : k < l.length), k < u → l[k].session ≠ l[i].session) ∧ es = [(6, .val false [.f (iL u)]), (5, .val false [.f (iL i)]), (2, .val false [.pt 48 0 0]), (1, .val false [.f (hos l)])] ∧ hs = [(48, some ⟨3, 3, [(dcL d).map .f]⟩)], ⟨i, [], [], _, _, don, 0, don, don, rfl, rfl⟩, ?_⟩; rintro m _ _ ⟨u, hWAK0, hWAK1, rfl, rfl⟩; refine nx ?_)
  refine ⟨fun h => nx ?_, fun h => nx ?_⟩
  have hu : u < l.length := by omega
  refine ⟨(u, hoL l[u]), ⟨rfl, by simp [hu]⟩, nx ?_⟩
  refine ⟨(i, hoL l[i]), ⟨rfl, by simp [hi]⟩, nx ?_⟩
  by_cases ks : l[u].session = l[i].session
  · have q : dB (WaitsP d l) = false := dB_no fun w => (w.2 i hi).2 u (by omega) ks
    refine ⟨fun h => nx ?_, fun h => absurd h (fun w => w ks)⟩
    exact ⟨[], [], don⟩
  · have q : ∀ k (hk : k < l.length), k < u + 1 → l[k].session ≠ l[i].session := fun k hk hku => by
      by_cases e : k < u
      · exact hWAK1 k hk e
      · obtain rfl : k = u := by omega
        exact ks
    refine ⟨fun h => absurd h (ks), fun h => nx ?_⟩
    exact ⟨m - 1, [], [], _, _, by omega, don, (u + 1), don, don, rfl, rfl⟩
  have q := waits_next hi hWAI1 kh fun k hk => hWAK1 k (by omega) (by omega)
  exact ⟨mo - 1, [], [], _, _, by omega, don, (i + 1), don, don, rfl, rfl⟩
  have hi : l.length ≤ i := by simpa using h
  have q : dB (WaitsP d l) = true := dB_yes ⟨by omega, fun j hj => hWAI1 j hj (by omega)⟩
  exact ⟨[], [], don⟩
  all_goals first | (intro j hj hji; omega) | omega
theorem specTableOK_ok (d : Dc) (h64 : Dc64 d) (hdl : d.nodes.length < 2 ^ 61) (t : Tb) (hl : t.holds.length < 2 ^ 62) (hwl : t.waits.length < 2 ^ 62) : FC Tryz.prog 76 [(true, dcL d), (true, tbL t)] [] [(false, [.f (bL (dB (DOK d ∧ TabP d t)))])] := by
  have hH := specHoldsOK_ok d h64 hdl t.holds hl
  by_cases kh : DOK d ∧ HoldsP d t.holds
  case neg =>
    have q : dB (DOK d ∧ TabP d t) = false := dB_no fun w => kh ⟨w.1, w.2.1⟩
    refine gr Tryz.func76 Tryz.ntmps76 trivial ?_
    refine ⟨([], _), hH.x kh, nx ?_⟩
    exact ⟨[], [], don⟩
  have q : dB (WaitsP d t.waits) = dB (DOK d ∧ TabP d t) := by rw [show (DOK d ∧ TabP d t) = WaitsP d t.waits from propext ⟨fun w => w.2.2, fun w => ⟨kh.1, kh.2, w⟩⟩]
  refine gr Tryz.func76 Tryz.ntmps76 trivial ?_
  refine ⟨([], _), hH.y kh, nx ?_⟩
  refine ⟨([], _), l08Waits_ok d (by omega) t.waits hwl, nx ?_⟩
  rw [q]
  exact ⟨[], [], don⟩
theorem TabP.g {d : Dc} {t : Tb} (h : TabP d t) : TabG d t := ⟨⟨by have := h.1.1; omega, fun x hx => (h.1.all x hx).2.1, h.1.md⟩, h.1.rise, by have := h.2.1; omega, fun x hx => (h.2.all x hx).2.1, h.2.md⟩
end Go.Proofs.YtecnmodeggnjoaaGreat.Ac
set_option linter.unusedVariables false
set_option linter.unusedSimpArgs false
set_option maxRecDepth 20000
set_option maxHeartbeats 20000000
namespace Go.Proofs.YtecnmodeggnjoaaGreat.Ac
open Go.RowKit
def freeP (d : Dc) (t : Tb) (k : Nat) : Prop := ∃ h : k < t.waits.length, (putF t.holds t.waits[k]).length ≤ 30 ∧ blockF d t k t.waits[k] = []
def grant (t : Tb) (k : Nat) : Tb := ⟨putF t.holds (t.waits.getD k zHo'), t.waits.eraseIdx k⟩
noncomputable def setG (d : Dc) : Nat → Tb → Nat → Tb × List Ho
  | 0, t, _ => (t, [])
  | n + 1, t, k => if k < t.waits.length then (if dB (freeP d t k) then ((setG d n (grant t k) 0).1, t.waits.getD k zHo' :: (setG d n (grant t k) 0).2) else setG d n t (k + 1)) else (t, [])
def setN (t : Tb) (k : Nat) : Nat := t.waits.length * (t.waits.length + 1) + (t.waits.length - k)
theorem grant_len {t : Tb} {k : Nat} (hk : k < t.waits.length) : (grant t k).waits.length = t.waits.length - 1 := by
  show (t.waits.eraseIdx k).length = _
  rw [List.length_eraseIdx, if_pos hk]
theorem setN_grant {t : Tb} {k : Nat} (hk : k < t.waits.length) : setN (grant t k) 0 < setN t k := by
  unfold setN
  rw [grant_len hk]
  obtain ⟨n, hn⟩ : ∃ n, t.waits.length = n + 1 := ⟨t.waits.length - 1, by omega⟩
  rw [hn]
  have : (n + 1) * (n + 1 + 1) = n * (n + 1) + 2 * (n + 1) := by rw [Nat.add_mul, Nat.mul_add n, Nat.mul_one, Nat.one_mul]; omega
  simp only [Nat.add_sub_cancel]
  omega
theorem setN_next {t : Tb} {k : Nat} (hk : k < t.waits.length) : setN t (k + 1) < setN t k := by unfold setN; omega
theorem setG_more (d : Dc) : ∀ (n m : Nat) (t : Tb) (k : Nat), setN t k < n → setN t k < m → setG d n t k = setG d m t k
  | 0, _, _, _, h, _ => by omega
  | _ + 1, 0, _, _, _, h => by omega
  | n + 1, m + 1, t, k, h1, h2 => by
    unfold setG
    split
    · rename_i hk
      have a := setN_grant hk
      have b := setN_next hk
      split
      · rw [setG_more d n m (grant t k) 0 (by omega) (by omega)]
      · exact setG_more d n m t (k + 1) (by omega) (by omega)
    · rfl
noncomputable def setK (d : Dc) (t : Tb) (k : Nat) : Tb × List Ho := setG d (setN t k + 1) t k
theorem setK_end {d : Dc} {t : Tb} {k : Nat} (h : t.waits.length ≤ k) : setK d t k = (t, []) := by
  unfold setK setG; rw [if_neg (by omega)]
theorem setK_free {d : Dc} {t : Tb} {k : Nat} (hk : k < t.waits.length) (h : freeP d t k) : setK d t k = ((setK d (grant t k) 0).1, t.waits[k] :: (setK d (grant t k) 0).2) := by
  have a := setN_grant hk
  have e : setG d (setN t k) (grant t k) 0 = setK d (grant t k) 0 := setG_more d _ _ _ _ a (Nat.lt_succ_self _)
  have e2 : t.waits.getD k zHo' = t.waits[k] := by simp [hk]
  show setG d (setN t k + 1) t k = _
  rw [setG, if_pos hk, if_pos (dB_yes h), e, e2]
theorem setK_next {d : Dc} {t : Tb} {k : Nat} (hk : k < t.waits.length) (h : ¬ freeP d t k) : setK d t k = setK d t (k + 1) := by
  have b := setN_next hk
  have e : setG d (setN t k) t (k + 1) = setK d t (k + 1) := setG_more d _ _ _ _ b (Nat.lt_succ_self _)
  show setG d (setN t k + 1) t k = _
  rw [setG, if_pos hk, if_neg (by rw [dB_no h]; simp), e]
theorem put_mem {y x : Ho} : ∀ {l : List Ho}, x ∈ putF l y → x ∈ l ∨ x = y ∨ ∃ z ∈ l, keyP z y ∧ x = ⟨z.session, z.node, joinM z.mode y.mode⟩
  | [], h => .inr (.inl (by simpa [putF] using h))
  | z :: l, h => by
    unfold putF at h
    split at h
    · rcases List.mem_cons.1 h with rfl | h
      · exact .inl List.mem_cons_self
      · rcases put_mem h with h | h | ⟨w, h1, h2⟩
        · exact .inl (List.mem_cons_of_mem _ h)
        · exact .inr (.inl h)
        · exact .inr (.inr ⟨w, List.mem_cons_of_mem _ h1, h2⟩)
    · split at h
      · rename_i hk
        rcases List.mem_cons.1 h with rfl | h
        · exact .inr (.inr ⟨z, List.mem_cons_self, hk, rfl⟩)
        · exact .inl (List.mem_cons_of_mem _ h)
      · rcases List.mem_cons.1 h with rfl | h
        · exact .inr (.inl rfl)
        · exact .inl h
theorem less_put {a y x : Ho} {l : List Ho} (h1 : ∀ z ∈ l, lessP a z) (h2 : lessP a y) (hx : x ∈ putF l y) : lessP a x := by
  rcases put_mem hx with h | rfl | ⟨z, hz, _, rfl⟩
  · exact h1 _ h
  · exact h2
  · exact h1 z hz
theorem not_less {a b : Ho} (h : ¬ lessP a b) (k : ¬ keyP a b) : lessP b a := by unfold lessP at *; unfold keyP at k; omega
theorem put_rise {y : Ho} : ∀ {l : List Ho}, RiseH l → RiseH (putF l y)
  | [], _ => List.pairwise_singleton _ _
  | z :: l, h => by
    obtain ⟨h1, h2⟩ := List.pairwise_cons.1 h
    unfold putF
    split
    · rename_i k
      exact List.pairwise_cons.2 ⟨fun x hx => less_put h1 k hx, put_rise h2⟩
    · rename_i k
      split
      · exact List.pairwise_cons.2 ⟨h1, h2⟩
      · rename_i k2
        have hl := not_less k k2
        exact List.pairwise_cons.2 ⟨fun x hx => by
          rcases List.mem_cons.1 hx with rfl | hx
          · exact hl
          · exact less_trans hl (h1 x hx), h⟩
theorem put_holdG {d : Dc} {l : List Ho} {y : Ho} (h : HoldG d l) (hn : (ndAt d.nodes y.node).isSome) (hm : Md y.mode) (hl : (putF l y).length < 2 ^ 20) : HoldG d (putF l y) := by
  refine ⟨hl, fun x hx => ?_, fun x hx => ?_⟩
  · rcases put_mem hx with k | rfl | ⟨z, hz, _, rfl⟩
    · exact h.has _ k
    · exact hn
    · exact h.has z hz
  · rcases put_mem hx with k | rfl | ⟨z, hz, _, rfl⟩
    · exact h.md _ k
    · exact hm
    · exact join_md (h.md z hz) hm
theorem grant_tabG {d : Dc} {t : Tb} {k : Nat} (ht : TabG d t) (hk : k < t.waits.length) (h : freeP d t k) : TabG d (grant t k) := by
  have e2 : t.waits.getD k zHo' = t.waits[k] := by simp [hk]
  obtain ⟨_, h1, _⟩ := h
  have hw := List.getElem_mem hk
  unfold grant
  rw [e2]
  have sub : ∀ x ∈ t.waits.eraseIdx k, x ∈ t.waits := fun x hx => List.mem_of_mem_eraseIdx hx
  exact ⟨put_holdG ht.hg (ht.wh _ hw) (ht.wm _ hw) (by omega), put_rise ht.rise, by have := ht.wl; rw [List.length_eraseIdx, if_pos hk]; omega, fun x hx => ht.wh x (sub x hx), fun x hx => ht.wm x (sub x hx)⟩
end Go.Proofs.YtecnmodeggnjoaaGreat.Ac
set_option linter.unusedVariables false
set_option linter.unusedSimpArgs false
set_option maxRecDepth 20000
set_option maxHeartbeats 20000000
namespace Go.Proofs.YtecnmodeggnjoaaGreat.Ac
open Go.RowKit
theorem rep_cons (n : Nat) (u : List Ho) : zHo' :: (List.replicate n zHo' ++ u) = List.replicate (n + 1) zHo' ++ u := by rw [List.replicate_succ]; rfl
def tailF (g w : List Ho) : List Ho := match g with
  | [] => w
  | _ :: _ => []
theorem tailF_snoc (g w : List Ho) (x : Ho) : tailF (g ++ [x]) w = [] := by cases g <;> rfl
theorem settle_ok (d : Dc) (hd : DOK d) (t : Tb) (ht : TabG d t) (w u : List Ho) : GCalls Tryz.prog 83 [(1, some ⟨3, 2, [[.row 2 0 t.holds.length, .row 3 0 t.waits.length]]⟩), (2, some ⟨0, 3, (t.holds ++ w).map hoW⟩), (3, some ⟨0, 3, (t.waits ++ u).map hoW⟩), (4, some ⟨3, 3, [(dcL d).map .f]⟩)] [(false, [.pt 4 0 0]), (false, [.pt 1 0 0])]
    [(1, some ⟨3, 2, [[.row 1000 0 (setK d t 0).1.holds.length, .row 3 0 (setK d t 0).1.waits.length]]⟩), (2, none), (3, some ⟨0, 3, ((setK d t 0).1.waits ++ (List.replicate (setK d t 0).2.length zHo' ++ u)).map hoW⟩), (4, some ⟨3, 3, [(dcL d).map .f]⟩), (1000, some ⟨0, 3, ((setK d t 0).1.holds ++ tailF (setK d t 0).2 w).map hoW⟩), (1001, some ⟨0, 3, (setK d t 0).2.map hoW⟩)] [(false, [.row 1001 0 (setK d t 0).2.length])] := by
  have q0 : setK d t 0 = ((setK d t 0).1, [] ++ (setK d t 0).2) := rfl
  have hwl := ht.wl
  refine gr Tryz.func83 Tryz.ntmps83 (⟨trivial, cl_hos _, trivial, cl_hos _, cl_hos _, trivial⟩) ?_
  (refine ⟨fun m es hs => ∃ (k : Nat) (T : Tb) (g : List Ho) (v : List Ho) (y : List Ho), (m = setN T k) ∧ (setK d t 0 = ((setK d T k).1, g ++ (setK d T k).2)) ∧ (TabG d T) ∧ (v = List.replicate g.length zHo' ++ u) ∧ (g.length + T.waits.length = t.waits.length) ∧ (y = tailF g w) ∧ es = [(6, .val false [.f (iL k)]), (5, .val false [.row 6 0 g.length]), (1, .val false [.pt 1 0 0]), (0, .val false [.pt 4 0 0])] ∧ hs = [(1, some ⟨3, 2, [[.row 5 0 T.holds.length, .row 3 0 T.waits.length]]⟩), (2, none), (3, some ⟨0, 3, (T.waits ++ v).map hoW⟩), (4, some ⟨3, 3, [(dcL d).map .f]⟩), (5, some ⟨0, 3, (T.holds ++ y).map hoW⟩), (6, some ⟨0, 3, g.map hoW⟩)], ⟨setN t 0, [], [(5, 2), (6, 7)], _, _, don, 0, t, ([]), u, w, don, don, don, don, don, don, rfl, rfl⟩, ?_⟩; rintro m _ _ ⟨k, T, g, v, y, hSET0, hSET1, hSET2, hSET3, hSET4, hSET5, rfl, rfl⟩; refine nx ?_)
  refine ⟨fun h => nx ?_, fun h => nx ?_⟩
  have hk : k < T.waits.length := by omega
  have hw := List.getElem_mem hk
  have hnx := setN_next hk
  have hgr := setN_grant hk
  refine ⟨k, ⟨rfl, hk⟩, nx ?_⟩
  refine ⟨hoW T.waits[k], app_get_left hk, nx ?_⟩
  refine ⟨⟨true, [], _, _, _, _⟩, put_ok T.holds T.waits[k] hSET2.rise (by have := hSET2.hg.len; omega), cd ?_⟩
  by_cases e1 : (putF T.holds T.waits[k]).length ≤ 30
  case neg =>
    have q : setK d t 0 = ((setK d T (k + 1)).1, g ++ (setK d T (k + 1)).2) := by rw [hSET1, setK_next hk fun ⟨_, w, _⟩ => e1 w]
    refine ⟨fun h => nx ?_, fun h => absurd h (by omega)⟩
    exact ⟨setN T (k + 1), [], [], _, _, by omega, don, (k + 1), T, g, v, y, don, don, don, don, don, don, rfl, rfl⟩
  refine ⟨fun h => absurd h (by omega), fun h => nx ?_⟩
  refine ⟨⟨true, [], _, _, _, _⟩, blockers_ok d hd T hSET2 k hk, cd ?_⟩
  by_cases e2 : blockF d T k T.waits[k] = []
  case neg =>
    have q : setK d t 0 = ((setK d T (k + 1)).1, g ++ (setK d T (k + 1)).2) := by rw [hSET1, setK_next hk fun ⟨_, _, w⟩ => e2 w]
    have hp := List.length_pos_iff.2 e2
    refine ⟨fun h => nx ?_, fun h => absurd h (by omega)⟩
    exact ⟨setN T (k + 1), [], [], _, _, by omega, don, (k + 1), T, g, v, y, don, don, don, don, don, don, rfl, rfl⟩
  have hf : freeP d T k := ⟨hk, e1, e2⟩
  have hT := grant_tabG hSET2 hk hf
  have hl := grant_len hk
  have eg : grant T k = ⟨putF T.holds T.waits[k], T.waits.eraseIdx k⟩ := by unfold grant; rw [show T.waits.getD k zHo' = T.waits[k] by simp [hk]]
  have q : setK d t 0 = ((setK d (grant T k) 0).1, g ++ [T.waits[k]] ++ (setK d (grant T k) 0).2) := by rw [hSET1, setK_free hk hf]; simp
  rw [eg] at q hT hl hgr
  have q2 : zHo' :: v = List.replicate (g ++ [T.waits[k]]).length zHo' ++ u := by rw [hSET3, rep_cons]; simp
  have q3 : (g ++ [T.waits[k]]).length + (T.waits.eraseIdx k).length = t.waits.length := by dsimp only at hl; rw [hl]; simp; omega
  have q4 := (tailF_snoc g w T.waits[k]).symm
  have q5 : (putF T.holds T.waits[k]).map hoW = (putF T.holds T.waits[k] ++ []).map hoW := by rw [List.append_nil]
  refine ⟨fun h => absurd h (by rw [e2]; simp), fun h => nx ?_⟩
  refine ⟨⟨false, [(1, 3)], _, _, _, _⟩, deleteHo_ok T.waits v k hk (by have := hSET2.wl; omega), cd ?_⟩
  refine ⟨(g ++ [T.waits[k]]).map hoW, ⟨app_one hoW g T.waits[k], by simp; omega⟩, nx ?_⟩
  exact ⟨setN ⟨putF T.holds T.waits[k], T.waits.eraseIdx k⟩ 0, [], [(5, 496), (6, 976)], _, _, by omega, don, 0, (⟨putF T.holds T.waits[k], T.waits.eraseIdx k⟩), (g ++ [T.waits[k]]), (zHo' :: v), ([]), don, don, don, don, don, don, rfl, rfl⟩
  have hk : T.waits.length ≤ k := by omega
  rw [setK_end hk] at hSET1
  rw [hSET1]
  rw [hSET3, hSET5]
  dsimp only
  rw [List.append_nil]
  exact ⟨[], [(1000, 5), (1001, 6)], don⟩
end Go.Proofs.YtecnmodeggnjoaaGreat.Ac
set_option linter.unusedVariables false
set_option linter.unusedSimpArgs false
set_option maxRecDepth 20000
set_option maxHeartbeats 20000000
namespace Go.Proofs.YtecnmodeggnjoaaGreat.Ac
open Go.RowKit
theorem l08Settle_ok (d : Dc) (hd : DOK d) (t : Tb) (ht : TabG d t) : FC Tryz.prog 77 [(true, dcL d), (true, tbL t)] [(1000, some ⟨0, 1, ((setK d t 0).2.map (·.session)).map intW⟩)]
    [(true, [.f (hos (setK d t 0).1.holds), .f (hos (setK d t 0).1.waits)]), (false, [.row 1000 0 (setK d t 0).2.length])] := by
  have q0 : setK d t 0 = ((setK d t 0).1, [] ++ (setK d t 0).2) := rfl
  have hwl := ht.wl
  refine gr Tryz.func77 Tryz.ntmps77 (⟨cl_ints _, trivial⟩) ?_
  (refine ⟨fun m es hs => ∃ (k : Nat) (T : Tb) (g : List Ho), (m = setN T k) ∧ (setK d t 0 = ((setK d T k).1, g ++ (setK d T k).2)) ∧ (TabG d T) ∧ (g.length + T.waits.length = t.waits.length) ∧ es = [(7, .val false [.f (iL k)]), (6, .val false [.row 6 0 g.length]), (4, .val false [.pt 80 0 0]), (3, .val false [.pt 64 0 0]), (2, .val false [.pt 48 0 0])] ∧ hs = [(48, some ⟨3, 3, [(dcL d).map .f]⟩), (64, some ⟨3, 2, [(tbL T).map .f]⟩), (80, some ⟨3, 2, [[.nl, .nl]]⟩), (6, some ⟨0, 1, (g.map (·.session)).map intW⟩)], ⟨setN t 0, [], [(6, 160)], _, _, don, 0, t, ([]), don, don, don, don, rfl, rfl⟩, ?_⟩; rintro m _ _ ⟨k, T, g, hSES0, hSES1, hSES2, hSES3, rfl, rfl⟩; refine nx ?_)
  refine ⟨fun h => nx ?_, fun h => nx ?_⟩
  have hk : k < T.waits.length := by simpa using h
  have hw := List.getElem_mem hk
  have hnx := setN_next hk
  have hgr := setN_grant hk
  have hTl := hSES2.wl
  have hp := l07Put_ok T.holds T.waits[k] hSES2.rise (hSES2.wm _ hw) (by have := hSES2.hg.len; omega)
  refine ⟨(_, _), l08Blockers_ok d hd T hSES2 k hk, nx ?_⟩
  by_cases e2 : blockF d T k T.waits[k] = []
  case neg =>
    have q : setK d t 0 = ((setK d T (k + 1)).1, g ++ (setK d T (k + 1)).2) := by rw [hSES1, setK_next hk fun ⟨_, _, w⟩ => e2 w]
    have hp := List.length_pos_iff.2 e2
    refine ⟨fun h => nx ?_, fun h => absurd h (by omega)⟩
    exact ⟨setN T (k + 1), [], [], _, _, by omega, don, (k + 1), T, g, don, don, don, don, rfl, rfl⟩
  refine ⟨fun h => absurd h (by rw [e2]; simp), fun h => nx ?_⟩
  refine ⟨(k, hoL T.waits[k]), ⟨rfl, by simp [hk]⟩, nx ?_⟩
  refine ⟨(_, _), hp, nx ?_⟩
  by_cases e1 : (putF T.holds T.waits[k]).length ≤ 30
  case neg =>
    have q : setK d t 0 = ((setK d T (k + 1)).1, g ++ (setK d T (k + 1)).2) := by rw [hSES1, setK_next hk fun ⟨_, w, _⟩ => e1 w]
    refine ⟨fun h => nx ?_, fun h => absurd h (by omega)⟩
    exact ⟨setN T (k + 1), [], [], _, _, by omega, don, (k + 1), T, g, don, don, don, don, rfl, rfl⟩
  refine ⟨fun h => absurd h (by omega), fun h => nx ?_⟩
  have hf : freeP d T k := ⟨hk, e1, e2⟩
  have hT := grant_tabG hSES2 hk hf
  have hl := grant_len hk
  have eg : grant T k = ⟨putF T.holds T.waits[k], T.waits.eraseIdx k⟩ := by unfold grant; rw [show T.waits.getD k zHo' = T.waits[k] by simp [hk]]
  have q : setK d t 0 = ((setK d (grant T k) 0).1, g ++ [T.waits[k]] ++ (setK d (grant T k) 0).2) := by rw [hSES1, setK_free hk hf]; simp
  rw [eg] at q hT hl hgr
  have q3 : (g ++ [T.waits[k]]).length + (T.waits.eraseIdx k).length = t.waits.length := by dsimp only at hl; rw [hl]; simp; omega
  refine ⟨(k, hoL T.waits[k]), ⟨rfl, by simp [hk]⟩, nx ?_⟩
  refine ⟨(_, _), hp, nx ?_⟩
  refine ⟨(0, k, (T.waits.take k).map hoL), ⟨rfl, rfl, Nat.zero_le _, by simp; omega, by simp [List.map_take]⟩, nx ?_⟩
  refine ⟨(T.waits.take k).map hoW, fmap_mapL (fun _ => rfl) _, nx ?_⟩
  refine ⟨(T.waits.take k).map hoW, ⟨rfl, by simp; omega⟩, nx ?_⟩
  refine ⟨(k + 1, T.waits.length, (T.waits.drop (k + 1)).map hoL), ⟨wrap_suc (by omega), by show T.waits.length = _; simp, hk, by simp, by rw [List.take_of_length_le (by simp), ← List.map_drop]⟩, nx ?_⟩
  refine ⟨(T.waits.drop (k + 1)).map hoW, fmap_mapL (fun _ => rfl) _, nx ?_⟩
  refine ⟨(T.waits.eraseIdx k).map hoW, ⟨by rw [List.eraseIdx_eq_take_drop_succ, List.map_append, List.take_of_length_le (by simp)], by simp; omega⟩, nx ?_⟩
  refine ⟨((g ++ [T.waits[k]]).map (·.session)).map intW, ⟨by rw [List.take_of_length_le (by simp)]; simp, by simp; omega⟩, nx ?_⟩
  exact ⟨setN ⟨putF T.holds T.waits[k], T.waits.eraseIdx k⟩ 0, [], [(6, 992)], _, _, by omega, don, 0, (⟨putF T.holds T.waits[k], T.waits.eraseIdx k⟩), (g ++ [T.waits[k]]), don, don, don, don, rfl, rfl⟩
  have hk : T.waits.length ≤ k := by simpa using h
  rw [setK_end hk] at hSES1
  rw [hSES1]
  dsimp only
  rw [List.append_nil]
  exact ⟨[], [(1000, 6)], don⟩
end Go.Proofs.YtecnmodeggnjoaaGreat.Ac
set_option linter.unusedVariables false
set_option linter.unusedSimpArgs false
set_option maxRecDepth 20000
set_option maxHeartbeats 20000000
namespace Go.Proofs.YtecnmodeggnjoaaGreat.Ac
open Go.RowKit
theorem sess_snoc {l : List Ho} {i : Nat} (hi : i < l.length) : (((l.take i).map (·.session)).map intW).take i ++ [intW l[i].session] = ((l.take (i + 1)).map (·.session)).map intW := by
  rw [List.take_of_length_le (by rw [List.length_map, List.length_map, List.length_take]; exact Nat.min_le_left _ _), List.take_succ_eq_append_getElem hi, List.map_append, List.map_append]; rfl
theorem sessionList_ok (l : List Ho) (hl : l.length < 2 ^ 28) : FC Tryz.prog 84 [(false, [hos l])] [(1000, some ⟨0, 1, (l.map (·.session)).map intW⟩)] [(false, [.row 1000 0 l.length])] := by
  refine gr Tryz.func84 Tryz.ntmps84 (⟨cl_ints _, trivial⟩) ?_
  (refine ⟨fun m es hs => ∃ (i : Nat), (m + i = l.length) ∧ es = [(8, .val false [.f (iL i)]), (7, .val false [.f (iL l.length)]), (6, .val false [.f (hos l)]), (3, .val false [.row 3 0 i])] ∧ hs = [(3, some ⟨0, 1, ((l.take i).map (·.session)).map intW⟩)], ⟨l.length, [], [(3, 7)], _, _, don, 0, don, rfl, rfl⟩, ?_⟩; rintro m _ _ ⟨i, hSLI0, rfl, rfl⟩; refine nx ?_)
  refine ⟨fun h => nx ?_, fun h => nx ?_⟩
  have hi : i < l.length := by omega
  refine ⟨(i, hoL l[i]), ⟨rfl, by simp [hi]⟩, nx ?_⟩
  refine ⟨((l.take (i + 1)).map (·.session)).map intW, ⟨sess_snoc hi, by simp; omega⟩, nx ?_⟩
  exact ⟨m - 1, [], [(3, 272)], _, _, by omega, don, (i + 1), don, rfl, rfl⟩
  have hi : i = l.length := by omega
  subst hi
  rw [List.take_length]
  exact ⟨[], [(1000, 3)], don⟩
theorem l08Own_ok (t : Tb) (h1 : t.holds.length < 2 ^ 28) (h2 : t.waits.length < 2 ^ 28) : FC Tryz.prog 78 [(true, tbL t)] [(1000, some ⟨0, 3, t.holds.map hoW⟩), (1001, some ⟨0, 3, t.waits.map hoW⟩)] [(true, [.row 1000 0 t.holds.length, .row 1001 0 t.waits.length])] := by
  refine gr Tryz.func78 Tryz.ntmps78 (⟨cl_hos _, cl_hos _, trivial⟩) ?_
  refine ⟨t.holds.map hoW, fmap_mapL (fun _ => rfl) _, nx ?_⟩
  refine ⟨t.holds.map hoW, ⟨rfl, by simp; omega⟩, nx ?_⟩
  refine ⟨t.waits.map hoW, fmap_mapL (fun _ => rfl) _, nx ?_⟩
  refine ⟨t.waits.map hoW, ⟨rfl, by simp; omega⟩, nx ?_⟩
  exact ⟨[], [(1000, 112), (1001, 176)], don⟩
theorem tabCopied_ok (t : Tb) (h1 : t.holds.length < 2 ^ 28) (h2 : t.waits.length < 2 ^ 28) : FC Tryz.prog 82 [(true, tbL t)] [(1000, some ⟨0, 3, t.holds.map hoW⟩), (1001, some ⟨0, 3, t.waits.map hoW⟩)] [(true, [.row 1000 0 t.holds.length, .row 1001 0 t.waits.length])] := by
  refine gr Tryz.func82 Tryz.ntmps82 (⟨cl_hos _, cl_hos _, trivial⟩) ?_
  refine ⟨(_, _), cloneHo_ok' t.holds h1, nx ?_⟩
  refine ⟨(_, _), cloneHo_ok' t.waits h2, nx ?_⟩
  exact ⟨[], [(1000, 96), (1001, 144)], don⟩
structure TbG (d : Dc) (t : Tb) : Prop where
  d64 : Dc64 d
  dl : d.nodes.length < 2 ^ 28
  hl : t.holds.length < 2 ^ 26
  wl : t.waits.length < 2 ^ 26
  hn : ∀ h ∈ t.holds, I64 h.node
  wn : ∀ h ∈ t.waits, I64 h.node
theorem setK_tabG {d : Dc} : ∀ (n : Nat) (t : Tb) (k : Nat), setN t k < n → TabG d t → TabG d (setK d t k).1 ∧ (setK d t k).2.length + (setK d t k).1.waits.length = t.waits.length
  | 0, _, _, h, _ => by omega
  | n + 1, t, k, h, ht => by
    by_cases hk : k < t.waits.length
    · have a := setN_grant hk
      have b := setN_next hk
      by_cases hf : freeP d t k
      · rw [setK_free hk hf]
        have ih := setK_tabG n (grant t k) 0 (by omega) (grant_tabG ht hk hf)
        refine ⟨ih.1, ?_⟩
        have := ih.2
        rw [grant_len hk] at this
        simp only [List.length_cons]
        omega
      · rw [setK_next hk hf]
        exact setK_tabG n t (k + 1) (by omega) ht
    · rw [setK_end (by omega)]
      exact ⟨ht, by simp⟩
end Go.Proofs.YtecnmodeggnjoaaGreat.Ac
