/- Several of our texts, one behind the other, without what this claim does not need: Lg. -/
import Derived.Test.YtecnmodeggnjoaaGreatZ2e4902f1
import Derived.Test.YtecnmodeggnjoaaGreatZa2944825
set_option linter.unusedVariables false
set_option linter.unusedSimpArgs false
set_option maxRecDepth 20000
set_option maxHeartbeats 20000000
namespace Go.Proofs.YtecnmodeggnjoaaGreat.Ac
open Go.RowKit
def OneP (l : List Ho) (i : Nat) (h : i < l.length) : Prop := ∀ k (hk : k < i), l[k].session ≠ l[i].session
theorem waits_next {d : Dc} {l : List Ho} {i : Nat} (hi : i < l.length) (h : ∀ j (hj : j < l.length), j < i → holdP d l[j] ∧ OneP l j hj) (h1 : holdP d l[i]) (h2 : OneP l i hi) : ∀ j (hj : j < l.length), j < i + 1 → holdP d l[j] ∧ OneP l j hj := fun j hj hji => by
  by_cases k : j < i
  · exact h j hj k
  · obtain rfl : j = i := by omega
    exact ⟨h1, h2⟩
theorem wait_one {t : Tb} {i : Nat} (hi : i < t.waits.length) : waitF t t.waits[i].session = (i : Int) ↔ OneP t.waits i hi := by
  rcases wait_at t t.waits[i].session with ⟨_, h⟩ | ⟨k, hk, h1, h2, h3⟩
  · exact absurd rfl (h _ (List.getElem_mem hi))
  · rw [h1]
    constructor
    · intro e
      obtain rfl : k = i := by omega
      exact fun j hj => h3 j hj
    · intro h
      have h4 : ¬ k < i := fun w => h k w h2
      have h5 : ¬ i < k := fun w => h3 i w rfl
      omega
theorem tableOK_ok (d : Dc) (h64 : Dc64 d) (t : Tb) (hl : t.holds.length < 2 ^ 62) (hwl : t.waits.length < 2 ^ 62) (hn : ∀ x ∈ t.holds, I64 x.node) (hwn : ∀ x ∈ t.waits, I64 x.node) : FC Tryz.prog 81 [(true, dcL d), (true, tbL t)] [] [(false, [.f (bL (dB (DOK d ∧ TabP d t)))])] := by
  have hH := holdsOK_ok d h64 t.holds hl hn
  have hlen : ((t.waits.map hoL).length : Int) = t.waits.length := by rw [List.length_map]
  by_cases kh : DOK d ∧ HoldsP d t.holds
  case neg =>
    have q : dB (DOK d ∧ TabP d t) = false := dB_no fun w => kh ⟨w.1, w.2.1⟩
    refine gr Tryz.func81 Tryz.ntmps81 trivial ?_
    refine ⟨([], _), hH.x kh, nx ?_⟩
    exact ⟨[], [], don⟩
  by_cases k6 : (t.waits.length : Int) > 6
  · have q : dB (DOK d ∧ TabP d t) = false := dB_no fun w => by have := w.2.2.1; omega
    refine gr Tryz.func81 Tryz.ntmps81 trivial ?_
    refine ⟨([], _), hH.y kh, nx ?_⟩
    rw [hlen]
    refine ⟨fun h => nx ?_, fun h => absurd h (fun w => w k6)⟩
    exact ⟨[], [], don⟩
  have hd := kh.1
  refine gr Tryz.func81 Tryz.ntmps81 trivial ?_
  refine ⟨([], _), hH.y kh, nx ?_⟩
  rw [hlen]
  refine ⟨fun h => absurd h (k6), fun h => nx ?_⟩
  rw [hlen]
  (refine ⟨fun m es hs => ∃ (i : Nat), (m + i = t.waits.length) ∧ (∀ j (hj : j < t.waits.length), j < i → holdP d t.waits[j] ∧ OneP t.waits j hj) ∧ es = [(21, .val false [.f (iL i)]), (20, .val false [.f (iL t.waits.length)]), (19, .val false [.f (hos t.waits)]), (3, .val false [.pt 64 0 0]), (2, .val false [.pt 48 0 0])] ∧ hs = [(48, some ⟨3, 3, [(dcL d).map .f]⟩), (64, some ⟨3, 2, [(tbL t).map .f]⟩)], ⟨t.waits.length, [], [], _, _, don, 0, don, don, rfl, rfl⟩, ?_⟩; rintro m _ _ ⟨i, hTOK0, hTOK1, rfl, rfl⟩; refine nx ?_)
  refine ⟨fun h => nx ?_, fun h => nx ?_⟩
  have hi : i < t.waits.length := by omega
  refine ⟨(i, hoL t.waits[i]), ⟨rfl, by simp [hi]⟩, nx ?_⟩
  have hh := isHold_ok d hd t.waits[i] (hwn _ (List.getElem_mem _))
  by_cases k : holdP d t.waits[i]
  case neg =>
    have q : dB (DOK d ∧ TabP d t) = false := dB_no fun w => k (w.2.2.2 i hi).1
    refine ⟨⟨true, [], _, _, _, _⟩, hh.x k, cd ?_⟩
    exact ⟨[], [], don⟩
  refine ⟨⟨true, [], _, _, _, _⟩, hh.y k, cd ?_⟩
  refine ⟨⟨true, [], _, _, _, _⟩, waiting_ok t t.waits[i].session hwl, cd ?_⟩
  have hw1 := wait_one hi
  by_cases k1 : waitF t t.waits[i].session = (i : Int)
  · have q := waits_next hi hTOK1 k (hw1.1 k1)
    refine ⟨fun h => absurd h (fun w => w k1), fun h => nx ?_⟩
    exact ⟨m - 1, [], [], _, _, by omega, don, (i + 1), don, don, rfl, rfl⟩
  · have q : dB (DOK d ∧ TabP d t) = false := dB_no fun w => k1 (hw1.2 (w.2.2.2 i hi).2)
    refine ⟨fun h => nx ?_, fun h => absurd h (fun w => w k1)⟩
    exact ⟨[], [], don⟩
  have q : dB (DOK d ∧ TabP d t) = true := dB_yes ⟨hd, kh.2, by omega, fun j hj => hTOK1 j hj (by omega)⟩
  exact ⟨[], [], don⟩
  all_goals intro j hj hji; omega
theorem l08Waits_ok (d : Dc) (hdl : d.nodes.length < 2 ^ 62) (l : List Ho) (hl : l.length < 2 ^ 62) : FC Tryz.prog 159 [(true, dcL d), (false, [hos l])] [] [(false, [.f (bL (dB (WaitsP d l)))])] := by
  have hlen : ((l.map hoL).length : Int) = l.length := by rw [List.length_map]
  by_cases k6 : (l.length : Int) > 6
  · have q : dB (WaitsP d l) = false := dB_no fun w => by have := w.1; omega
    refine gr Tryz.func159 Tryz.ntmps159 trivial ?_
    rw [hlen]
    refine ⟨fun h => nx ?_, fun h => absurd h (fun w => w k6)⟩
    exact ⟨[], [], don⟩
  refine gr Tryz.func159 Tryz.ntmps159 trivial ?_
  rw [hlen]
  refine ⟨fun h => absurd h (k6), fun h => nx ?_⟩
  (refine ⟨fun m es hs => ∃ (i : Nat), (m + i = l.length) ∧ (∀ j (hj : j < l.length), j < i → holdP d l[j] ∧ OneP l j hj) ∧ es = [(5, .val false [.f (iL i)]), (2, .val false [.pt 48 0 0]), (1, .val false [.f (hos l)])] ∧ hs = [(48, some ⟨3, 3, [(dcL d).map .f]⟩)], ⟨l.length, [], [], _, _, don, 0, don, don, rfl, rfl⟩, ?_⟩; rintro m _ _ ⟨i, hWAI0, hWAI1, rfl, rfl⟩; refine nx ?_)
  refine ⟨fun h => nx ?_, fun h => nx ?_⟩
  have hi : i < l.length := by simpa using h
  refine ⟨(i, hoL l[i]), ⟨rfl, by simp [hi]⟩, nx ?_⟩
  have hh := l07Hold_ok d hdl l[i]
  by_cases kh : holdP d l[i]
  case neg =>
    have q : dB (WaitsP d l) = false := dB_no fun w => kh (w.2 i hi).1
    refine ⟨([], _), hh.x kh, nx ?_⟩
    exact ⟨[], [], don⟩
  refine ⟨([], _), hh.y kh, nx ?_⟩
  obtain ⟨mo, hmo⟩ : ∃ mo, mo = m := ⟨m, rfl⟩
  (refine ⟨fun m es hs => ∃ (u : Nat), (m + u = i) ∧ (∀ k (hk : k < l.length), k < u → l[k].session ≠ l[i].session) ∧ es = [(6, .val false [.f (iL u)]), (5, .val false [.f (iL i)]), (2, .val false [.pt 48 0 0]), (1, .val false [.f (hos l)])] ∧ hs = [(48, some ⟨3, 3, [(dcL d).map .f]⟩)], ⟨i, [], [], _, _, don, 0, don, don, rfl, rfl⟩, ?_⟩; rintro m _ _ ⟨u, hWAK0, hWAK1, rfl, rfl⟩; refine nx ?_)
  refine ⟨fun h => nx ?_, fun h => nx ?_⟩
  have hu : u < l.length := by omega
  refine ⟨(u, hoL l[u]), ⟨rfl, by simp [hu]⟩, nx ?_⟩
  refine ⟨(i, hoL l[i]), ⟨rfl, by simp [hi]⟩, nx ?_⟩
  by_cases ks : l[u].session = l[i].session
  · have q : dB (WaitsP d l) = false := dB_no fun w => (w.2 i hi).2 u (by omega) ks
    refine ⟨fun h => nx ?_, fun h => absurd h (fun w => w ks)⟩
    exact ⟨[], [], don⟩
  · have q : ∀ k (hk : k < l.length), k < u + 1 → l[k].session ≠ l[i].session := fun k hk hku => by
      by_cases e : k < u
      · exact hWAK1 k hk e
      · obtain rfl : k = u := by omega
        exact ks
    refine ⟨fun h => absurd h (ks), fun h => nx ?_⟩
    exact ⟨m - 1, [], [], _, _, by omega, don, (u + 1), don, don, rfl, rfl⟩
  have q := waits_next hi hWAI1 kh fun k hk => hWAK1 k (by omega) (by omega)
  exact ⟨mo - 1, [], [], _, _, by omega, don, (i + 1), don, don, rfl, rfl⟩
  have hi : l.length ≤ i := by simpa using h
  have q : dB (WaitsP d l) = true := dB_yes ⟨by omega, fun j hj => hWAI1 j hj (by omega)⟩
  exact ⟨[], [], don⟩
  all_goals first | (intro j hj hji; omega) | omega
theorem specTableOK_ok (d : Dc) (h64 : Dc64 d) (hdl : d.nodes.length < 2 ^ 61) (t : Tb) (hl : t.holds.length < 2 ^ 62) (hwl : t.waits.length < 2 ^ 62) : FC Tryz.prog 76 [(true, dcL d), (true, tbL t)] [] [(false, [.f (bL (dB (DOK d ∧ TabP d t)))])] := by
  have hH := specHoldsOK_ok d h64 hdl t.holds hl
  by_cases kh : DOK d ∧ HoldsP d t.holds
  case neg =>
    have q : dB (DOK d ∧ TabP d t) = false := dB_no fun w => kh ⟨w.1, w.2.1⟩
    refine gr Tryz.func76 Tryz.ntmps76 trivial ?_
    refine ⟨([], _), hH.x kh, nx ?_⟩
    exact ⟨[], [], don⟩
  have q : dB (WaitsP d t.waits) = dB (DOK d ∧ TabP d t) := by rw [show (DOK d ∧ TabP d t) = WaitsP d t.waits from propext ⟨fun w => w.2.2, fun w => ⟨kh.1, kh.2, w⟩⟩]
  refine gr Tryz.func76 Tryz.ntmps76 trivial ?_
  refine ⟨([], _), hH.y kh, nx ?_⟩
  refine ⟨([], _), l08Waits_ok d (by omega) t.waits hwl, nx ?_⟩
  rw [q]
  exact ⟨[], [], don⟩
theorem TabP.g {d : Dc} {t : Tb} (h : TabP d t) : TabG d t := ⟨⟨by have := h.1.1; omega, fun x hx => (h.1.all x hx).2.1, h.1.md⟩, h.1.rise, by have := h.2.1; omega, fun x hx => (h.2.all x hx).2.1, h.2.md⟩
def fitAt (d : Dc) (l : List Ho) (id : Int) (a b : Int) : Prop := fitP (modeF d l a id) (modeF d l b id)
theorem sess_lt {l : List Ho} (hr : RiseH l) {i j : Nat} (hj : j < (sessF l).length) (hij : i < j) : (sessF l)[i] < (sessF l)[j] := List.pairwise_iff_getElem.1 (ded_sorted hr.le) i j (Nat.lt_trans hij hj) hj hij
def FitAll (d : Dc) (l : List Ho) (S : List Int) : Prop := ∀ n ∈ d.nodes, ∀ p (hp : p < S.length), ∀ q (hq : q < p), fitAt d l n.id S[p] (S[q]'(Nat.lt_trans hq hp))
theorem peace_iff {d : Dc} {l : List Ho} (hr : RiseH l) : peaceP d l ↔ FitAll d l (sessF l) := by
  constructor
  · intro h n hn p hp q hq
    exact h n hn _ (List.getElem_mem _) _ (List.getElem_mem _) (sess_lt hr hp hq)
  · intro h n hn a ha b hb hab
    obtain ⟨p, hp, rfl⟩ := List.mem_iff_getElem.1 ha
    obtain ⟨q, hq, rfl⟩ := List.mem_iff_getElem.1 hb
    refine h n hn p hp q ?_
    by_cases e : q < p
    · exact e
    · exfalso
      by_cases e2 : p = q
      · subst e2; omega
      · have := sess_lt hr hq (show p < q by omega); omega
theorem isPeaceful_ok (d : Dc) (hd : DOK d) (l : List Ho) (hl : HoldG d l) (hr : RiseH l) : FC Tryz.prog 271 [(false, [.pv (dcL d)]), (false, [hos l])] [] [(false, [.f (bL (dB (peaceP d l)))])] := by
  have hlen := hl.len
  have hdl := hd.len
  have hse := sessionsOf_ok l (by omega) hr
  have hsl := sess_len l
  have hpe := peace_iff (d := d) hr
  have hnl : ((d.nodes.map ndL).length : Int) = d.nodes.length := by rw [List.length_map]
  generalize sessF l = S at hse hsl hpe
  generalize sessT l = W at hse
  refine gr Tryz.func271 Tryz.ntmps271 trivial ?_
  refine ⟨(_, _), hse, nx ?_⟩
  rw [hnl]
  (refine ⟨fun m es hs => ∃ (j : Nat), (m + j = d.nodes.length) ∧ (∀ z (hz : z < d.nodes.length), z < j → ∀ p (hp : p < S.length), ∀ q (hq : q < p), fitAt d l d.nodes[z].id S[p] S[q]) ∧ es = [(19, .val false [.f (iL j)]), (18, .val false [.f (iL d.nodes.length)]), (17, .val false [.f (nds d.nodes)]), (5, .val false [.row 3 0 S.length]), (1, .val false [.f (hos l)]), (0, .val false [.f (.pv (dcL d))])] ∧ hs = [(3, some ⟨0, 1, (S ++ W).map intW⟩)], ⟨d.nodes.length, [], [(3, 224)], _, _, ⟨rfl, ?_, ?_⟩, 0, ?_, ?_, rfl, rfl⟩, ?_⟩; rotate_left 4; rintro m _ _ ⟨j, hPCA0, hPCA1, rfl, rfl⟩; refine nx ?_)
  refine ⟨fun h => nx ?_, fun h => nx ?_⟩
  have hj : j < d.nodes.length := by omega
  obtain ⟨mA, hmA⟩ : ∃ mo, mo = m := ⟨m, rfl⟩
  refine ⟨(j, ndL d.nodes[j]), ⟨rfl, by simp [hj]⟩, nx ?_⟩
  (refine ⟨fun m es hs => ∃ (i : Nat), (m + i = S.length) ∧ (∀ p (hp : p < S.length), p < i → ∀ q (hq : q < p), fitAt d l d.nodes[j].id S[p] S[q]) ∧ es = [(25, .val false [.f (iL i)]), (24, .val false [.f (iL S.length)]), (23, .val false [.row 3 0 S.length]), (19, .val false [.f (iL j)]), (18, .val false [.f (iL d.nodes.length)]), (17, .val false [.f (nds d.nodes)]), (7, .val false [.pt 128 0 0]), (5, .val false [.row 3 0 S.length]), (1, .val false [.f (hos l)]), (0, .val false [.f (.pv (dcL d))])] ∧ hs = [(128, some ⟨3, 5, [(ndL d.nodes[j]).map .f]⟩), (3, some ⟨0, 1, (S ++ W).map intW⟩)], ⟨S.length, [], [], _, _, ⟨rfl, ?_, ?_⟩, 0, ?_, ?_, rfl, rfl⟩, ?_⟩; rotate_left 4; rintro m _ _ ⟨i, hPCB0, hPCB1, rfl, rfl⟩; refine nx ?_)
  refine ⟨fun h => nx ?_, fun h => nx ?_⟩
  have hi : i < S.length := by omega
  obtain ⟨mB, hmB⟩ : ∃ mo, mo = m := ⟨m, rfl⟩
  refine ⟨i, ⟨rfl, hi⟩, nx ?_⟩
  refine ⟨intW S[i], app_get_left hi, nx ?_⟩
  refine ⟨(0, i), ⟨rfl, rfl, Nat.zero_le _, .inl (by omega)⟩, nx ?_⟩
  (refine ⟨fun m es hs => ∃ (u : Nat), (m + u = i) ∧ (∀ q (hq : q < S.length), q < u → fitAt d l d.nodes[j].id S[i] S[q]) ∧ es = [(34, .val false [.f (iL u)]), (33, .val false [.f (iL i)]), (32, .val false [.row 3 0 i]), (25, .val false [.f (iL i)]), (24, .val false [.f (iL S.length)]), (23, .val false [.row 3 0 S.length]), (19, .val false [.f (iL j)]), (18, .val false [.f (iL d.nodes.length)]), (17, .val false [.f (nds d.nodes)]), (9, .val false [.f (iL S[i])]), (7, .val false [.pt 128 0 0]), (5, .val false [.row 3 0 S.length]), (1, .val false [.f (hos l)]), (0, .val false [.f (.pv (dcL d))])] ∧ hs = [(128, some ⟨3, 5, [(ndL d.nodes[j]).map .f]⟩), (3, some ⟨0, 1, (S ++ W).map intW⟩)], ⟨i, [], [], _, _, ⟨rfl, ?_, ?_⟩, 0, ?_, ?_, rfl, rfl⟩, ?_⟩; rotate_left 4; rintro m _ _ ⟨u, hPCC0, hPCC1, rfl, rfl⟩; refine nx ?_)
  refine ⟨fun h => nx ?_, fun h => nx ?_⟩
  have hu : u < S.length := by omega
  refine ⟨u, ⟨rfl, by omega⟩, nx ?_⟩
  refine ⟨intW S[u], app_get_left hu, nx ?_⟩
  refine ⟨([], _), mode_ok d hd l hl S[i] d.nodes[j].id, nx ?_⟩
  refine ⟨([], _), mode_ok d hd l hl S[u] d.nodes[j].id, nx ?_⟩
  have hco := compatible_ok (modeF d l S[i] d.nodes[j].id) (modeF d l S[u] d.nodes[j].id)
  by_cases k : fitP (modeF d l S[i] d.nodes[j].id) (modeF d l S[u] d.nodes[j].id)
  · have q : ∀ q (hq : q < S.length), q < u + 1 → fitAt d l d.nodes[j].id S[i] S[q] := fun q hq hqu => by
      by_cases e : q < u
      · exact hPCC1 q hq e
      · obtain rfl : q = u := by omega
        exact k
    refine ⟨([], _), hco.y k, nx ?_⟩
    (refine ⟨m - 1, [], [], [(34, .val false [.f (iL (u + 1))]), (33, .val false [.f (iL i)]), (32, .val false [.row 3 0 i]), (25, .val false [.f (iL i)]), (24, .val false [.f (iL S.length)]), (23, .val false [.row 3 0 S.length]), (19, .val false [.f (iL j)]), (18, .val false [.f (iL d.nodes.length)]), (17, .val false [.f (nds d.nodes)]), (9, .val false [.f (iL S[i])]), (7, .val false [.pt 128 0 0]), (5, .val false [.row 3 0 S.length]), (1, .val false [.f (hos l)]), (0, .val false [.f (.pv (dcL d))])], [(128, some ⟨3, 5, [(ndL d.nodes[j]).map .f]⟩), (3, some ⟨0, 1, (S ++ W).map intW⟩)], by omega, ⟨rfl, ?_, ?_⟩, (u + 1), ?_, ?_, rfl, rfl⟩; rotate_left 4)
    all_goals try exact don
  · have q : dB (peaceP d l) = false := dB_no fun w => k (hpe.1 w d.nodes[j] (List.getElem_mem _) i hi u (by omega))
    refine ⟨([], _), hco.x k, nx ?_⟩
    (refine ⟨[], [], ?_⟩; rotate_left)
    all_goals try exact don
  have q : ∀ p (hp : p < S.length), p < i + 1 → ∀ q (hq : q < p), fitAt d l d.nodes[j].id S[p] S[q] := fun p hp hpi q hq => by
    by_cases e : p < i
    · exact hPCB1 p hp e q hq
    · obtain rfl : p = i := by omega
      exact hPCC1 q (by omega) (by omega)
  (refine ⟨mB - 1, [], [], [(25, .val false [.f (iL (i + 1))]), (24, .val false [.f (iL S.length)]), (23, .val false [.row 3 0 S.length]), (19, .val false [.f (iL j)]), (18, .val false [.f (iL d.nodes.length)]), (17, .val false [.f (nds d.nodes)]), (7, .val false [.pt 128 0 0]), (5, .val false [.row 3 0 S.length]), (1, .val false [.f (hos l)]), (0, .val false [.f (.pv (dcL d))])], [(128, some ⟨3, 5, [(ndL d.nodes[j]).map .f]⟩), (3, some ⟨0, 1, (S ++ W).map intW⟩)], by omega, ⟨rfl, ?_, ?_⟩, (i + 1), ?_, ?_, rfl, rfl⟩; rotate_left 4)
  have q : ∀ z (hz : z < d.nodes.length), z < j + 1 → ∀ p (hp : p < S.length), ∀ q (hq : q < p), fitAt d l d.nodes[z].id S[p] S[q] := fun z hz hzj p hp q hq => by
    by_cases e : z < j
    · exact hPCA1 z hz e p hp q hq
    · obtain rfl : z = j := by omega
      exact hPCB1 p hp (by omega) q hq
  (refine ⟨mA - 1, [], [], [(19, .val false [.f (iL (j + 1))]), (18, .val false [.f (iL d.nodes.length)]), (17, .val false [.f (nds d.nodes)]), (5, .val false [.row 3 0 S.length]), (1, .val false [.f (hos l)]), (0, .val false [.f (.pv (dcL d))])], [(3, some ⟨0, 1, (S ++ W).map intW⟩)], by omega, ⟨rfl, ?_, ?_⟩, (j + 1), ?_, ?_, rfl, rfl⟩; rotate_left 4)
  have q : dB (peaceP d l) = true := dB_yes (hpe.2 fun n hn p hp q hq => by
    obtain ⟨z, hz, rfl⟩ := List.mem_iff_getElem.1 hn
    exact hPCA1 z hz (by omega) p hp q hq)
  (refine ⟨[], [], ?_⟩; rotate_left)
  all_goals try exact don
  all_goals intros; omega
theorem l07Peace_ok (d : Dc) (hd : DOK d) (l : List Ho) (hl : HoldG d l) (hr : RiseH l) : FC Tryz.prog 265 [(true, dcL d), (false, [hos l])] [] [(false, [.f (bL (dB (peaceP d l)))])] := by
  have hlen := hl.len
  have hdl := hd.len
  have hse := l07Sessions_ok l (by omega)
  have hsl := sess_len l
  have hpe := peace_iff (d := d) hr
  generalize sessF l = S at hse hsl hpe
  refine gr Tryz.func265 Tryz.ntmps265 trivial ?_
  refine ⟨(_, _), hse, nx ?_⟩
  (refine ⟨fun m es hs => ∃ (i : Nat), (m + i = S.length) ∧ (∀ p (hp : p < S.length), p < i → ∀ q (hq : q < p), ∀ z (hz : z < d.nodes.length), fitAt d l d.nodes[z].id S[p] S[q]) ∧ es = [(6, .val false [.f (iL i)]), (5, .val false [.row 3 0 S.length]), (2, .val false [.pt 48 0 0]), (1, .val false [.f (hos l)])] ∧ hs = [(48, some ⟨3, 3, [(dcL d).map .f]⟩), (3, some ⟨0, 1, S.map intW⟩)], ⟨S.length, [], [(3, 192)], _, _, don, 0, don, don, rfl, rfl⟩, ?_⟩; rintro m _ _ ⟨i, hPSA0, hPSA1, rfl, rfl⟩; refine nx ?_)
  refine ⟨fun h => nx ?_, fun h => nx ?_⟩
  have hi : i < S.length := by omega
  obtain ⟨mA, hmA⟩ : ∃ mo, mo = m := ⟨m, rfl⟩
  (refine ⟨fun m es hs => ∃ (u : Nat), (m + u = i) ∧ (∀ q (hq : q < S.length), q < u → ∀ z (hz : z < d.nodes.length), fitAt d l d.nodes[z].id S[i] S[q]) ∧ es = [(7, .val false [.f (iL u)]), (6, .val false [.f (iL i)]), (5, .val false [.row 3 0 S.length]), (2, .val false [.pt 48 0 0]), (1, .val false [.f (hos l)])] ∧ hs = [(48, some ⟨3, 3, [(dcL d).map .f]⟩), (3, some ⟨0, 1, S.map intW⟩)], ⟨i, [], [], _, _, don, 0, don, don, rfl, rfl⟩, ?_⟩; rintro m _ _ ⟨u, hPSB0, hPSB1, rfl, rfl⟩; refine nx ?_)
  refine ⟨fun h => nx ?_, fun h => nx ?_⟩
  have hu : u < S.length := by omega
  obtain ⟨mB, hmB⟩ : ∃ mo, mo = m := ⟨m, rfl⟩
  (refine ⟨fun m es hs => ∃ (j : Nat), (m + j = d.nodes.length) ∧ (∀ z (hz : z < d.nodes.length), z < j → fitAt d l d.nodes[z].id S[i] S[u]) ∧ es = [(8, .val false [.f (iL j)]), (7, .val false [.f (iL u)]), (6, .val false [.f (iL i)]), (5, .val false [.row 3 0 S.length]), (2, .val false [.pt 48 0 0]), (1, .val false [.f (hos l)])] ∧ hs = [(48, some ⟨3, 3, [(dcL d).map .f]⟩), (3, some ⟨0, 1, S.map intW⟩)], ⟨d.nodes.length, [], [], _, _, don, 0, don, don, rfl, rfl⟩, ?_⟩; rintro m _ _ ⟨j, hPSC0, hPSC1, rfl, rfl⟩; refine nx ?_)
  refine ⟨fun h => nx ?_, fun h => nx ?_⟩
  have hj : j < d.nodes.length := by simpa using h
  refine ⟨(j, ndL d.nodes[j]), ⟨rfl, by simp [hj]⟩, nx ?_⟩
  refine ⟨i, ⟨rfl, hi⟩, nx ?_⟩
  refine ⟨intW S[i], by simp [hi], nx ?_⟩
  refine ⟨([], _), l07At_ok d hd l hl S[i] d.nodes[j].id, nx ?_⟩
  refine ⟨u, ⟨rfl, hu⟩, nx ?_⟩
  refine ⟨intW S[u], by simp [hu], nx ?_⟩
  refine ⟨([], _), l07At_ok d hd l hl S[u] d.nodes[j].id, nx ?_⟩
  have hco := l07Fits_ok (modeF d l S[i] d.nodes[j].id) (modeF d l S[u] d.nodes[j].id) (mode_md hl.md _ _).1 (mode_md hl.md _ _).1
  by_cases k : fitP (modeF d l S[i] d.nodes[j].id) (modeF d l S[u] d.nodes[j].id)
  · have q : ∀ z (hz : z < d.nodes.length), z < j + 1 → fitAt d l d.nodes[z].id S[i] S[u] := fun z hz hzj => by
      by_cases e : z < j
      · exact hPSC1 z hz e
      · obtain rfl : z = j := by omega
        exact k
    refine ⟨([], _), hco.y k, nx ?_⟩
    exact ⟨m - 1, [], [], _, _, by omega, don, (j + 1), don, don, rfl, rfl⟩
  · have q : dB (peaceP d l) = false := dB_no fun w => k (hpe.1 w d.nodes[j] (List.getElem_mem _) i hi u (by omega))
    refine ⟨([], _), hco.x k, nx ?_⟩
    exact ⟨[], [], don⟩
  have hj : d.nodes.length ≤ j := by simpa using h
  have q : ∀ q (hq : q < S.length), q < u + 1 → ∀ z (hz : z < d.nodes.length), fitAt d l d.nodes[z].id S[i] S[q] := fun q hq hqu z hz => by
    by_cases e : q < u
    · exact hPSB1 q hq e z hz
    · obtain rfl : q = u := by omega
      exact hPSC1 z hz (by omega)
  exact ⟨mB - 1, [], [], _, _, by omega, don, (u + 1), don, don, rfl, rfl⟩
  have q : ∀ p (hp : p < S.length), p < i + 1 → ∀ q (hq : q < p), ∀ z (hz : z < d.nodes.length), fitAt d l d.nodes[z].id S[p] S[q] := fun p hp hpi q hq z hz => by
    by_cases e : p < i
    · exact hPSA1 p hp e q hq z hz
    · obtain rfl : p = i := by omega
      exact hPSB1 q (by omega) (by omega) z hz
  exact ⟨mA - 1, [], [], _, _, by omega, don, (i + 1), don, don, rfl, rfl⟩
  have q : dB (peaceP d l) = true := dB_yes (hpe.2 fun n hn p hp q hq => by
    obtain ⟨z, hz, rfl⟩ := List.mem_iff_getElem.1 hn
    exact hPSA1 p hp (by omega) q hq z hz)
  exact ⟨[], [], don⟩
  all_goals intros; omega
end Go.Proofs.YtecnmodeggnjoaaGreat.Ac
