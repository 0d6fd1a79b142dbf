/- Several of our texts, one behind the other, without what this claim does not need: Lh, Wl, Wm. -/
import Derived.Test.YtecnmodeggnjoaaGreatZ2e4902f1
import Derived.Test.YtecnmodeggnjoaaGreatZ411b082b
import Derived.Test.YtecnmodeggnjoaaGreatZdecfb37c
import Derived.Test.YtecnmodeggnjoaaGreatZe0d619a2
set_option linter.unusedVariables false
set_option linter.unusedSimpArgs false
set_option maxRecDepth 20000
set_option maxHeartbeats 20000000
namespace Go.Proofs.YtecnmodeggnjoaaGreat.Ac
open Go.RowKit
theorem fmap_mapL {α : Type} {f : α → List L} {g : α → List A} (h : ∀ x, (f x).map A.f = g x) (l : List α) : (l.map f).map (·.map A.f) = l.map g := by
  rw [List.map_map]; exact List.map_congr_left fun x _ => h x
theorem RepL.pre {h : Array Obj} {O : Nat → Prop} {x y : List L} {u : Value} (hx : x ≠ []) (r : RepL h O (.pv (x ++ y)) u) : RepL h O (.pv x) u := by
  cases r with
  | pv _ b off c ty fr he hb hO hs hr =>
    refine .pv x b off c ty fr hx hb hO (by rw [List.length_append] at hs; omega) fun j z hz => hr j z ?_
    rw [List.getElem?_append_left ((List.getElem?_eq_some_iff.1 hz).1)]; exact hz
theorem pre_v {h : Array Obj} {H : Hp} {φ : Phi} {x y : List L} {u : Value} (hx : x ≠ []) (r : RepV h H φ false [.f (.pv (x ++ y))] u) : RepV h H φ false [.f (.pv x)] u := by
  obtain ⟨z, hz, hr⟩ := r
  cases hz
  cases hr with
  | f _ _ r => exact ⟨_, rfl, .f _ _ (r.pre hx)⟩
section
variable {P : Program} {f : FuncId} {H1 : Hs} {res : List (Bool × List A)}
theorem FC.p1 {x : List L} (y : List L) {rest : List (Bool × List L)} (hx : x ≠ []) (c : FC P f ((false, [.pv x]) :: rest) H1 res) : FC P f ((false, [.pv (x ++ y)]) :: rest) H1 res :=
  ⟨c.cl, c.dom, c.inn, fun φ w us hok r => c.calls φ w us hok (by
    cases us with
    | nil => exact r.elim
    | cons u us => exact ⟨pre_v hx r.1, r.2⟩)⟩
theorem FC.p2 {a : Bool × List L} {x : List L} (y : List L) {rest : List (Bool × List L)} (hx : x ≠ []) (c : FC P f (a :: (false, [.pv x]) :: rest) H1 res) : FC P f (a :: (false, [.pv (x ++ y)]) :: rest) H1 res :=
  ⟨c.cl, c.dom, c.inn, fun φ w us hok r => c.calls φ w us hok (by
    cases us with
    | nil => exact r.elim
    | cons u us => cases us with
      | nil => exact r.2.elim
      | cons v us => exact ⟨r.1, pre_v hx r.2.1, r.2.2⟩)⟩
end
def htD (x : Ht) : List L := [iL x.clock, iL x.lease, iL x.next, ses x.sessions, hos x.table.holds, hos x.table.waits, evs x.events]
def htT (x : Ht) : List L := [evs x.events]
theorem growHo_ok (n : Nat) (hn : n < 2 ^ 28) : GCalls Tryz.prog 335 [] [(false, [.nl]), (false, [.f (iL n)])] [(1000, some ⟨0, 3, (List.replicate n (⟨0, 0, 0⟩ : Ho)).map hoW⟩)] [(false, [.row 1000 0 0])] := by
  by_cases k : n = 0
  · subst k
    refine gr Tryz.func335 Tryz.ntmps335 (⟨cl_hos _, trivial⟩) ?_
    refine ⟨fun h => absurd h (by omega), fun h => nx ?_⟩
    refine ⟨fun h => absurd h (by decide), fun h => nx ?_⟩
    exact ⟨[], [(1000, 7)], don⟩
  · refine gr Tryz.func335 Tryz.ntmps335 (⟨cl_hos _, trivial⟩) ?_
    refine ⟨fun h => absurd h (by omega), fun h => nx ?_⟩
    have hw : IntKind.i64.wrap ((n : Int) - IntKind.i64.wrap (0 - 0)) = n := by rw [show IntKind.i64.wrap (0 - 0) = 0 from rfl, IntKind.wrap_i64]; omega
    rw [hw]
    refine ⟨fun h => nx ?_, fun h => absurd h (fun w => w (by omega))⟩
    refine ⟨⟨rfl, rfl⟩, nx ?_⟩
    refine ⟨(n, (List.replicate n (⟨0, 0, 0⟩ : Ho)).map hoW), ⟨rfl, by omega, by rw [List.map_replicate]; rfl⟩, nx ?_⟩
    refine ⟨by simp; omega, nx ?_⟩
    refine ⟨(0, 0), ⟨rfl, rfl, Nat.le_refl _, .inl (Nat.zero_le _)⟩, nx ?_⟩
    exact ⟨[], [(1000, 368)], don⟩
theorem flat_take {α : Type} {L : List (List α)} {i : Nat} (hi : i < L.length) : (L.take (i + 1)).flatten = (L.take i).flatten ++ L[i] := by
  rw [List.take_succ_eq_append_getElem hi, List.flatten_append]; simp
theorem flat_le {α : Type} {L : List (List α)} {i : Nat} : (L.take i).flatten.length ≤ L.flatten.length := by
  conv => rhs; rw [← List.take_append_drop i L]
  rw [List.flatten_append, List.length_append]; omega
theorem app_rowT {α : Type} (f : α → List A) (l u m : List α) : ((l ++ u).map f).take l.length ++ m.map f = (l ++ m ++ []).map f := by
  rw [List.map_append, List.take_append_of_le_length (by simp), List.take_of_length_le (by simp)]; simp
theorem concat_ok (L : List (List Ho)) (h0 : L ≠ []) (hL : L.length < 2 ^ 28) (hF : L.flatten.length < 2 ^ 28) : FC Tryz.prog 272 [(false, [.sl 1 (L.map fun a => [hos a])])] [(1000, some ⟨0, 3, L.flatten.map hoW⟩)] [(false, [.row 1000 0 L.flatten.length])] := by
  have hlen : ((L.map fun a => [hos a]).length : Int) = L.length := by rw [List.length_map]
  have hpos : 0 < L.length := List.length_pos_iff.2 h0
  have hgr := growHo_ok L.flatten.length hF
  refine gr Tryz.func272 Tryz.ntmps272 (⟨cl_hos _, trivial⟩) ?_
  rw [hlen]
  (refine ⟨fun m es hs => ∃ (i : Nat), (m + i = L.length) ∧ es = [(11, .val false [.f (iL i)]), (10, .val false [.f (iL L.length)]), (9, .val false [.f (.sl 1 (L.map fun a => [hos a]))]), (3, .val false [.f (iL ((L.take i).flatten.length : Nat))]), (0, .val false [.f (.sl 1 (L.map fun a => [hos a]))])] ∧ hs = [], ⟨L.length, [], [], _, _, don, 0, don, rfl, rfl⟩, ?_⟩; rintro m _ _ ⟨i, hCCA0, rfl, rfl⟩; refine nx ?_)
  refine ⟨fun h => nx ?_, fun h => nx ?_⟩
  have hi : i < L.length := by omega
  have hft := flat_take hi
  have hfl := flat_le (L := L) (i := i + 1)
  have hfl2 : (L.take (i + 1)).flatten.length = (L.take i).flatten.length + L[i].length := by rw [hft, List.length_append]
  have hw : IntKind.i64.wrap (((L.take i).flatten.length : Nat) + ((L[i].map hoL).length : Nat) : Int) = ((L.take (i + 1)).flatten.length : Nat) := by rw [IntKind.wrap_i64, List.length_map]; omega
  refine ⟨(i, [hos L[i]]), ⟨rfl, by simp [hi]⟩, nx ?_⟩
  refine ⟨fun h => absurd h (by rw [hw]; omega), fun h => nx ?_⟩
  exact ⟨m - 1, [], [], _, _, by omega, don, (i + 1), don, rfl, rfl⟩
  have hi : L.length ≤ i := by omega
  rw [List.take_of_length_le hi]
  refine ⟨⟨false, [], _, _, _, _⟩, hgr, cd ?_⟩
  rw [hlen]
  (refine ⟨fun m es hs => ∃ (i : Nat) (tl : List Ho), (m + i = L.length) ∧ (0 < i → tl = []) ∧ es = [(27, .val false [.f (iL i)]), (26, .val false [.f (iL L.length)]), (25, .val false [.f (.sl 1 (L.map fun a => [hos a]))]), (6, .val false [.row 3 0 (L.take i).flatten.length])] ∧ hs = [(3, some ⟨0, 3, ((L.take i).flatten ++ tl).map hoW⟩)], ⟨L.length, [], [(3, 400)], _, _, don, 0, (List.replicate L.flatten.length ⟨0, 0, 0⟩), don, don, rfl, rfl⟩, ?_⟩; rintro m _ _ ⟨i, tl, hCCB0, hCCB1, rfl, rfl⟩; refine nx ?_)
  refine ⟨fun h => nx ?_, fun h => nx ?_⟩
  have hi : i < L.length := by omega
  have hft := flat_take hi
  have hfl := flat_le (L := L) (i := i + 1)
  have hfl2 : (L.take (i + 1)).flatten.length = (L.take i).flatten.length + L[i].length := by rw [hft, List.length_append]
  refine ⟨(i, [hos L[i]]), ⟨rfl, by simp [hi]⟩, nx ?_⟩
  refine ⟨L[i].map hoW, fmap_mapL (fun _ => rfl) L[i], nx ?_⟩
  refine ⟨((L.take (i + 1)).flatten ++ []).map hoW, ⟨by rw [hft]; exact app_rowT hoW _ _ _, by rw [List.append_nil, List.length_map]; omega⟩, nx ?_⟩
  have q : (List.map hoW ((L.take (i + 1)).flatten ++ [])).length = (L.take (i + 1)).flatten.length := by rw [List.append_nil, List.length_map]
  exact ⟨m - 1, [], [(3, 544)], _, _, by omega, don, (i + 1), ([]), don, don, rfl, rfl⟩
  have hi : L.length ≤ i := by omega
  have ht := hCCB1 (by omega)
  rw [List.take_of_length_le hi, ht, List.append_nil]
  exact ⟨[], [(1000, 3)], don⟩
theorem session1_ok (x : Se) (s : Int) : FC Tryz.prog 216 [(true, seL x), (false, [.pv [iL s]])] [] [(false, [.f (bL (decide (x.id = s)))])] := by
  by_cases k : x.id = s
  · have q := b_true k
    refine gr Tryz.func216 Tryz.ntmps216 trivial ?_
    refine ⟨fun h => nx ?_, fun h => absurd h (fun w => w k)⟩
    exact ⟨[], [], don⟩
  · have q := b_false k
    refine gr Tryz.func216 Tryz.ntmps216 trivial ?_
    refine ⟨fun h => absurd h (k), fun h => nx ?_⟩
    exact ⟨[], [], don⟩
def seF (l : List Se) (s : Int) : Int := ixP (fun x : Se => decide (x.id = s)) 0 l
def HasS (l : List Se) (s : Int) : Prop := ∃ x ∈ l, x.id = s
theorem se_at (l : List Se) (s : Int) : (seF l s < 0 ∧ ¬ HasS l s) ∨ ∃ k, ∃ h : k < l.length, seF l s = (k : Int) ∧ l[k].id = s := by
  rcases ixP_at (p := fun x : Se => decide (x.id = s)) l 0 with ⟨h1, h2⟩ | ⟨k, hk, h1, h2, h3⟩
  · exact .inl ⟨by unfold seF; omega, fun ⟨x, hx, e⟩ => by have := h2 x hx; simp [e] at this⟩
  · exact .inr ⟨k, hk, by unfold seF; rw [h1, Nat.zero_add], by simpa using h2⟩
theorem se_neg (l : List Se) (s : Int) : seF l s < 0 ↔ ¬ HasS l s := by
  rcases se_at l s with ⟨h1, h2⟩ | ⟨k, hk, h1, h2⟩
  · exact ⟨fun _ => h2, fun _ => h1⟩
  · exact ⟨fun h => by omega, fun h => absurd ⟨l[k], List.getElem_mem _, h2⟩ h⟩
theorem session_no (x : Ht) (s : Int) (hl : x.sessions.length < 2 ^ 62) (hs : seF x.sessions s < 0) : FC Tryz.prog 131 [(false, [.pv (htL x)]), (false, [iL s])] [] [(false, [.f (.v (.pointer none))])] := by
  have hx := ixfSession_ok x.sessions 216 (.pv [iL s]) (fun x : Se => decide (x.id = s)) hl fun x hx => session1_ok x s
  refine gr Tryz.func131 Tryz.ntmps131 trivial ?_
  refine ⟨⟨true, [], _, _, _, _⟩, hx, cd ?_⟩
  refine ⟨fun h => nx ?_, fun h => absurd h (fun w => w hs)⟩
  exact ⟨[], [], don⟩
theorem session_yes (x : Ht) (s : Int) (hl : x.sessions.length < 2 ^ 62) (k : Nat) (hk : k < x.sessions.length) (h : seF x.sessions s = (k : Int)) : FC Tryz.prog 131 [(false, [.pv (htL x)]), (false, [iL s])] [] [(false, [.f (.pv (seL x.sessions[k]))])] := by
  have hx := ixfSession_ok x.sessions 216 (.pv [iL s]) (fun x : Se => decide (x.id = s)) hl fun x hx => session1_ok x s
  have h' : ixP (fun x : Se => decide (x.id = s)) 0 x.sessions = (k : Int) := h
  rw [h'] at hx
  refine gr Tryz.func131 Tryz.ntmps131 trivial ?_
  refine ⟨⟨true, [], _, _, _, _⟩, hx, cd ?_⟩
  refine ⟨fun h => absurd h (by omega), fun h => nx ?_⟩
  refine ⟨(k, seL x.sessions[k]), ⟨rfl, by simp [hk]⟩, nx ?_⟩
  exact ⟨[], [], don⟩
theorem l09At_ok (x : Ht) (s : Int) (hl : x.sessions.length < 2 ^ 62) : FC Tryz.prog 129 [(true, htL x), (false, [iL s])] [] [(false, [.f (iL (seF x.sessions s))])] := by
  have h0 : ixP (fun x : Se => decide (x.id = s)) 0 (x.sessions.drop 0) = seF x.sessions s := rfl
  refine gr Tryz.func129 Tryz.ntmps129 trivial ?_
  (refine ⟨fun m es hs => ∃ (i : Nat), (m + i = x.sessions.length) ∧ (ixP (fun x : Se => decide (x.id = s)) i (x.sessions.drop i) = seF x.sessions s) ∧ es = [(5, .val false [.f (iL i)]), (2, .val false [.pt 48 0 0]), (1, .val false [.f (iL s)])] ∧ hs = [(48, some ⟨3, 11, [(htL x).map .f]⟩)], ⟨x.sessions.length, [], [], _, _, don, 0, don, don, rfl, rfl⟩, ?_⟩; rintro m _ _ ⟨i, hHAT0, hHAT1, rfl, rfl⟩; refine nx ?_)
  refine ⟨fun h => nx ?_, fun h => nx ?_⟩
  have hi : i < x.sessions.length := by simpa using h
  rw [List.drop_eq_getElem_cons hi, ixP_cons] at hHAT1
  refine ⟨(i, seL x.sessions[i]), ⟨rfl, by simp [hi]⟩, nx ?_⟩
  by_cases k : x.sessions[i].id = s
  · rw [if_pos (by simpa using k)] at hHAT1
    refine ⟨fun h => nx ?_, fun h => absurd h (fun w => w k)⟩
    exact ⟨[], [], don⟩
  · rw [if_neg (by simpa using k)] at hHAT1
    refine ⟨fun h => absurd h (k), fun h => nx ?_⟩
    exact ⟨m - 1, [], [], _, _, by omega, don, (i + 1), don, don, rfl, rfl⟩
  have hi : x.sessions.length ≤ i := by simpa using h
  rw [List.drop_eq_nil_of_le hi] at hHAT1
  have q : (-1 : Int) = seF x.sessions s := hHAT1
  exact ⟨[], [], don⟩
theorem isCode_ok (c : Int) : FC Tryz.prog 197 [(false, [iL c])] [] [(false, [.f (bL (decide (0 ≤ c ∧ c ≤ 21)))])] := by
  refine gr Tryz.func197 Tryz.ntmps197 trivial ?_
  refine ⟨([], _), within_ok c 0 21, nx ?_⟩
  exact ⟨[], [], don⟩
def ZeroP (d : Dc) : Prop := d.root = 0 ∧ d.next = 0 ∧ d.nodes = []
theorem isZero_ok (d : Dc) (hl : d.nodes.length < 2 ^ 62) : FC Tryz.prog 275 [(true, dcL d)] [] [(false, [.f (bL (dB (ZeroP d)))])] := by
  have hlen : ((d.nodes.map ndL).length : Int) = d.nodes.length := by rw [List.length_map]
  have hz : d.nodes = [] ↔ (d.nodes.length : Int) = 0 := by rw [← List.length_eq_zero_iff]; omega
  by_cases k1 : d.root = 0
  case neg =>
    have q : dB (ZeroP d) = false := dB_no fun w => k1 w.1
    refine gr Tryz.func275 Tryz.ntmps275 trivial ?_
    refine ⟨fun h => absurd h (k1), fun h => nx ?_⟩
    exact ⟨[], [], don⟩
  by_cases k2 : d.next = 0
  case neg =>
    have q : dB (ZeroP d) = false := dB_no fun w => k2 w.2.1
    refine gr Tryz.func275 Tryz.ntmps275 trivial ?_
    refine ⟨fun h => nx ?_, fun h => absurd h (fun w => w k1)⟩
    refine ⟨fun h => absurd h (k2), fun h => nx ?_⟩
    exact ⟨[], [], don⟩
  by_cases k3 : (d.nodes.length : Int) = 0
  case neg =>
    have q : dB (ZeroP d) = false := dB_no fun w => k3 (hz.1 w.2.2)
    refine gr Tryz.func275 Tryz.ntmps275 trivial ?_
    refine ⟨fun h => nx ?_, fun h => absurd h (fun w => w k1)⟩
    refine ⟨fun h => nx ?_, fun h => absurd h (fun w => w k2)⟩
    rw [hlen]
    refine ⟨fun h => absurd h (k3), fun h => nx ?_⟩
    exact ⟨[], [], don⟩
  have q : dB (ZeroP d) = true := dB_yes ⟨k1, k2, hz.2 k3⟩
  refine gr Tryz.func275 Tryz.ntmps275 trivial ?_
  refine ⟨fun h => nx ?_, fun h => absurd h (fun w => w k1)⟩
  refine ⟨fun h => nx ?_, fun h => absurd h (fun w => w k2)⟩
  rw [hlen]
  refine ⟨fun h => nx ?_, fun h => absurd h (fun w => w k3)⟩
  exact ⟨[], [], don⟩
end Go.Proofs.YtecnmodeggnjoaaGreat.Ac
set_option linter.unusedVariables false
set_option linter.unusedSimpArgs false
set_option maxRecDepth 20000
set_option maxHeartbeats 2000000
namespace Go.Proofs.YtecnmodeggnjoaaGreat.Ac
open Go.RowKit
theorem eqIntS_refl (x : List Int) (hx : x.length < 2 ^ 62) : FC Tryz.prog 22 [(false, [ints x]), (false, [ints x])] [] [(false, [.f (bL true)])] := by
  refine en Tryz.func22 Tryz.ntmps22 trivial ?_
  refine nw ?_
  refine ⟨fun h => absurd rfl h, fun h => ?_⟩
  refine nw ?_
  refine ⟨fun (m : Nat) (es : Es) (hs : Hs) => ∃ i : Nat, m + i = x.length ∧ es = [(5, .val false [.f (iL i)]), (1, .val false [.f (ints x)]), (0, .val false [.f (ints x)])] ∧ hs = [],
    ⟨x.length, [], [], _, _, ⟨?_, ?_, ?_⟩, 0, rfl, rfl, rfl⟩, ?_⟩
  · rfl
  · exact tel
  · exact tel
  rintro m es hs ⟨i, hm, rfl, rfl⟩
  refine nw ?_
  refine ⟨fun h => ?_, fun h => ?_⟩
  · have hi : i < x.length := by simpa using h
    refine nw ?_
    refine ⟨by kernel_rfl, ?_⟩
    refine nw ?_
    refine ⟨(i, intE x[i]), ⟨rfl, by simp [hi]⟩, ?_⟩
    refine nw ?_
    refine ⟨(i, intE x[i]), ⟨rfl, by simp [hi]⟩, ?_⟩
    refine nw ?_
    refine ⟨fun k => absurd rfl k, fun k => ?_⟩
    refine nw ?_
    refine ⟨by kernel_rfl, ?_⟩
    refine nw ?_
    refine ⟨m - 1, [], [], [(5, .val false [.f (iL (i + 1 : Nat))]), (1, .val false [.f (ints x)]), (0, .val false [.f (ints x)])], [], by omega, ⟨?_, ?_, ?_⟩, i + 1, by omega, rfl, rfl⟩
    · rfl
    · refine tel1 ?_
      exact wrap_suc (by omega)
    · exact tel
  · refine nw ?_
    refine ⟨[], [], ?_⟩
    exact tel
theorem eqNode_refl (n : Nd) (hk : n.kids.length < 2 ^ 62) : FC Tryz.prog 169 [(true, ndL n), (true, ndL n)] [] [(false, [.f (bL true)])] := by
  refine en Tryz.func169 Tryz.ntmps169 trivial ?_
  refine nw ?_
  refine ⟨fun h => absurd rfl h, fun h => ?_⟩
  refine nw ?_
  refine ⟨fun h => absurd rfl h, fun h => ?_⟩
  refine nw ?_
  refine ⟨fun h => absurd rfl h, fun h => ?_⟩
  refine nw ?_
  refine ⟨fun h => absurd rfl h, fun h => ?_⟩
  refine nw ?_
  refine ⟨([], _), eqIntS_refl n.kids hk, ?_⟩
  refine nw ?_
  refine ⟨[], [], ?_⟩
  exact tel
theorem eqNodeS_refl (x : List Nd) (hx : x.length < 2 ^ 62) (hk : ∀ n ∈ x, n.kids.length < 2 ^ 62) : FC Tryz.prog 85 [(false, [nds x]), (false, [nds x])] [] [(false, [.f (bL true)])] := by
  refine en Tryz.func85 Tryz.ntmps85 trivial ?_
  refine nw ?_
  refine ⟨fun h => absurd rfl h, fun h => ?_⟩
  refine nw ?_
  refine ⟨fun (m : Nat) (es : Es) (hs : Hs) => ∃ i : Nat, m + i = x.length ∧ es = [(5, .val false [.f (iL i)]), (1, .val false [.f (nds x)]), (0, .val false [.f (nds x)])] ∧ hs = [],
    ⟨x.length, [], [], _, _, ⟨?_, ?_, ?_⟩, 0, rfl, rfl, rfl⟩, ?_⟩
  · rfl
  · exact tel
  · exact tel
  rintro m es hs ⟨i, hm, rfl, rfl⟩
  refine nw ?_
  refine ⟨fun h => ?_, fun h => ?_⟩
  · have hi : i < x.length := by simpa using h
    refine nw ?_
    refine ⟨by kernel_rfl, ?_⟩
    refine nw ?_
    refine ⟨(i, ndL x[i]), ⟨rfl, by simp [hi]⟩, ?_⟩
    refine nw ?_
    refine ⟨(i, ndL x[i]), ⟨rfl, by simp [hi]⟩, ?_⟩
    refine nw ?_
    refine ⟨([], _), eqNode_refl x[i] (hk _ (List.getElem_mem _)), ?_⟩
    refine nw ?_
    refine ⟨by kernel_rfl, ?_⟩
    refine nw ?_
    refine ⟨m - 1, [], [], [(5, .val false [.f (iL (i + 1 : Nat))]), (1, .val false [.f (nds x)]), (0, .val false [.f (nds x)])], [], by omega, ⟨?_, ?_, ?_⟩, i + 1, by omega, rfl, rfl⟩
    · rfl
    · refine tel1 ?_
      exact wrap_suc (by omega)
    · exact tel
  · refine nw ?_
    refine ⟨[], [], ?_⟩
    exact tel
theorem eqDoc_refl (d : Dc) (hx : d.nodes.length < 2 ^ 62) (hk : ∀ n ∈ d.nodes, n.kids.length < 2 ^ 62) : FC Tryz.prog 23 [(true, dcL d), (true, dcL d)] [] [(false, [.f (bL true)])] := by
  refine en Tryz.func23 Tryz.ntmps23 trivial ?_
  refine nw ?_
  refine ⟨fun h => absurd rfl h, fun h => ?_⟩
  refine nw ?_
  refine ⟨fun h => absurd rfl h, fun h => ?_⟩
  refine nw ?_
  refine ⟨([], _), eqNodeS_refl d.nodes hx hk, ?_⟩
  refine nw ?_
  refine ⟨[], [], ?_⟩
  exact tel
theorem szIntS_ok (x : List Int) (left : Int) (h0 : 0 ≤ left ∧ left ≤ 2 ^ 20) (hx : x.length < 2 ^ 63) : FC Tryz.prog 241 [(false, [ints x]), (false, [iL left])] [] [(false, [.f (iL (szL x.length left))])] := by
  have hw : IntKind.i64.wrap (left - ((x.map intE).length : Int)) = left - x.length := by rw [IntKind.wrap_i64]; simp; omega
  refine en Tryz.func241 Tryz.ntmps241 trivial ?_
  refine nw ?_
  rw [hw]
  refine ⟨fun h => ?_, fun h => ?_⟩
  · refine nw ?_
    refine ⟨[], [], ?_⟩
    refine tel1 ?_
    unfold szL; rw [if_neg (by omega)]
  · refine nw ?_
    refine ⟨[], [], ?_⟩
    refine tel1 ?_
    unfold szL; rw [if_pos (by omega)]
theorem szNode_ok (n : Nd) (left : Int) (h0 : 0 ≤ left ∧ left ≤ 2 ^ 20) (hs : n.text.size < 2 ^ 63) (hk : n.kids.length < 2 ^ 63) : FC Tryz.prog 157 [(true, ndL n), (false, [iL left])] [] [(false, [.f (iL (szL (szN n) left))])] := by
  have hw : IntKind.i64.wrap (left - (n.text.size : Int)) = left - n.text.size := by rw [IntKind.wrap_i64]; omega
  refine en Tryz.func157 Tryz.ntmps157 trivial ?_
  refine nw ?_
  rw [hw]
  refine ⟨fun h => ?_, fun h => ?_⟩
  · refine nw ?_
    refine ⟨[], [], ?_⟩
    refine tel1 ?_
    unfold szL szN; rw [if_neg (by omega)]
  · refine nw ?_
    have hc := szIntS_ok n.kids (left - n.text.size) (by omega) hk
    refine ⟨([], _), hc, ?_⟩
    refine nw ?_
    refine ⟨fun h => ?_, fun h => ?_⟩
    · refine nw ?_
      refine ⟨[], [], ?_⟩
      refine tel1 ?_
      unfold szL at h ⊢
      unfold szN
      split at h <;> omega
    · refine nw ?_
      refine ⟨[], [], ?_⟩
      refine tel1 ?_
      unfold szL at h ⊢
      unfold szN
      split at h <;> omega
theorem szNodeS_ok (x : List Nd) (left : Int) (h0 : 0 ≤ left ∧ left ≤ 2 ^ 20) (hx : x.length < 2 ^ 63) (hs : ∀ n ∈ x, n.text.size < 2 ^ 63) (hk : ∀ n ∈ x, n.kids.length < 2 ^ 63) : FC Tryz.prog 74 [(false, [nds x]), (false, [iL left])] [] [(false, [.f (iL (szL (x.length + szNs x) left))])] := by
  have hw : IntKind.i64.wrap (left - ((x.map ndL).length : Int)) = left - x.length := by rw [IntKind.wrap_i64]; simp; omega
  refine en Tryz.func74 Tryz.ntmps74 trivial ?_
  refine nw ?_
  rw [hw]
  refine ⟨fun h => ?_, fun h => ?_⟩
  · refine nw ?_
    refine ⟨[], [], ?_⟩
    refine tel1 ?_
    unfold szL; rw [if_neg (by omega)]
  · have h1 := h
    refine nw ?_
    refine ⟨fun (m : Nat) (es : Es) (hs : Hs) => ∃ (i : Nat) (lf : Int), m + i = x.length ∧ 0 ≤ lf ∧ lf ≤ 2 ^ 20 ∧ szL (szNs (x.drop i)) lf = szL (x.length + szNs x) left ∧ es = [(5, .val false [.f (iL i)]), (1, .val false [.f (iL lf)]), (0, .val false [.f (nds x)])] ∧ hs = [],
      ⟨x.length, [], [], _, _, ⟨?_, ?_, ?_⟩, 0, left - x.length, rfl, by omega, by omega, ?_, rfl, rfl⟩, ?_⟩
    · rfl
    · exact tel
    · exact tel
    · rw [List.drop_zero]; unfold szL; split <;> split <;> omega
    rintro m es hs' ⟨i, lf, hm, hl0, hl1, hsz, rfl, rfl⟩
    refine nw ?_
    refine ⟨fun h => ?_, fun h => ?_⟩
    · have hi : i < x.length := by simpa using h
      rw [List.drop_eq_getElem_cons hi, szNs_cons] at hsz
      have hc := szNode_ok x[i] lf ⟨hl0, hl1⟩ (hs _ (List.getElem_mem _)) (hk _ (List.getElem_mem _))
      refine nw ?_
      refine ⟨(i, ndL x[i]), ⟨rfl, by simp [hi]⟩, ?_⟩
      refine nw ?_
      refine ⟨([], _), hc, ?_⟩
      refine nw ?_
      refine ⟨fun h => ?_, fun h => ?_⟩
      · refine nw ?_
        refine ⟨[], [], ?_⟩
        refine tel1 ?_
        rw [← hsz]
        unfold szL at h ⊢
        split at h <;> omega
      · refine nw ?_
        refine ⟨m - 1, [], [], [(5, .val false [.f (iL (i + 1 : Nat))]), (1, .val false [.f (iL (szL (szN x[i]) lf))]), (0, .val false [.f (nds x)])], [], by omega, ⟨?_, ?_, ?_⟩, i + 1, szL (szN x[i]) lf, by omega, by omega, ?_, ?_, rfl, rfl⟩
        · rfl
        · refine tel1 ?_
          exact wrap_suc (by have := Int.not_lt.1 h1; omega)
        · exact tel
        · unfold szL; split <;> omega
        · rw [← hsz]
          unfold szL at h ⊢
          split at h <;> split <;> split <;> omega
    · have hi : x.length ≤ i := by simpa using h
      refine nw ?_
      refine ⟨[], [], ?_⟩
      refine tel1 ?_
      rw [← hsz, List.drop_eq_nil_of_le hi]
      unfold szL szNs
      simp; omega
theorem szDoc_ok (d : Dc) (left : Int) (h0 : 0 ≤ left ∧ left ≤ 2 ^ 20) (hx : d.nodes.length < 2 ^ 63) (hs : ∀ n ∈ d.nodes, n.text.size < 2 ^ 63) (hk : ∀ n ∈ d.nodes, n.kids.length < 2 ^ 63) : FC Tryz.prog 15 [(true, dcL d), (false, [iL left])] [] [(false, [.f (iL (szL (szD d) left))])] := by
  refine en Tryz.func15 Tryz.ntmps15 trivial ?_
  refine nw ?_
  refine ⟨([], _), szNodeS_ok d.nodes left h0 hx hs hk, ?_⟩
  refine nw ?_
  refine ⟨fun h => ?_, fun h => ?_⟩
  · refine nw ?_
    refine ⟨[], [], ?_⟩
    refine tel1 ?_
    unfold szL at h ⊢
    unfold szD
    split at h <;> omega
  · refine nw ?_
    refine ⟨[], [], ?_⟩
    exact tel
end Go.Proofs.YtecnmodeggnjoaaGreat.Ac
set_option linter.unusedVariables false
set_option linter.unusedSimpArgs false
set_option maxRecDepth 20000
set_option maxHeartbeats 2000000
namespace Go.Proofs.YtecnmodeggnjoaaGreat.Ac
open Go.RowKit
theorem fill_set {α : Type} {f : α → List A} {z : List A} {x : List α} {i : Nat} (hi : i < x.length) : (((x.take i).map f) ++ List.replicate (x.length - i) z).set i (f x[i]) = (x.take (i + 1)).map f ++ List.replicate (x.length - (i + 1)) z := by
  have h1 : ((x.take i).map f).length = i := by simp; omega
  rw [List.set_append_right _ _ (by omega), h1, Nat.sub_self, show x.length - i = (x.length - (i + 1)) + 1 by omega, List.replicate_succ, List.set_cons_zero, List.take_succ_eq_append_getElem hi, List.map_append, List.append_assoc]
  rfl
theorem fill_get {α : Type} {f : α → List A} {z : List A} {x : List α} {i : Nat} (hi : i < x.length) : (((x.take i).map f) ++ List.replicate (x.length - i) z)[i]? = some z := by
  have h1 : ((x.take i).map f).length = i := by simp; omega
  rw [List.getElem?_append_right (by omega), h1, Nat.sub_self, show x.length - i = (x.length - (i + 1)) + 1 by omega, List.replicate_succ]
  rfl
theorem cl_rep {e : List A} (n : Nat) (h : clC e) : clR (List.replicate n e) := by
  induction n with
  | zero => trivial
  | succ n ih => exact ⟨h, ih⟩
theorem toIntS_ok (x : List Int) (hx : x.length < 2 ^ 28) : FC Tryz.prog 248 [(false, [ints x])] [(1000, some ⟨0, 1, x.map intW⟩)] [(false, [.row 1000 0 x.length])] := by
  refine en Tryz.func248 Tryz.ntmps248 (⟨cl_ints _, trivial⟩) ?_
  refine nw ?_
  refine ⟨(x.length, x.length), ⟨by simp, by simp, Nat.le_refl _, by dsimp only; omega⟩, ?_⟩
  refine nw ?_
  refine ⟨fun (m : Nat) (es : Es) (hs : Hs) => ∃ i : Nat, m + i = x.length ∧ es = [(4, .val false [.f (iL i)]), (3, .val false [.row 3 0 x.length]), (0, .val false [.f (ints x)])] ∧ hs = [(3, some ⟨0, 1, (x.take i).map intW ++ List.replicate (x.length - i) (intW 0)⟩)],
    ⟨x.length, [], [(3, 128)], _, _, ⟨?_, ?_, ?_⟩, 0, rfl, rfl, rfl⟩, ?_⟩
  · rfl
  · exact tel
  · refine tel1 ?_
    exact cl_app (cl_ints _) (cl_rep x.length ⟨trivial, trivial⟩)
  rintro m es hs ⟨i, hm, rfl, rfl⟩
  refine nw ?_
  refine ⟨fun h => ?_, fun h => ?_⟩
  · have hi : i < x.length := by simpa using h
    refine nw ?_
    refine ⟨(i, intE x[i]), ⟨rfl, by simp [hi]⟩, ?_⟩
    refine nw ?_
    refine ⟨i, ⟨rfl, hi⟩, ?_⟩
    refine nw ?_
    refine ⟨intW 0, fill_get hi, ?_⟩
    refine nw ?_
    refine ⟨m - 1, [], [], [(4, .val false [.f (iL (i + 1 : Nat))]), (3, .val false [.row 3 0 x.length]), (0, .val false [.f (ints x)])], [(3, some ⟨0, 1, (x.take (i + 1)).map intW ++ List.replicate (x.length - (i + 1)) (intW 0)⟩)], by omega, ⟨?_, ?_, ?_⟩, i + 1, by omega, rfl, rfl⟩
    · rfl
    · refine tel1 ?_
      exact wrap_suc (by omega)
    · refine tel2 ?_ ?_
      · exact fill_set (f := intW) hi
      · exact cl_app (cl_ints _) (cl_rep _ ⟨trivial, trivial⟩)
  · have hi : x.length ≤ i := by simpa using h
    have e : (x.take i).map intW ++ List.replicate (x.length - i) (intW 0) = x.map intW := by rw [List.take_of_length_le hi, show x.length - i = 0 by omega]; simp
    rw [e]
    refine nw ?_
    refine ⟨[], [(1000, 3)], ?_⟩
    exact tel
theorem toNode_ok (n : Nd) (hk : n.kids.length < 2 ^ 28) : FC Tryz.prog 162 [(true, ndL n)] [(1000, some ⟨0, 1, n.kids.map intW⟩)] [(true, [.f (iL n.id), .f (iL n.kind), .f (iL n.attr), .f (sL n.text), .row 1000 0 n.kids.length])] := by
  refine en Tryz.func162 Tryz.ntmps162 (⟨cl_ints _, trivial⟩) ?_
  refine nw ?_
  refine ⟨(_, _), toIntS_ok n.kids hk, ?_⟩
  refine nw ?_
  refine ⟨[], [(1000, 304)], ?_⟩
  exact tel
@[reducible] def zNd : List A := [.f (iL 0), .f (iL 0), .f (iL 0), .f (sL ⟨#[]⟩), .nl]
theorem toNodeS_ok (x : List Nd) (hx : x.length < 2 ^ 28) (hk : ∀ n ∈ x, n.kids.length < 2 ^ 28) : FC Tryz.prog 79 [(false, [nds x])] [(1000, some ⟨0, 5, x.map ndW⟩)] [(false, [.row 1000 0 x.length])] := by
  refine en Tryz.func79 Tryz.ntmps79 (⟨cl_nds _, trivial⟩) ?_
  refine nw ?_
  refine ⟨(x.length, x.length), ⟨by simp, by simp, Nat.le_refl _, by dsimp only; omega⟩, ?_⟩
  refine nw ?_
  refine ⟨fun (m : Nat) (es : Es) (hs : Hs) => ∃ i : Nat, m + i = x.length ∧ es = [(4, .val false [.f (iL i)]), (3, .val false [.row 3 0 x.length]), (0, .val false [.f (nds x)])] ∧ hs = [(3, some ⟨0, 5, (x.take i).map ndW ++ List.replicate (x.length - i) zNd⟩)],
    ⟨x.length, [], [(3, 128)], _, _, ⟨?_, ?_, ?_⟩, 0, rfl, rfl, rfl⟩, ?_⟩
  · rfl
  · exact tel
  · refine tel1 ?_
    exact cl_app (cl_nds _) (cl_rep x.length ⟨trivial, trivial, trivial, trivial, trivial, trivial⟩)
  rintro m es hs ⟨i, hm, rfl, rfl⟩
  refine nw ?_
  refine ⟨fun h => ?_, fun h => ?_⟩
  · have hi : i < x.length := by simpa using h
    refine nw ?_
    refine ⟨(i, ndL x[i]), ⟨rfl, by simp [hi]⟩, ?_⟩
    refine nw ?_
    refine ⟨(_, _), toNode_ok x[i] (hk _ (List.getElem_mem _)), ?_⟩
    refine nw ?_
    refine ⟨i, ⟨rfl, hi⟩, ?_⟩
    refine nw ?_
    refine ⟨zNd, fill_get hi, ?_⟩
    refine nw ?_
    refine ⟨m - 1, [(336, 3, i, 4)], [], [(4, .val false [.f (iL (i + 1 : Nat))]), (3, .val false [.row 3 0 x.length]), (0, .val false [.f (nds x)])], [(3, some ⟨0, 5, (x.take (i + 1)).map ndW ++ List.replicate (x.length - (i + 1)) zNd⟩)], by omega, ?_, i + 1, by omega, rfl, rfl⟩
    refine nw ?_
    refine ⟨_, List.getElem?_set_self (by simp; omega), ?_⟩
    refine nw ?_
    refine ⟨x[i].kids.map intW, by rw [List.take_of_length_le (by simp)], ?_⟩
    refine nw ?_
    refine ⟨?_, ?_, ?_⟩
    · rfl
    · refine tel1 ?_
      exact wrap_suc (by omega)
    · refine tel2 ?_ ?_
      · rw [List.set_set]
        exact fill_set (f := ndW) hi
      · exact cl_app (cl_nds _) (cl_rep _ ⟨trivial, trivial, trivial, trivial, trivial, trivial⟩)
  · have hi : x.length ≤ i := by simpa using h
    have e : (x.take i).map ndW ++ List.replicate (x.length - i) zNd = x.map ndW := by rw [List.take_of_length_le hi, show x.length - i = 0 by omega]; simp
    rw [e]
    refine nw ?_
    refine ⟨[], [(1000, 3)], ?_⟩
    exact tel
theorem toDoc_ok (d : Dc) (hx : d.nodes.length < 2 ^ 28) (hk : ∀ n ∈ d.nodes, n.kids.length < 2 ^ 28) : FC Tryz.prog 18 [(true, dcL d)] [(1000, some ⟨0, 5, d.nodes.map ndW⟩)] [(true, [.f (iL d.root), .f (iL d.next), .row 1000 0 d.nodes.length])] := by
  refine en Tryz.func18 Tryz.ntmps18 (⟨cl_nds _, trivial⟩) ?_
  refine nw ?_
  refine ⟨(_, _), toNodeS_ok d.nodes hx hk, ?_⟩
  refine nw ?_
  refine ⟨[], [(1000, 208)], ?_⟩
  exact tel
end Go.Proofs.YtecnmodeggnjoaaGreat.Ac
