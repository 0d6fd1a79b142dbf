/- Several of our texts, one behind the other, without what this claim does not need: Lh. -/
import Derived.Test.YtchfpgpboifbeaaGreatZ1dd51d36
import Derived.Test.YtchfpgpboifbeaaGreatZc0fb2b0b
set_option linter.unusedVariables false
set_option linter.unusedSimpArgs false
set_option maxRecDepth 20000
set_option maxHeartbeats 20000000
namespace Go.Proofs.YtchfpgpboifbeaaGreat.Ac
open Go.RowKit
theorem fmap_mapL {α : Type} {f : α → List L} {g : α → List A} (h : ∀ x, (f x).map A.f = g x) (l : List α) : (l.map f).map (·.map A.f) = l.map g := by
  rw [List.map_map]; exact List.map_congr_left fun x _ => h x
theorem RepL.pre {h : Array Obj} {O : Nat → Prop} {x y : List L} {u : Value} (hx : x ≠ []) (r : RepL h O (.pv (x ++ y)) u) : RepL h O (.pv x) u := by
  cases r with
  | pv _ b off c ty fr he hb hO hs hr =>
    refine .pv x b off c ty fr hx hb hO (by rw [List.length_append] at hs; omega) fun j z hz => hr j z ?_
    rw [List.getElem?_append_left ((List.getElem?_eq_some_iff.1 hz).1)]; exact hz
theorem pre_v {h : Array Obj} {H : Hp} {φ : Phi} {x y : List L} {u : Value} (hx : x ≠ []) (r : RepV h H φ false [.f (.pv (x ++ y))] u) : RepV h H φ false [.f (.pv x)] u := by
  obtain ⟨z, hz, hr⟩ := r
  cases hz
  cases hr with
  | f _ _ r => exact ⟨_, rfl, .f _ _ (r.pre hx)⟩
section
variable {P : Program} {f : FuncId} {H1 : Hs} {res : List (Bool × List A)}
theorem FC.p1 {x : List L} (y : List L) {rest : List (Bool × List L)} (hx : x ≠ []) (c : FC P f ((false, [.pv x]) :: rest) H1 res) : FC P f ((false, [.pv (x ++ y)]) :: rest) H1 res :=
  ⟨c.cl, c.dom, c.inn, fun φ w us hok r => c.calls φ w us hok (by
    cases us with
    | nil => exact r.elim
    | cons u us => exact ⟨pre_v hx r.1, r.2⟩)⟩
theorem FC.p2 {a : Bool × List L} {x : List L} (y : List L) {rest : List (Bool × List L)} (hx : x ≠ []) (c : FC P f (a :: (false, [.pv x]) :: rest) H1 res) : FC P f (a :: (false, [.pv (x ++ y)]) :: rest) H1 res :=
  ⟨c.cl, c.dom, c.inn, fun φ w us hok r => c.calls φ w us hok (by
    cases us with
    | nil => exact r.elim
    | cons u us => cases us with
      | nil => exact r.2.elim
      | cons v us => exact ⟨r.1, pre_v hx r.2.1, r.2.2⟩)⟩
end
def htD (x : Ht) : List L := [iL x.clock, iL x.lease, iL x.next, ses x.sessions, hos x.table.holds, hos x.table.waits, evs x.events]
def htT (x : Ht) : List L := [evs x.events]
theorem growHo_ok (n : Nat) (hn : n < 2 ^ 28) : GCalls Tryz.prog 259 [] [(false, [.nl]), (false, [.f (iL n)])] [(1000, some ⟨0, 3, (List.replicate n (⟨0, 0, 0⟩ : Ho)).map hoW⟩)] [(false, [.row 1000 0 0])] := by
  by_cases k : n = 0
  · subst k
    refine gcalls_run tbl_ok mixed Tryz.func259 rfl Tryz.ntmps259 (by kernel_rfl) (Nat.le_of_ble_eq_true rfl) rfl rfl (⟨cl_hos _, trivial⟩) ?_; (conv => whnf); (repeat (refine ⟨by kernel_rfl, ?_⟩; (conv => whnf)))
    (refine ⟨fun h => absurd h (by omega), fun h => ?_⟩; (conv => whnf); (repeat (refine ⟨by kernel_rfl, ?_⟩; (conv => whnf))))
    (refine ⟨fun h => absurd h (by decide), fun h => ?_⟩; (conv => whnf); (repeat (refine ⟨by kernel_rfl, ?_⟩; (conv => whnf))))
    (refine ⟨[], [(1000, 7)], ?_⟩; rotate_left)
    all_goals try exact don
  · refine gcalls_run tbl_ok mixed Tryz.func259 rfl Tryz.ntmps259 (by kernel_rfl) (Nat.le_of_ble_eq_true rfl) rfl rfl (⟨cl_hos _, trivial⟩) ?_; (conv => whnf); (repeat (refine ⟨by kernel_rfl, ?_⟩; (conv => whnf)))
    (refine ⟨fun h => absurd h (by omega), fun h => ?_⟩; (conv => whnf); (repeat (refine ⟨by kernel_rfl, ?_⟩; (conv => whnf))))
    have hw : IntKind.i64.wrap ((n : Int) - IntKind.i64.wrap (0 - 0)) = n := by rw [show IntKind.i64.wrap (0 - 0) = 0 from rfl, IntKind.wrap_i64]; omega
    rw [hw]
    (refine ⟨fun h => ?_, fun h => absurd h (fun w => w (by omega))⟩; (conv => whnf); (repeat (refine ⟨by kernel_rfl, ?_⟩; (conv => whnf))))
    (refine ⟨⟨rfl, rfl⟩, ?_⟩; (conv => whnf); (repeat (refine ⟨by kernel_rfl, ?_⟩; (conv => whnf))))
    (refine ⟨(n, (List.replicate n (⟨0, 0, 0⟩ : Ho)).map hoW), ⟨rfl, by omega, by rw [List.map_replicate]; rfl⟩, ?_⟩; (conv => whnf); (repeat (refine ⟨by kernel_rfl, ?_⟩; (conv => whnf))))
    (refine ⟨by simp; omega, ?_⟩; (conv => whnf); (repeat (refine ⟨by kernel_rfl, ?_⟩; (conv => whnf))))
    (refine ⟨(0, 0), ⟨rfl, rfl, Nat.le_refl _, .inl (Nat.zero_le _)⟩, ?_⟩; (conv => whnf); (repeat (refine ⟨by kernel_rfl, ?_⟩; (conv => whnf))))
    (refine ⟨[], [(1000, 368)], ?_⟩; rotate_left)
    all_goals try exact don
theorem flat_take {α : Type} {L : List (List α)} {i : Nat} (hi : i < L.length) : (L.take (i + 1)).flatten = (L.take i).flatten ++ L[i] := by
  rw [List.take_succ_eq_append_getElem hi, List.flatten_append]; simp
theorem flat_le {α : Type} {L : List (List α)} {i : Nat} : (L.take i).flatten.length ≤ L.flatten.length := by
  conv => rhs; rw [← List.take_append_drop i L]
  rw [List.flatten_append, List.length_append]; omega
theorem app_rowT {α : Type} (f : α → List A) (l u m : List α) : ((l ++ u).map f).take l.length ++ m.map f = (l ++ m ++ []).map f := by
  rw [List.map_append, List.take_append_of_le_length (by simp), List.take_of_length_le (by simp)]; simp
theorem concat_ok (L : List (List Ho)) (h0 : L ≠ []) (hL : L.length < 2 ^ 28) (hF : L.flatten.length < 2 ^ 28) : FC Tryz.prog 195 [(false, [.sl 1 (L.map fun a => [hos a])])] [(1000, some ⟨0, 3, L.flatten.map hoW⟩)] [(false, [.row 1000 0 L.flatten.length])] := by
  have hlen : ((L.map fun a => [hos a]).length : Int) = L.length := by rw [List.length_map]
  have hpos : 0 < L.length := List.length_pos_iff.2 h0
  have hgr := growHo_ok L.flatten.length hF
  refine gcalls_run tbl_ok mixed Tryz.func195 rfl Tryz.ntmps195 (by kernel_rfl) (Nat.le_of_ble_eq_true rfl) rfl rfl (⟨cl_hos _, trivial⟩) ?_; (conv => whnf); (repeat (refine ⟨by kernel_rfl, ?_⟩; (conv => whnf)))
  rw [hlen]
  (refine ⟨fun (m : Nat) (es : Es) (hs : Hs) => ∃ (i : Nat), (m + i = L.length) ∧ es = [(11, .val false [.f (iL i)]), (10, .val false [.f (iL L.length)]), (9, .val false [.f (.sl 1 (L.map fun a => [hos a]))]), (3, .val false [.f (iL ((L.take i).flatten.length : Nat))]), (0, .val false [.f (.sl 1 (L.map fun a => [hos a]))])] ∧ hs = [], ⟨L.length, [], [], _, _, ⟨rfl, ?_, ?_⟩, 0, ?_, rfl, rfl⟩, ?_⟩; rotate_left 3; rintro m es hs ⟨i, hCCA0, rfl, rfl⟩; (conv => whnf); (repeat (refine ⟨by kernel_rfl, ?_⟩; (conv => whnf))))
  (refine ⟨fun h => ?_, fun h => ?_⟩ <;> ((conv => whnf); (repeat (refine ⟨by kernel_rfl, ?_⟩; (conv => whnf)))))
  have hi : i < L.length := by omega
  have hft := flat_take hi
  have hfl := flat_le (L := L) (i := i + 1)
  have hfl2 : (L.take (i + 1)).flatten.length = (L.take i).flatten.length + L[i].length := by rw [hft, List.length_append]
  have hw : IntKind.i64.wrap (((L.take i).flatten.length : Nat) + ((L[i].map hoL).length : Nat) : Int) = ((L.take (i + 1)).flatten.length : Nat) := by rw [IntKind.wrap_i64, List.length_map]; omega
  (refine ⟨(i, [hos L[i]]), ⟨rfl, by simp [hi]⟩, ?_⟩; (conv => whnf); (repeat (refine ⟨by kernel_rfl, ?_⟩; (conv => whnf))))
  (refine ⟨fun h => absurd h (by rw [hw]; omega), fun h => ?_⟩; (conv => whnf); (repeat (refine ⟨by kernel_rfl, ?_⟩; (conv => whnf))))
  (refine ⟨m - 1, [], [], [(11, .val false [.f (iL (i + 1))]), (10, .val false [.f (iL L.length)]), (9, .val false [.f (.sl 1 (L.map fun a => [hos a]))]), (3, .val false [.f (iL ((L.take (i + 1)).flatten.length : Nat))]), (0, .val false [.f (.sl 1 (L.map fun a => [hos a]))])], [], by omega, ⟨rfl, ?_, ?_⟩, (i + 1), ?_, rfl, rfl⟩; rotate_left 3)
  have hi : L.length ≤ i := by omega
  rw [List.take_of_length_le hi]
  (refine ⟨⟨false, [], _, _, _, _⟩, hgr, ?_⟩; (conv => whnf); (repeat (refine ⟨by kernel_rfl, ?_⟩; (conv => whnf))); refine ⟨⟨?_, ?_, ?_⟩, ?_⟩; rotate_left 3; (conv => whnf); (repeat (refine ⟨by kernel_rfl, ?_⟩; (conv => whnf))))
  rw [hlen]
  (refine ⟨fun (m : Nat) (es : Es) (hs : Hs) => ∃ (i : Nat) (tl : List Ho), (m + i = L.length) ∧ (0 < i → tl = []) ∧ es = [(27, .val false [.f (iL i)]), (26, .val false [.f (iL L.length)]), (25, .val false [.f (.sl 1 (L.map fun a => [hos a]))]), (6, .val false [.row 3 0 (L.take i).flatten.length])] ∧ hs = [(3, some ⟨0, 3, ((L.take i).flatten ++ tl).map hoW⟩)], ⟨L.length, [], [(3, 400)], _, _, ⟨rfl, ?_, ?_⟩, 0, (List.replicate L.flatten.length ⟨0, 0, 0⟩), ?_, ?_, rfl, rfl⟩, ?_⟩; rotate_left 4; rintro m es hs ⟨i, tl, hCCB0, hCCB1, rfl, rfl⟩; (conv => whnf); (repeat (refine ⟨by kernel_rfl, ?_⟩; (conv => whnf))))
  (refine ⟨fun h => ?_, fun h => ?_⟩ <;> ((conv => whnf); (repeat (refine ⟨by kernel_rfl, ?_⟩; (conv => whnf)))))
  have hi : i < L.length := by omega
  have hft := flat_take hi
  have hfl := flat_le (L := L) (i := i + 1)
  have hfl2 : (L.take (i + 1)).flatten.length = (L.take i).flatten.length + L[i].length := by rw [hft, List.length_append]
  (refine ⟨(i, [hos L[i]]), ⟨rfl, by simp [hi]⟩, ?_⟩; (conv => whnf); (repeat (refine ⟨by kernel_rfl, ?_⟩; (conv => whnf))))
  (refine ⟨L[i].map hoW, fmap_mapL (fun _ => rfl) L[i], ?_⟩; (conv => whnf); (repeat (refine ⟨by kernel_rfl, ?_⟩; (conv => whnf))))
  (refine ⟨((L.take (i + 1)).flatten ++ []).map hoW, ⟨by rw [hft]; exact app_rowT hoW _ _ _, by rw [List.append_nil, List.length_map]; omega⟩, ?_⟩; (conv => whnf); (repeat (refine ⟨by kernel_rfl, ?_⟩; (conv => whnf))))
  have q : (List.map hoW ((L.take (i + 1)).flatten ++ [])).length = (L.take (i + 1)).flatten.length := by rw [List.append_nil, List.length_map]
  (refine ⟨m - 1, [], [(3, 544)], [(27, .val false [.f (iL (i + 1))]), (26, .val false [.f (iL L.length)]), (25, .val false [.f (.sl 1 (L.map fun a => [hos a]))]), (6, .val false [.row 3 0 (L.take (i + 1)).flatten.length])], [(3, some ⟨0, 3, ((L.take (i + 1)).flatten ++ ([])).map hoW⟩)], by omega, ⟨rfl, ?_, ?_⟩, (i + 1), ([]), ?_, ?_, rfl, rfl⟩; rotate_left 4)
  all_goals try exact don
  have hi : L.length ≤ i := by omega
  have ht := hCCB1 (by omega)
  rw [List.take_of_length_le hi, ht, List.append_nil]
  (refine ⟨[], [(1000, 3)], ?_⟩; rotate_left)
  all_goals try exact don
theorem session1_ok (x : Se) (s : Int) : FC Tryz.prog 218 [(true, seL x), (false, [.pv [iL s]])] [] [(false, [.f (bL (decide (x.id = s)))])] := by
  by_cases k : x.id = s
  · have q := b_true k
    refine gcalls_run tbl_ok mixed Tryz.func218 rfl Tryz.ntmps218 (by kernel_rfl) (Nat.le_of_ble_eq_true rfl) rfl rfl trivial ?_; (conv => whnf); (repeat (refine ⟨by kernel_rfl, ?_⟩; (conv => whnf)))
    (refine ⟨fun h => ?_, fun h => absurd h (fun w => w k)⟩; (conv => whnf); (repeat (refine ⟨by kernel_rfl, ?_⟩; (conv => whnf))))
    (refine ⟨[], [], ?_⟩; rotate_left)
    all_goals try exact don
  · have q := b_false k
    refine gcalls_run tbl_ok mixed Tryz.func218 rfl Tryz.ntmps218 (by kernel_rfl) (Nat.le_of_ble_eq_true rfl) rfl rfl trivial ?_; (conv => whnf); (repeat (refine ⟨by kernel_rfl, ?_⟩; (conv => whnf)))
    (refine ⟨fun h => absurd h (k), fun h => ?_⟩; (conv => whnf); (repeat (refine ⟨by kernel_rfl, ?_⟩; (conv => whnf))))
    (refine ⟨[], [], ?_⟩; rotate_left)
    all_goals try exact don
def seF (l : List Se) (s : Int) : Int := ixP (fun x : Se => decide (x.id = s)) 0 l
def HasS (l : List Se) (s : Int) : Prop := ∃ x ∈ l, x.id = s
theorem se_at (l : List Se) (s : Int) : (seF l s < 0 ∧ ¬ HasS l s) ∨ ∃ k, ∃ h : k < l.length, seF l s = (k : Int) ∧ l[k].id = s := by
  rcases ixP_at (p := fun x : Se => decide (x.id = s)) l 0 with ⟨h1, h2⟩ | ⟨k, hk, h1, h2, h3⟩
  · exact .inl ⟨by unfold seF; omega, fun ⟨x, hx, e⟩ => by have := h2 x hx; simp [e] at this⟩
  · exact .inr ⟨k, hk, by unfold seF; rw [h1, Nat.zero_add], by simpa using h2⟩
theorem se_neg (l : List Se) (s : Int) : seF l s < 0 ↔ ¬ HasS l s := by
  rcases se_at l s with ⟨h1, h2⟩ | ⟨k, hk, h1, h2⟩
  · exact ⟨fun _ => h2, fun _ => h1⟩
  · exact ⟨fun h => by omega, fun h => absurd ⟨l[k], List.getElem_mem _, h2⟩ h⟩
theorem session_no (x : Ht) (s : Int) (hl : x.sessions.length < 2 ^ 62) (hs : seF x.sessions s < 0) : FC Tryz.prog 143 [(false, [.pv (htL x)]), (false, [iL s])] [] [(false, [.f (.v (.pointer none))])] := by
  have hx := ixfSession_ok x.sessions 218 (.pv [iL s]) (fun x : Se => decide (x.id = s)) hl fun x hx => session1_ok x s
  refine gcalls_run tbl_ok mixed Tryz.func143 rfl Tryz.ntmps143 (by kernel_rfl) (Nat.le_of_ble_eq_true rfl) rfl rfl trivial ?_; (conv => whnf); (repeat (refine ⟨by kernel_rfl, ?_⟩; (conv => whnf)))
  (refine ⟨⟨true, [], _, _, _, _⟩, hx, ?_⟩; (conv => whnf); (repeat (refine ⟨by kernel_rfl, ?_⟩; (conv => whnf))); refine ⟨⟨?_, ?_, ?_⟩, ?_⟩; rotate_left 3; (conv => whnf); (repeat (refine ⟨by kernel_rfl, ?_⟩; (conv => whnf))))
  (refine ⟨fun h => ?_, fun h => absurd h (fun w => w hs)⟩; (conv => whnf); (repeat (refine ⟨by kernel_rfl, ?_⟩; (conv => whnf))))
  (refine ⟨[], [], ?_⟩; rotate_left)
  all_goals try exact don
theorem session_yes (x : Ht) (s : Int) (hl : x.sessions.length < 2 ^ 62) (k : Nat) (hk : k < x.sessions.length) (h : seF x.sessions s = (k : Int)) : FC Tryz.prog 143 [(false, [.pv (htL x)]), (false, [iL s])] [] [(false, [.f (.pv (seL x.sessions[k]))])] := by
  have hx := ixfSession_ok x.sessions 218 (.pv [iL s]) (fun x : Se => decide (x.id = s)) hl fun x hx => session1_ok x s
  have h' : ixP (fun x : Se => decide (x.id = s)) 0 x.sessions = (k : Int) := h
  rw [h'] at hx
  refine gcalls_run tbl_ok mixed Tryz.func143 rfl Tryz.ntmps143 (by kernel_rfl) (Nat.le_of_ble_eq_true rfl) rfl rfl trivial ?_; (conv => whnf); (repeat (refine ⟨by kernel_rfl, ?_⟩; (conv => whnf)))
  (refine ⟨⟨true, [], _, _, _, _⟩, hx, ?_⟩; (conv => whnf); (repeat (refine ⟨by kernel_rfl, ?_⟩; (conv => whnf))); refine ⟨⟨?_, ?_, ?_⟩, ?_⟩; rotate_left 3; (conv => whnf); (repeat (refine ⟨by kernel_rfl, ?_⟩; (conv => whnf))))
  (refine ⟨fun h => absurd h (by omega), fun h => ?_⟩; (conv => whnf); (repeat (refine ⟨by kernel_rfl, ?_⟩; (conv => whnf))))
  (refine ⟨(k, seL x.sessions[k]), ⟨rfl, by simp [hk]⟩, ?_⟩; (conv => whnf); (repeat (refine ⟨by kernel_rfl, ?_⟩; (conv => whnf))))
  (refine ⟨[], [], ?_⟩; rotate_left)
  all_goals try exact don
theorem l09At_ok (x : Ht) (s : Int) (hl : x.sessions.length < 2 ^ 62) : FC Tryz.prog 141 [(true, htL x), (false, [iL s])] [] [(false, [.f (iL (seF x.sessions s))])] := by
  have h0 : ixP (fun x : Se => decide (x.id = s)) 0 (x.sessions.drop 0) = seF x.sessions s := rfl
  refine gcalls_run tbl_ok mixed Tryz.func141 rfl Tryz.ntmps141 (by kernel_rfl) (Nat.le_of_ble_eq_true rfl) rfl rfl trivial ?_; (conv => whnf); (repeat (refine ⟨by kernel_rfl, ?_⟩; (conv => whnf)))
  (refine ⟨fun (m : Nat) (es : Es) (hs : Hs) => ∃ (i : Nat), (m + i = x.sessions.length) ∧ (ixP (fun x : Se => decide (x.id = s)) i (x.sessions.drop i) = seF x.sessions s) ∧ es = [(5, .val false [.f (iL i)]), (2, .val false [.pt 48 0 0]), (1, .val false [.f (iL s)])] ∧ hs = [(48, some ⟨3, 11, [(htL x).map .f]⟩)], ⟨x.sessions.length, [], [], _, _, ⟨rfl, ?_, ?_⟩, 0, ?_, ?_, rfl, rfl⟩, ?_⟩; rotate_left 4; rintro m es hs ⟨i, hHAT0, hHAT1, rfl, rfl⟩; (conv => whnf); (repeat (refine ⟨by kernel_rfl, ?_⟩; (conv => whnf))))
  (refine ⟨fun h => ?_, fun h => ?_⟩ <;> ((conv => whnf); (repeat (refine ⟨by kernel_rfl, ?_⟩; (conv => whnf)))))
  have hi : i < x.sessions.length := by simpa using h
  rw [List.drop_eq_getElem_cons hi, ixP_cons] at hHAT1
  (refine ⟨(i, seL x.sessions[i]), ⟨rfl, by simp [hi]⟩, ?_⟩; (conv => whnf); (repeat (refine ⟨by kernel_rfl, ?_⟩; (conv => whnf))))
  by_cases k : x.sessions[i].id = s
  · rw [if_pos (by simpa using k)] at hHAT1
    (refine ⟨fun h => ?_, fun h => absurd h (fun w => w k)⟩; (conv => whnf); (repeat (refine ⟨by kernel_rfl, ?_⟩; (conv => whnf))))
    (refine ⟨[], [], ?_⟩; rotate_left)
    all_goals try exact don
  · rw [if_neg (by simpa using k)] at hHAT1
    (refine ⟨fun h => absurd h (k), fun h => ?_⟩; (conv => whnf); (repeat (refine ⟨by kernel_rfl, ?_⟩; (conv => whnf))))
    (refine ⟨m - 1, [], [], [(5, .val false [.f (iL (i + 1))]), (2, .val false [.pt 48 0 0]), (1, .val false [.f (iL s)])], [(48, some ⟨3, 11, [(htL x).map .f]⟩)], by omega, ⟨rfl, ?_, ?_⟩, (i + 1), ?_, ?_, rfl, rfl⟩; rotate_left 4)
    all_goals try exact don
  have hi : x.sessions.length ≤ i := by simpa using h
  rw [List.drop_eq_nil_of_le hi] at hHAT1
  have q : (-1 : Int) = seF x.sessions s := hHAT1
  (refine ⟨[], [], ?_⟩; rotate_left)
  all_goals try exact don
theorem isCode_ok (c : Int) : FC Tryz.prog 125 [(false, [iL c])] [] [(false, [.f (bL (decide (0 ≤ c ∧ c ≤ 21)))])] := by
  refine gcalls_run tbl_ok mixed Tryz.func125 rfl Tryz.ntmps125 (by kernel_rfl) (Nat.le_of_ble_eq_true rfl) rfl rfl trivial ?_; (conv => whnf); (repeat (refine ⟨by kernel_rfl, ?_⟩; (conv => whnf)))
  (refine ⟨([], _), within_ok c 0 21, ?_⟩; (conv => whnf); (repeat (refine ⟨by kernel_rfl, ?_⟩; (conv => whnf))))
  (refine ⟨[], [], ?_⟩; rotate_left)
  all_goals try exact don
def ZeroP (d : Dc) : Prop := d.root = 0 ∧ d.next = 0 ∧ d.nodes = []
theorem isZero_ok (d : Dc) (hl : d.nodes.length < 2 ^ 62) : FC Tryz.prog 198 [(true, dcL d)] [] [(false, [.f (bL (dB (ZeroP d)))])] := by
  have hlen : ((d.nodes.map ndL).length : Int) = d.nodes.length := by rw [List.length_map]
  have hz : d.nodes = [] ↔ (d.nodes.length : Int) = 0 := by rw [← List.length_eq_zero_iff]; omega
  by_cases k1 : d.root = 0
  case neg =>
    have q : dB (ZeroP d) = false := dB_no fun w => k1 w.1
    refine gcalls_run tbl_ok mixed Tryz.func198 rfl Tryz.ntmps198 (by kernel_rfl) (Nat.le_of_ble_eq_true rfl) rfl rfl trivial ?_; (conv => whnf); (repeat (refine ⟨by kernel_rfl, ?_⟩; (conv => whnf)))
    (refine ⟨fun h => absurd h (k1), fun h => ?_⟩; (conv => whnf); (repeat (refine ⟨by kernel_rfl, ?_⟩; (conv => whnf))))
    (refine ⟨[], [], ?_⟩; rotate_left)
    all_goals try exact don
  by_cases k2 : d.next = 0
  case neg =>
    have q : dB (ZeroP d) = false := dB_no fun w => k2 w.2.1
    refine gcalls_run tbl_ok mixed Tryz.func198 rfl Tryz.ntmps198 (by kernel_rfl) (Nat.le_of_ble_eq_true rfl) rfl rfl trivial ?_; (conv => whnf); (repeat (refine ⟨by kernel_rfl, ?_⟩; (conv => whnf)))
    (refine ⟨fun h => ?_, fun h => absurd h (fun w => w k1)⟩; (conv => whnf); (repeat (refine ⟨by kernel_rfl, ?_⟩; (conv => whnf))))
    (refine ⟨fun h => absurd h (k2), fun h => ?_⟩; (conv => whnf); (repeat (refine ⟨by kernel_rfl, ?_⟩; (conv => whnf))))
    (refine ⟨[], [], ?_⟩; rotate_left)
    all_goals try exact don
  by_cases k3 : (d.nodes.length : Int) = 0
  case neg =>
    have q : dB (ZeroP d) = false := dB_no fun w => k3 (hz.1 w.2.2)
    refine gcalls_run tbl_ok mixed Tryz.func198 rfl Tryz.ntmps198 (by kernel_rfl) (Nat.le_of_ble_eq_true rfl) rfl rfl trivial ?_; (conv => whnf); (repeat (refine ⟨by kernel_rfl, ?_⟩; (conv => whnf)))
    (refine ⟨fun h => ?_, fun h => absurd h (fun w => w k1)⟩; (conv => whnf); (repeat (refine ⟨by kernel_rfl, ?_⟩; (conv => whnf))))
    (refine ⟨fun h => ?_, fun h => absurd h (fun w => w k2)⟩; (conv => whnf); (repeat (refine ⟨by kernel_rfl, ?_⟩; (conv => whnf))))
    rw [hlen]
    (refine ⟨fun h => absurd h (k3), fun h => ?_⟩; (conv => whnf); (repeat (refine ⟨by kernel_rfl, ?_⟩; (conv => whnf))))
    (refine ⟨[], [], ?_⟩; rotate_left)
    all_goals try exact don
  have q : dB (ZeroP d) = true := dB_yes ⟨k1, k2, hz.2 k3⟩
  refine gcalls_run tbl_ok mixed Tryz.func198 rfl Tryz.ntmps198 (by kernel_rfl) (Nat.le_of_ble_eq_true rfl) rfl rfl trivial ?_; (conv => whnf); (repeat (refine ⟨by kernel_rfl, ?_⟩; (conv => whnf)))
  (refine ⟨fun h => ?_, fun h => absurd h (fun w => w k1)⟩; (conv => whnf); (repeat (refine ⟨by kernel_rfl, ?_⟩; (conv => whnf))))
  (refine ⟨fun h => ?_, fun h => absurd h (fun w => w k2)⟩; (conv => whnf); (repeat (refine ⟨by kernel_rfl, ?_⟩; (conv => whnf))))
  rw [hlen]
  (refine ⟨fun h => ?_, fun h => absurd h (fun w => w k3)⟩; (conv => whnf); (repeat (refine ⟨by kernel_rfl, ?_⟩; (conv => whnf))))
  (refine ⟨[], [], ?_⟩; rotate_left)
  all_goals try exact don
end Go.Proofs.YtchfpgpboifbeaaGreat.Ac
