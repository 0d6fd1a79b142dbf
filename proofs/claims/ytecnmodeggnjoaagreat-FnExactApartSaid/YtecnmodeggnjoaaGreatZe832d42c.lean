/- Several of our texts, one behind the other, without what this claim does not need: Hx, Hv, Hu, Hy, Ia, Ic. -/
import Derived.Test.YtecnmodeggnjoaaGreatZ2e4902f1
import Derived.Test.YtecnmodeggnjoaaGreatZe23bce82
import Derived.Test.YtecnmodeggnjoaaGreatZb42bd22a
import Derived.Test.YtecnmodeggnjoaaGreatZ836f6a1a
set_option linter.unusedVariables false
set_option linter.unusedSimpArgs false
set_option maxRecDepth 20000
set_option maxHeartbeats 40000000
namespace Go.Proofs.YtecnmodeggnjoaaGreat.Ac
open Go.RowKit
attribute [local simp] mkI_len mkNs_len mkTms_len mkRus_len mkSes_len mkHos_len mkEvs_len
theorem wa_len {x : Ht} : (waF x).1.length ≤ x.table.waits.length := by
  unfold waF; split <;> simp
theorem law_WaitsOf (x : Ht) (hx : HtIn x) : FC Tryz.prog 9 [(true, htL x)] [] [(false, [.f (bL true)])] := by
  have zA := szHost_ok x (2 ^ 20) (by omega) hx
  refine gr Tryz.func9 Tryz.ntmps9 trivial ?_
  refine ⟨([], _), zA, nx ?_⟩
  refine ⟨fun h => nx ?_, fun h => nx ?_⟩
  exact ⟨[], [], don⟩
  have hA : ((szHt x : Nat) : Int) ≤ 2 ^ 20 := by unfold szL at h; split at h <;> omega
  clear h
  have hg := hx.g (by omega)
  have tA := toHost_ok x (by omega)
  have sp := wa_spec x hg
  have im := wa_impl x hg
  have eqh := eqHost_refl x (by omega)
  have hsz : szHt x = (x.schema.length + szRus x.schema) + (x.doc.nodes.length + szNs x.doc.nodes) + (x.sessions.length + szSes x.sessions) + (x.table.holds.length + x.table.waits.length) + x.events.length := rfl
  have hwl : (waF x).1.length ≤ 2 ^ 20 := by have := wa_len (x := x); omega
  generalize waF x = r at sp im hwl
  obtain ⟨l, c⟩ := r
  dsimp only at sp im hwl
  have eql := eqHoldS_refl l (by omega)
  have b1 := mkZRus_sz x.schema
  have b2 := mkZ_sz x.doc.nodes
  have b3 := mkZSes_sz x.sessions
  have b4 := mkZHos_sz x.table.holds
  have b5 := mkZHos_sz x.table.waits
  have b6 := mkZEvs_sz x.events
  have b7 := mkZHos_sz l
  have m1 := markHost_ok x 1 (by omega)
  have m3 := markHoldS_ok l 1 (by omega)
  have m4 := heldHoldS_ok 1 l (by omega)
  clear b1 b2 b3 b4 b5 b6 b7 hsz
  refine ⟨(_, _), tA, nx ?_⟩
  refine ⟨⟨true, [], _, _, _, _⟩, sp, cd ?_⟩
  refine ⟨(_, _), tA, nx ?_⟩
  refine ⟨⟨true, [], _, _, _, _⟩, im, cd ?_⟩
  refine ⟨⟨true, [], _, _, _, _⟩, eql, cd ?_⟩
  refine ⟨fun h => absurd rfl h, fun h => nx ?_⟩
  refine ⟨(_, _), tA, nx ?_⟩
  refine ⟨⟨true, [], _, _, _, _⟩, eqh, cd ?_⟩
  refine ⟨⟨false, [(1, 432), (2, 433), (3, 434), (4, 435), (5, 436), (6, 437)], _, _, _, _⟩, m1, cd ?_⟩
  refine ⟨fun h => absurd h (by omega), fun h => nx ?_⟩
  refine ⟨⟨true, [], _, _, _, _⟩, eql, cd ?_⟩
  refine ⟨fun h => absurd rfl h, fun h => nx ?_⟩
  refine ⟨⟨false, [(1, 480)], _, _, _, _⟩, m3, cd ?_⟩
  refine ⟨⟨true, [], _, _, _, _⟩, m4, cd ?_⟩
  refine ⟨fun h => absurd h (by omega), fun h => nx ?_⟩
  refine ⟨fun h => absurd rfl h, fun h => nx ?_⟩
  refine ⟨(_, _), tA, nx ?_⟩
  refine ⟨⟨true, [], _, _, _, _⟩, im, cd ?_⟩
  refine ⟨⟨true, [], _, _, _, _⟩, eql, cd ?_⟩
  refine ⟨fun h => absurd rfl h, fun h => nx ?_⟩
  refine ⟨⟨true, [], _, _, _, _⟩, m4, cd ?_⟩
  refine ⟨fun h => absurd h (by omega), fun h => nx ?_⟩
  refine ⟨fun h => absurd rfl h, fun h => nx ?_⟩
  exact ⟨[], [], don⟩
end Go.Proofs.YtecnmodeggnjoaaGreat.Ac
set_option linter.unusedVariables false
set_option linter.unusedSimpArgs false
set_option maxRecDepth 20000
set_option maxHeartbeats 20000000
namespace Go.Proofs.YtecnmodeggnjoaaGreat.Ac
open Go.RowKit
noncomputable def whoL (d : Dc) (l : List Ho) (node : Int) (S : List Int) : List Ho := (S.filter fun s => dB (modeF d l s node ≠ 0)).map fun s => (⟨s, node, modeF d l s node⟩ : Ho)
theorem who_take {d : Dc} {l : List Ho} {node : Int} {S : List Int} {i : Nat} (hi : i < S.length) : whoL d l node (S.take (i + 1)) = if modeF d l S[i] node = 0 then whoL d l node (S.take i) else whoL d l node (S.take i) ++ [⟨S[i], node, modeF d l S[i] node⟩] := by
  unfold whoL
  rw [List.take_succ_eq_append_getElem hi, List.filter_append, List.map_append]
  by_cases k : modeF d l S[i] node = 0
  · rw [if_pos k, List.filter_cons_of_neg (by rw [dB_no fun w => w k]; simp)]; simp
  · rw [if_neg k, List.filter_cons_of_pos (by exact dB_yes k)]; simp
theorem who_len {d : Dc} {l : List Ho} {node : Int} (S : List Int) : (whoL d l node S).length ≤ S.length := by
  unfold whoL; rw [List.length_map]; exact List.length_filter_le _ _
theorem whoHas_ok (x : Ht) (hd : DOK x.doc) (hG : HoldG x.doc x.table.holds) (hr : RiseH x.table.holds) (node : Int) : FC Tryz.prog 128 [(false, [.pv (htL x)]), (false, [iL node])]
    [(1000, some ⟨0, 3, (whoL x.doc x.table.holds node (sessF x.table.holds)).map hoW⟩)] [(false, [.row 1000 0 (whoL x.doc x.table.holds node (sessF x.table.holds)).length])] := by
  have hlen := hG.len
  have hse := sessionsOf_ok x.table.holds (by omega) hr
  have hsl := sess_len x.table.holds
  have hm : ∀ s, _ := fun s => (mode_ok x.doc hd x.table.holds hG s node).p1 (htD x) (by simp [dcL])
  generalize sessF x.table.holds = S at hse hsl
  generalize sessT x.table.holds = W at hse
  refine gr Tryz.func128 Tryz.ntmps128 (⟨cl_hos _, trivial⟩) ?_
  refine ⟨(_, _), hse, nx ?_⟩
  (refine ⟨fun m es hs => ∃ (i : Nat) (out : List Ho), (m + i = S.length) ∧ (out = whoL x.doc x.table.holds node (S.take i)) ∧ es = [(16, .val false [.f (iL i)]), (15, .val false [.f (iL S.length)]), (14, .val false [.row 4 0 S.length]), (5, .val false [.row 3 0 out.length]), (1, .val false [.f (iL node)]), (0, .val false [.f (.pv (htL x))])] ∧ hs = [(3, some ⟨0, 3, out.map hoW⟩), (4, some ⟨0, 1, (S ++ W).map intW⟩)], ⟨S.length, [], [(3, 7), (4, 240)], _, _, don, 0, ([]), don, don, rfl, rfl⟩, ?_⟩; rintro m _ _ ⟨i, out, hWHI0, hWHI1, rfl, rfl⟩; refine nx ?_)
  refine ⟨fun h => nx ?_, fun h => nx ?_⟩
  have hi : i < S.length := by omega
  have ht := who_take (d := x.doc) (l := x.table.holds) (node := node) hi
  have hol : out.length ≤ i := by rw [hWHI1]; have := who_len (d := x.doc) (l := x.table.holds) (node := node) (S.take i); simp at this; omega
  refine ⟨i, ⟨rfl, hi⟩, nx ?_⟩
  refine ⟨intW S[i], app_get_left hi, nx ?_⟩
  refine ⟨([], _), hm S[i], nx ?_⟩
  by_cases k : modeF x.doc x.table.holds S[i] node = 0
  · rw [if_pos k, ← hWHI1] at ht
    have q := ht.symm
    refine ⟨fun h => absurd h (fun w => w k), fun h => nx ?_⟩
    exact ⟨m - 1, [], [], _, _, by omega, don, (i + 1), out, don, don, rfl, rfl⟩
  · rw [if_neg k, ← hWHI1] at ht
    have q := ht.symm
    refine ⟨fun h => nx ?_, fun h => absurd h (fun w => w k)⟩
    refine ⟨(out ++ [(⟨S[i], node, modeF x.doc x.table.holds S[i] node⟩ : Ho)]).map hoW, ⟨app_one hoW out (⟨S[i], node, modeF x.doc x.table.holds S[i] node⟩ : Ho), by simp; omega⟩, nx ?_⟩
    exact ⟨m - 1, [], [(3, 640)], _, _, by omega, don, (i + 1), (out ++ [(⟨S[i], node, modeF x.doc x.table.holds S[i] node⟩ : Ho)]), don, don, rfl, rfl⟩
  have hi : S.length ≤ i := by omega
  rw [List.take_of_length_le hi] at hWHI1
  rw [← hWHI1]
  exact ⟨[], [(1000, 3)], don⟩
theorem mode_none {d : Dc} {s node : Int} : ∀ {l : List Ho} (m : Int), (∀ h ∈ l, h.session ≠ s) → l.foldl (fun m h => if h.session = s then joinM m (needF d h node) else m) m = m
  | [], m, _ => rfl
  | a :: l, m, h => by
    rw [List.foldl_cons, if_neg (h a List.mem_cons_self)]
    exact mode_none m fun b hb => h b (List.mem_cons_of_mem _ hb)
theorem inc_lt {l : List Se} (h : ∀ j, IncP l j) : (l.map (·.id)).Pairwise (· < ·) := by
  rw [List.pairwise_iff_getElem]
  intro i j hi hj hij
  rw [List.length_map] at hi hj
  rw [List.getElem_map, List.getElem_map]
  have key : ∀ k (hk : i + k + 1 < l.length), l[i].id < l[i + k + 1].id := fun k => by
    induction k with
    | zero => exact fun hk => h i hk
    | succ k ih => exact fun hk => Int.lt_trans (ih (by omega)) (h (i + k + 1) hk)
  obtain ⟨k, rfl⟩ : ∃ k, j = i + k + 1 := ⟨j - i - 1, by omega⟩
  exact key k hj
theorem who_eq {x : Ht} (h : HostP x) (node : Int) : whoL x.doc x.table.holds node (x.sessions.map (·.id)) = whoL x.doc x.table.holds node (sessF x.table.holds) := by
  unfold whoL
  congr 1
  refine lt_ext ((inc_lt h.inc).sublist List.filter_sublist) ((ded_sorted h.tab.tab.g.rise.le).sublist List.filter_sublist) fun s => ?_
  rw [List.mem_filter, List.mem_filter]
  constructor
  · rintro ⟨_, h2⟩
    refine ⟨?_, h2⟩
    unfold sessF
    rw [mem_ded]
    by_cases k : ∃ a ∈ x.table.holds, a.session = s
    · obtain ⟨a, ha, e⟩ := k
      exact List.mem_map.2 ⟨a, ha, e⟩
    · exact absurd (mode_none 0 fun a ha e => k ⟨a, ha, e⟩) (dB_iff.1 h2)
  · rintro ⟨h1, h2⟩
    refine ⟨?_, h2⟩
    unfold sessF at h1
    rw [mem_ded] at h1
    obtain ⟨a, ha, e⟩ := List.mem_map.1 h1
    obtain ⟨b, hb, e2⟩ := h.tab.ses a (List.mem_append_left _ ha)
    exact List.mem_map.2 ⟨b, hb, e2.trans e⟩
end Go.Proofs.YtecnmodeggnjoaaGreat.Ac
set_option linter.unusedVariables false
set_option linter.unusedSimpArgs false
set_option maxRecDepth 20000
set_option maxHeartbeats 20000000
namespace Go.Proofs.YtecnmodeggnjoaaGreat.Ac
open Go.RowKit
noncomputable def whF (x : Ht) (node : Int) : List Ho × Int := if dB (HostP x) then (if (ndAt x.doc.nodes node).isSome then (whoL x.doc x.table.holds node (sessF x.table.holds), 0) else ([], 5)) else ([], 1)
theorem wh_no {x : Ht} {node : Int} (h : ¬ HostP x) : whF x node = ([], 1) := by unfold whF; rw [dB_no h]; rfl
theorem wh_at {x : Ht} {node : Int} (h : HostP x) (k : (ndAt x.doc.nodes node).isSome = true) : whF x node = (whoL x.doc x.table.holds node (sessF x.table.holds), 0) := by unfold whF; rw [dB_yes h, k]; rfl
theorem wh_out {x : Ht} {node : Int} (h : HostP x) (k : (ndAt x.doc.nodes node).isSome = false) : whF x node = ([], 5) := by unfold whF; rw [dB_yes h, k]; rfl
theorem wh_impl (x : Ht) (hg : HtG x) (node : Int) (h64 : I64 node) : FC Tryz.prog 50 [(true, htL x), (false, [iL node])] [(1000, some ⟨0, 3, (whF x node).1.map hoW⟩)] [(false, [.row 1000 0 (whF x node).1.length]), (false, [.f (iL (whF x node).2)])] := by
  have hh := hostOK_ok x hg
  by_cases k : HostP x
  case neg =>
    rw [wh_no k]
    dsimp only
    refine gr Tryz.func50 Tryz.ntmps50 (⟨trivial, trivial⟩) ?_
    refine ⟨([], _), hh.x k, nx ?_⟩
    exact ⟨[], [(1000, 7)], don⟩
  have hf := has_ok x.doc node k.doc.rise h64 (by have := k.doc.len; omega)
  have hG := k.tab.tab.g
  cases k2 : (ndAt x.doc.nodes node).isSome with
  | false =>
    rw [k2] at hf
    rw [wh_out k k2]
    dsimp only
    refine gr Tryz.func50 Tryz.ntmps50 (⟨trivial, trivial⟩) ?_
    refine ⟨([], _), hh.y k, nx ?_⟩
    refine ⟨⟨true, [], _, _, _, _⟩, hf, cd ?_⟩
    exact ⟨[], [(1000, 7)], don⟩
  | true =>
    rw [k2] at hf
    rw [wh_at k k2]
    dsimp only
    refine gr Tryz.func50 Tryz.ntmps50 (⟨cl_hos _, trivial⟩) ?_
    refine ⟨([], _), hh.y k, nx ?_⟩
    refine ⟨⟨true, [], _, _, _, _⟩, hf, cd ?_⟩
    refine ⟨⟨true, [], _, _, _, _⟩, whoHas_ok x k.doc hG.hg hG.rise node, cd ?_⟩
    exact ⟨[], [(1000, 272)], don⟩
theorem wh_spec (x : Ht) (hg : HtG x) (node : Int) : FC Tryz.prog 49 [(true, htL x), (false, [iL node])] [(1000, some ⟨0, 3, (whF x node).1.map hoW⟩)] [(false, [.row 1000 0 (whF x node).1.length]), (false, [.f (iL (whF x node).2)])] := by
  have hh := l09OK_ok x hg
  have hat := l02At_ok x.doc node (by have := hg.dl; omega)
  have hai := at_iff node x.doc.nodes 0
  by_cases k : HostP x
  case neg =>
    rw [wh_no k]
    dsimp only
    refine gr Tryz.func49 Tryz.ntmps49 (⟨trivial, trivial⟩) ?_
    refine ⟨([], _), hh.x k, nx ?_⟩
    exact ⟨[], [(1000, 224)], don⟩
  have hG := k.tab.tab.g
  cases k2 : (ndAt x.doc.nodes node).isSome with
  | false =>
    have hn : atFrom node 0 x.doc.nodes < 0 := Int.not_le.1 fun w => by have := hai.1 w; rw [k2] at this; cases this
    rw [wh_out k k2]
    dsimp only
    refine gr Tryz.func49 Tryz.ntmps49 (⟨trivial, trivial⟩) ?_
    refine ⟨([], _), hh.y k, nx ?_⟩
    refine ⟨([], _), hat, nx ?_⟩
    refine ⟨fun h => nx ?_, fun h => absurd h (fun w => w hn)⟩
    exact ⟨[], [(1000, 320)], don⟩
  | true =>
    have hn : ¬ atFrom node 0 x.doc.nodes < 0 := Int.not_lt.2 (hai.2 k2)
    rw [wh_at k k2, ← who_eq k]
    dsimp only
    have hsl := hg.sel
    obtain ⟨S, hS⟩ : ∃ S, S = x.sessions.map (·.id) := ⟨_, rfl⟩
    have hSl : S.length = x.sessions.length := by rw [hS, List.length_map]
    have hSi : ∀ i (hi : i < S.length), S[i] = (x.sessions[i]'(by omega)).id := fun i hi => by subst hS; rw [List.getElem_map]
    rw [← hS]
    clear hS
    refine gr Tryz.func49 Tryz.ntmps49 (⟨cl_hos _, trivial⟩) ?_
    refine ⟨([], _), hh.y k, nx ?_⟩
    refine ⟨([], _), hat, nx ?_⟩
    refine ⟨fun h => absurd h (hn), fun h => nx ?_⟩
    (refine ⟨fun m es hs => ∃ (i : Nat) (out : List Ho), (m + i = S.length) ∧ (out = whoL x.doc x.table.holds node (S.take i)) ∧ es = [(7, .val false [.f (iL i)]), (6, .val false [.row 3 0 out.length]), (2, .val false [.pt 48 0 0]), (1, .val false [.f (iL node)])] ∧ hs = [(48, some ⟨3, 11, [(htL x).map .f]⟩), (3, some ⟨0, 3, out.map hoW⟩)], ⟨S.length, [], [(3, 336)], _, _, don, 0, ([]), don, don, rfl, rfl⟩, ?_⟩; rintro m _ _ ⟨i, out, hWHS0, hWHS1, rfl, rfl⟩; refine nx ?_)
    refine ⟨fun h => nx ?_, fun h => nx ?_⟩
    have hi : i < x.sessions.length := by simpa using h
    have hi' : i < S.length := by omega
    have ht := who_take (d := x.doc) (l := x.table.holds) (node := node) hi'
    rw [hSi i hi'] at ht
    have hol : out.length ≤ i := by rw [hWHS1]; have := who_len (d := x.doc) (l := x.table.holds) (node := node) (S.take i); simp at this; omega
    have hmd := mode_md (d := x.doc) hG.hg.md x.sessions[i].id node
    refine ⟨(i, seL x.sessions[i]), ⟨rfl, by simp [hi]⟩, nx ?_⟩
    refine ⟨([], _), l07At_ok x.doc k.doc x.table.holds hG.hg x.sessions[i].id node, nx ?_⟩
    by_cases k3 : modeF x.doc x.table.holds x.sessions[i].id node = 0
    · rw [if_pos k3, ← hWHS1] at ht
      have q := ht.symm
      refine ⟨fun h => absurd h (by omega), fun h => nx ?_⟩
      exact ⟨m - 1, [], [], _, _, by omega, don, (i + 1), out, don, don, rfl, rfl⟩
    · rw [if_neg k3, ← hWHS1] at ht
      have q := ht.symm
      refine ⟨fun h => nx ?_, fun h => absurd h (by have := hmd.1; omega)⟩
      refine ⟨(out ++ [(⟨x.sessions[i].id, node, modeF x.doc x.table.holds x.sessions[i].id node⟩ : Ho)]).map hoW, ⟨app_one hoW out (⟨x.sessions[i].id, node, modeF x.doc x.table.holds x.sessions[i].id node⟩ : Ho), by simp; omega⟩, nx ?_⟩
      exact ⟨m - 1, [], [(3, 816)], _, _, by omega, don, (i + 1), (out ++ [(⟨x.sessions[i].id, node, modeF x.doc x.table.holds x.sessions[i].id node⟩ : Ho)]), don, don, rfl, rfl⟩
    have hi : x.sessions.length ≤ i := by simpa using h
    rw [List.take_of_length_le (by omega)] at hWHS1
    rw [← hWHS1]
    exact ⟨[], [(1000, 3)], don⟩
end Go.Proofs.YtecnmodeggnjoaaGreat.Ac
set_option linter.unusedVariables false
set_option linter.unusedSimpArgs false
set_option maxRecDepth 20000
set_option maxHeartbeats 40000000
namespace Go.Proofs.YtecnmodeggnjoaaGreat.Ac
open Go.RowKit
attribute [local simp] mkI_len mkNs_len mkTms_len mkRus_len mkSes_len mkHos_len mkEvs_len
theorem wh_len {x : Ht} {node : Int} : (whF x node).1.length ≤ x.table.holds.length := by
  unfold whF; split
  · split
    · exact Nat.le_trans (who_len _) (sess_len _)
    · simp
  · simp
theorem law_WhoHas (x : Ht) (node : Int) (hx : HtIn x) (h64 : I64 node) : FC Tryz.prog 10 [(true, htL x), (false, [iL node])] [] [(false, [.f (bL true)])] := by
  have zA := szHost_ok x (2 ^ 20) (by omega) hx
  refine gr Tryz.func10 Tryz.ntmps10 trivial ?_
  refine ⟨([], _), zA, nx ?_⟩
  refine ⟨fun h => nx ?_, fun h => nx ?_⟩
  exact ⟨[], [], don⟩
  have hA : ((szHt x : Nat) : Int) ≤ 2 ^ 20 := by unfold szL at h; split at h <;> omega
  clear h
  have hg := hx.g (by omega)
  have tA := toHost_ok x (by omega)
  have sp := wh_spec x hg node
  have im := wh_impl x hg node h64
  have eqh := eqHost_refl x (by omega)
  have hsz : szHt x = (x.schema.length + szRus x.schema) + (x.doc.nodes.length + szNs x.doc.nodes) + (x.sessions.length + szSes x.sessions) + (x.table.holds.length + x.table.waits.length) + x.events.length := rfl
  have hwl : (whF x node).1.length ≤ 2 ^ 20 := by have := wh_len (x := x) (node := node); omega
  generalize whF x node = r at sp im hwl
  obtain ⟨l, c⟩ := r
  dsimp only at sp im hwl
  have eql := eqHoldS_refl l (by omega)
  have b1 := mkZRus_sz x.schema
  have b2 := mkZ_sz x.doc.nodes
  have b3 := mkZSes_sz x.sessions
  have b4 := mkZHos_sz x.table.holds
  have b5 := mkZHos_sz x.table.waits
  have b6 := mkZEvs_sz x.events
  have b7 := mkZHos_sz l
  have m1 := markHost_ok x 1 (by omega)
  have m3 := markHoldS_ok l 1 (by omega)
  have m4 := heldHoldS_ok 1 l (by omega)
  clear b1 b2 b3 b4 b5 b6 b7 hsz
  refine ⟨(_, _), tA, nx ?_⟩
  refine ⟨⟨true, [], _, _, _, _⟩, sp, cd ?_⟩
  refine ⟨(_, _), tA, nx ?_⟩
  refine ⟨⟨true, [], _, _, _, _⟩, im, cd ?_⟩
  refine ⟨⟨true, [], _, _, _, _⟩, eql, cd ?_⟩
  refine ⟨fun h => absurd rfl h, fun h => nx ?_⟩
  refine ⟨(_, _), tA, nx ?_⟩
  refine ⟨⟨true, [], _, _, _, _⟩, eqh, cd ?_⟩
  refine ⟨⟨false, [(1, 480), (2, 481), (3, 482), (4, 483), (5, 484), (6, 485)], _, _, _, _⟩, m1, cd ?_⟩
  refine ⟨fun h => absurd h (by omega), fun h => nx ?_⟩
  refine ⟨⟨true, [], _, _, _, _⟩, eql, cd ?_⟩
  refine ⟨fun h => absurd rfl h, fun h => nx ?_⟩
  refine ⟨⟨false, [(1, 544)], _, _, _, _⟩, m3, cd ?_⟩
  refine ⟨⟨true, [], _, _, _, _⟩, m4, cd ?_⟩
  refine ⟨fun h => absurd h (by omega), fun h => nx ?_⟩
  refine ⟨fun h => absurd rfl h, fun h => nx ?_⟩
  refine ⟨(_, _), tA, nx ?_⟩
  refine ⟨⟨true, [], _, _, _, _⟩, im, cd ?_⟩
  refine ⟨⟨true, [], _, _, _, _⟩, eql, cd ?_⟩
  refine ⟨fun h => absurd rfl h, fun h => nx ?_⟩
  refine ⟨⟨true, [], _, _, _, _⟩, m4, cd ?_⟩
  refine ⟨fun h => absurd h (by omega), fun h => nx ?_⟩
  refine ⟨fun h => absurd rfl h, fun h => nx ?_⟩
  exact ⟨[], [], don⟩
end Go.Proofs.YtecnmodeggnjoaaGreat.Ac
set_option linter.unusedVariables false
set_option linter.unusedSimpArgs false
set_option maxRecDepth 20000
set_option maxHeartbeats 20000000
namespace Go.Proofs.YtecnmodeggnjoaaGreat.Ac
open Go.RowKit
def inSe (x : Ht) (i k : Nat) : Prop := ∃ (hi : i < x.sessions.length) (hk : k < x.sessions.length), i ≠ k ∧ x.sessions[i].sub ≠ 0 ∧ x.sessions[k].sub ≠ 0 ∧ x.sessions[i].sub ∈ pathF x.doc x.sessions[k].sub
def ApartP (x : Ht) : Prop := ∀ i k, ¬ inSe x i k
noncomputable def apF (x : Ht) : Bool × Int := if dB (HostP x) then (dB (ApartP x), 0) else (false, 1)
theorem ap_no {x : Ht} (h : ¬ HostP x) : apF x = (false, 1) := by unfold apF; rw [dB_no h]; rfl
theorem ap_yes {x : Ht} (h : HostP x) : apF x = (dB (ApartP x), 0) := by unfold apF; rw [dB_yes h]; rfl
theorem sub_pos {x : Ht} (h : HostP x) {s : Se} (hs : s ∈ x.sessions) : s.sub = 0 ∨ 1 ≤ s.sub := by
  by_cases k : s.sub = 0
  · exact .inl k
  · obtain ⟨n, hn⟩ := Option.isSome_iff_exists.1 ((h.rgt s hs).has k)
    obtain ⟨h1, h2⟩ := ndAt_mem hn
    have := (h.doc.rise.1 n h1).1
    exact .inr (by omega)
theorem upto {p : Nat → Prop} {i : Nat} (h : ∀ a, a < i → p a) (h1 : p i) : ∀ a, a < i + 1 → p a := fun a ha => by
  by_cases k : a = i
  · exact k ▸ h1
  · exact h a (by omega)
theorem below {p : Nat → Prop} (n : Nat) (h : ∀ a, n ≤ a → p a) (h1 : ∀ a, a < n → p a) : ∀ a, p a := fun a => by
  by_cases k : a < n
  · exact h1 a k
  · exact h a (by omega)
theorem inSe_out {x : Ht} {i j : Nat} (h : x.sessions.length ≤ i ∨ x.sessions.length ≤ j) : ¬ inSe x i j := fun ⟨hi, hj, _⟩ => by omega
theorem ap_spec (x : Ht) (hg : HtG x) : FC Tryz.prog 37 [(true, htL x)] [] [(false, [.f (bL (apF x).1)]), (false, [.f (iL (apF x).2)])] := by
  have hh := l09OK_ok x hg
  by_cases hP : HostP x
  case neg =>
    rw [ap_no hP]
    refine gr Tryz.func37 Tryz.ntmps37 trivial ?_
    refine ⟨([], _), hh.x hP, nx ?_⟩
    exact ⟨[], [], don⟩
  rw [ap_yes hP]
  have hsl := hP.sl
  dsimp only
  refine gr Tryz.func37 Tryz.ntmps37 trivial ?_
  refine ⟨([], _), hh.y hP, nx ?_⟩
  have q0 : ∀ a, a < 0 → ∀ b, ¬ inSe x a b := fun a h => absurd h (Nat.not_lt_zero a)
  (refine ⟨fun m es hs => ∃ (i : Nat), (m + i = x.sessions.length) ∧ (∀ a, a < i → ∀ b, ¬ inSe x a b) ∧ es = [(4, .val false [.f (iL i)]), (1, .val false [.pt 32 0 0])] ∧ hs = [(32, some ⟨3, 11, [(htL x).map .f]⟩)], ⟨x.sessions.length, [], [], _, _, don, 0, don, don, rfl, rfl⟩, ?_⟩; rintro m _ _ ⟨i, hAO0, hAO1, rfl, rfl⟩; refine nx ?_)
  refine ⟨fun h => nx ?_, fun h => nx ?_⟩
  have hi : i < x.sessions.length := by simpa using h
  obtain ⟨mo, hmo⟩ : ∃ mo, mo = m := ⟨m, rfl⟩
  rw [← hmo]
  rw [← hmo] at hAO0
  clear h hmo
  have q1 : ∀ b, b < 0 → ¬ inSe x i b := fun a h => absurd h (Nat.not_lt_zero a)
  (refine ⟨fun m es hs => ∃ (j : Nat), (m + j = x.sessions.length) ∧ (∀ b, b < j → ¬ inSe x i b) ∧ es = [(5, .val false [.f (iL j)]), (4, .val false [.f (iL i)]), (1, .val false [.pt 32 0 0])] ∧ hs = [(32, some ⟨3, 11, [(htL x).map .f]⟩)], ⟨x.sessions.length, [], [], _, _, don, 0, don, don, rfl, rfl⟩, ?_⟩; rintro m _ _ ⟨j, hAI0, hAI1, rfl, rfl⟩; refine nx ?_)
  refine ⟨fun h => nx ?_, fun h => nx ?_⟩
  have hj : j < x.sessions.length := by simpa using h
  have hpi := sub_pos hP (List.getElem_mem hi)
  have hpj := sub_pos hP (List.getElem_mem hj)
  refine ⟨(i, seL x.sessions[i]), ⟨rfl, by simp [hi]⟩, nx ?_⟩
  refine ⟨(j, seL x.sessions[j]), ⟨rfl, by simp [hj]⟩, nx ?_⟩
  by_cases e1 : i = j
  have q := upto hAI1 fun w => w.2.2.1 e1
  refine ⟨fun h => absurd h (by omega), fun h => nx ?_⟩
  exact ⟨m - 1, [], [], _, _, by omega, don, (j + 1), don, don, rfl, rfl⟩
  refine ⟨fun h => nx ?_, fun h => absurd h (by omega)⟩
  by_cases e2 : x.sessions[i].sub = 0
  have q := upto hAI1 fun w => w.2.2.2.1 e2
  refine ⟨fun h => absurd h (by omega), fun h => nx ?_⟩
  exact ⟨m - 1, [], [], _, _, by omega, don, (j + 1), don, don, rfl, rfl⟩
  refine ⟨fun h => nx ?_, fun h => absurd h (by omega)⟩
  by_cases e3 : x.sessions[j].sub = 0
  have q := upto hAI1 fun w => w.2.2.2.2.1 e3
  refine ⟨fun h => absurd h (by omega), fun h => nx ?_⟩
  exact ⟨m - 1, [], [], _, _, by omega, don, (j + 1), don, don, rfl, rfl⟩
  refine ⟨fun h => nx ?_, fun h => absurd h (by omega)⟩
  have hp := l02Path_ok x.doc hP.doc x.sessions[j].sub ((hP.rgt _ (List.getElem_mem hj)).has e3)
  have hpl := path_len x.doc x.sessions[j].sub
  have hc := l02Has_ok (pathF x.doc x.sessions[j].sub) x.sessions[i].sub (by omega)
  by_cases e4 : x.sessions[i].sub ∈ pathF x.doc x.sessions[j].sub
  rw [decide_eq_true e4] at hc
  have q : dB (ApartP x) = false := dB_no fun w => w i j ⟨hi, hj, e1, e2, e3, e4⟩
  refine ⟨(_, _), hp, nx ?_⟩
  refine ⟨⟨true, [], _, _, _, _⟩, hc, cd ?_⟩
  exact ⟨[], [], don⟩
  rw [decide_eq_false e4] at hc
  have q := upto hAI1 fun w => e4 w.2.2.2.2.2
  refine ⟨(_, _), hp, nx ?_⟩
  refine ⟨⟨true, [], _, _, _, _⟩, hc, cd ?_⟩
  exact ⟨m - 1, [], [], _, _, by omega, don, (j + 1), don, don, rfl, rfl⟩
  have hj : x.sessions.length ≤ j := by simpa using h
  have q := upto hAO1 (below j (fun a ha => inSe_out (.inr (by omega))) hAI1)
  exact ⟨mo - 1, [], [], _, _, by omega, don, (i + 1), don, don, rfl, rfl⟩
  have hi : x.sessions.length ≤ i := by simpa using h
  have q : dB (ApartP x) = true := dB_yes (below i (fun a ha b => inSe_out (.inl (by omega))) hAO1)
  exact ⟨[], [], don⟩
theorem isIn7_ok (d : Dc) (hd : DOK d) (id top : Int) (h1 : (ndAt d.nodes id).isSome) : FC Tryz.prog 110 [(false, [.pv (dcL d)]), (false, [iL id]), (false, [iL top])] [] [(false, [.f (bL (decide (top ∈ pathF d id)))])] := by
  rw [show decide (top ∈ pathF d id) = decide (top ∈ upsF d.nodes 7 id) from decide_eq_decide.2 mem_path]
  exact isIn_ok d id top 7 (hd.up h1) hd.par0 (by omega) (by have := hd.len; omega) (fun n hn => by have := hd.kl' n hn; omega)
theorem ap_impl (x : Ht) (hg : HtG x) : FC Tryz.prog 39 [(true, htL x)] [] [(false, [.f (bL (apF x).1)]), (false, [.f (iL (apF x).2)])] := by
  have hh := hostOK_ok x hg
  by_cases hP : HostP x
  case neg =>
    rw [ap_no hP]
    refine gr Tryz.func39 Tryz.ntmps39 trivial ?_
    refine ⟨([], _), hh.x hP, nx ?_⟩
    (refine ⟨[], [], ?_⟩; rotate_left)
    all_goals try exact don
  rw [ap_yes hP]
  have hsl := hP.sl
  dsimp only
  refine gr Tryz.func39 Tryz.ntmps39 trivial ?_
  refine ⟨([], _), hh.y hP, nx ?_⟩
  have q0 : ∀ a, a < 0 → ∀ b, ¬ inSe x b a := fun a h => absurd h (Nat.not_lt_zero a)
  (refine ⟨fun m es hs => ∃ (i : Nat), (m + i = x.sessions.length) ∧ (∀ a, a < i → ∀ b, ¬ inSe x b a) ∧ es = [(14, .val false [.f (iL i)]), (13, .val false [.f (iL x.sessions.length)]), (12, .val false [.f (ses x.sessions)]), (1, .val false [.pt 32 0 0])] ∧ hs = [(32, some ⟨3, 11, [(htL x).map .f]⟩)], ⟨x.sessions.length, [], [], _, _, ⟨rfl, ?_, ?_⟩, 0, ?_, ?_, rfl, rfl⟩, ?_⟩; rotate_left 4; rintro m _ _ ⟨i, hBO0, hBO1, rfl, rfl⟩; refine nx ?_)
  refine ⟨fun h => nx ?_, fun h => nx ?_⟩
  have hi : i < x.sessions.length := by omega
  obtain ⟨mo, hmo⟩ : ∃ mo, mo = m := ⟨m, rfl⟩
  rw [← hmo]
  rw [← hmo] at hBO0
  clear h hmo
  refine ⟨(i, seL x.sessions[i]), ⟨rfl, by simp [hi]⟩, nx ?_⟩
  have q1 : ∀ b, b < 0 → ¬ inSe x b i := fun a h => absurd h (Nat.not_lt_zero a)
  (refine ⟨fun m es hs => ∃ (j : Nat), (m + j = x.sessions.length) ∧ (∀ b, b < j → ¬ inSe x b i) ∧ es = [(22, .val false [.f (iL j)]), (21, .val false [.f (iL x.sessions.length)]), (20, .val false [.f (ses x.sessions)]), (14, .val false [.f (iL i)]), (13, .val false [.f (iL x.sessions.length)]), (12, .val false [.f (ses x.sessions)]), (5, .val false [.pt 96 0 0]), (4, .val false [.f (iL i)]), (1, .val false [.pt 32 0 0])] ∧ hs = [(32, some ⟨3, 11, [(htL x).map .f]⟩), (96, some ⟨3, 6, [(seL x.sessions[i]).map .f]⟩)], ⟨x.sessions.length, [], [], _, _, ⟨rfl, ?_, ?_⟩, 0, ?_, ?_, rfl, rfl⟩, ?_⟩; rotate_left 4; rintro m _ _ ⟨j, hBI0, hBI1, rfl, rfl⟩; refine nx ?_)
  refine ⟨fun h => nx ?_, fun h => nx ?_⟩
  have hj : j < x.sessions.length := by omega
  have hpi := sub_pos hP (List.getElem_mem hi)
  have hpj := sub_pos hP (List.getElem_mem hj)
  refine ⟨(j, seL x.sessions[j]), ⟨rfl, by simp [hj]⟩, nx ?_⟩
  by_cases e1 : i = j
  have q := upto hBI1 fun w => w.2.2.1 e1.symm
  refine ⟨fun h => absurd h (by omega), fun h => nx ?_⟩
  (refine ⟨m - 1, [], [], [(22, .val false [.f (iL (j + 1))]), (21, .val false [.f (iL x.sessions.length)]), (20, .val false [.f (ses x.sessions)]), (14, .val false [.f (iL i)]), (13, .val false [.f (iL x.sessions.length)]), (12, .val false [.f (ses x.sessions)]), (5, .val false [.pt 96 0 0]), (4, .val false [.f (iL i)]), (1, .val false [.pt 32 0 0])], [(32, some ⟨3, 11, [(htL x).map .f]⟩), (96, some ⟨3, 6, [(seL x.sessions[i]).map .f]⟩)], by omega, ⟨rfl, ?_, ?_⟩, (j + 1), ?_, ?_, rfl, rfl⟩; rotate_left 4)
  refine ⟨fun h => nx ?_, fun h => absurd h (by omega)⟩
  by_cases e2 : x.sessions[i].sub = 0
  have q := upto hBI1 fun w => w.2.2.2.2.1 e2
  refine ⟨fun h => absurd h (by omega), fun h => nx ?_⟩
  (refine ⟨m - 1, [], [], [(22, .val false [.f (iL (j + 1))]), (21, .val false [.f (iL x.sessions.length)]), (20, .val false [.f (ses x.sessions)]), (14, .val false [.f (iL i)]), (13, .val false [.f (iL x.sessions.length)]), (12, .val false [.f (ses x.sessions)]), (5, .val false [.pt 96 0 0]), (4, .val false [.f (iL i)]), (1, .val false [.pt 32 0 0])], [(32, some ⟨3, 11, [(htL x).map .f]⟩), (96, some ⟨3, 6, [(seL x.sessions[i]).map .f]⟩)], by omega, ⟨rfl, ?_, ?_⟩, (j + 1), ?_, ?_, rfl, rfl⟩; rotate_left 4)
  refine ⟨fun h => nx ?_, fun h => absurd h (by omega)⟩
  by_cases e3 : x.sessions[j].sub = 0
  have q := upto hBI1 fun w => w.2.2.2.1 e3
  refine ⟨fun h => absurd h (by omega), fun h => nx ?_⟩
  (refine ⟨m - 1, [], [], [(22, .val false [.f (iL (j + 1))]), (21, .val false [.f (iL x.sessions.length)]), (20, .val false [.f (ses x.sessions)]), (14, .val false [.f (iL i)]), (13, .val false [.f (iL x.sessions.length)]), (12, .val false [.f (ses x.sessions)]), (5, .val false [.pt 96 0 0]), (4, .val false [.f (iL i)]), (1, .val false [.pt 32 0 0])], [(32, some ⟨3, 11, [(htL x).map .f]⟩), (96, some ⟨3, 6, [(seL x.sessions[i]).map .f]⟩)], by omega, ⟨rfl, ?_, ?_⟩, (j + 1), ?_, ?_, rfl, rfl⟩; rotate_left 4)
  refine ⟨fun h => nx ?_, fun h => absurd h (by omega)⟩
  have hc := isIn7_ok x.doc hP.doc x.sessions[i].sub x.sessions[j].sub ((hP.rgt _ (List.getElem_mem hi)).has e2)
  by_cases e4 : x.sessions[j].sub ∈ pathF x.doc x.sessions[i].sub
  rw [decide_eq_true e4] at hc
  have q : dB (ApartP x) = false := dB_no fun w => w j i ⟨hj, hi, fun e => e1 e.symm, e3, e2, e4⟩
  (refine ⟨⟨true, [], _, _, _, _⟩, hc, co ?_ ?_ ?_ ?_⟩; rotate_left 3)
  (refine ⟨[], [], ?_⟩; rotate_left)
  rw [decide_eq_false e4] at hc
  have q := upto hBI1 fun w => e4 w.2.2.2.2.2
  (refine ⟨⟨true, [], _, _, _, _⟩, hc, co ?_ ?_ ?_ ?_⟩; rotate_left 3)
  (refine ⟨m - 1, [], [], [(22, .val false [.f (iL (j + 1))]), (21, .val false [.f (iL x.sessions.length)]), (20, .val false [.f (ses x.sessions)]), (14, .val false [.f (iL i)]), (13, .val false [.f (iL x.sessions.length)]), (12, .val false [.f (ses x.sessions)]), (5, .val false [.pt 96 0 0]), (4, .val false [.f (iL i)]), (1, .val false [.pt 32 0 0])], [(32, some ⟨3, 11, [(htL x).map .f]⟩), (96, some ⟨3, 6, [(seL x.sessions[i]).map .f]⟩)], by omega, ⟨rfl, ?_, ?_⟩, (j + 1), ?_, ?_, rfl, rfl⟩; rotate_left 4)
  have hj : x.sessions.length ≤ j := by omega
  have q := upto hBO1 (below j (fun a ha => inSe_out (.inl (by omega))) hBI1)
  (refine ⟨mo - 1, [], [], [(14, .val false [.f (iL (i + 1))]), (13, .val false [.f (iL x.sessions.length)]), (12, .val false [.f (ses x.sessions)]), (1, .val false [.pt 32 0 0])], [(32, some ⟨3, 11, [(htL x).map .f]⟩)], by omega, ⟨rfl, ?_, ?_⟩, (i + 1), ?_, ?_, rfl, rfl⟩; rotate_left 4)
  have hi : x.sessions.length ≤ i := by omega
  have q : dB (ApartP x) = true := dB_yes fun a b => below i (fun c hc a => inSe_out (.inr (by omega))) hBO1 b a
  (refine ⟨[], [], ?_⟩; rotate_left)
  all_goals try exact don
end Go.Proofs.YtecnmodeggnjoaaGreat.Ac
set_option linter.unusedVariables false
set_option linter.unusedSimpArgs false
set_option maxRecDepth 20000
set_option maxHeartbeats 40000000
namespace Go.Proofs.YtecnmodeggnjoaaGreat.Ac
open Go.RowKit
theorem law_Apart (x : Ht) (hx : HtIn x) : FC Tryz.prog 7 [(true, htL x)] [] [(false, [.f (bL true)])] := by
  have zA := szHost_ok x (2 ^ 20) (by omega) hx
  refine gr Tryz.func7 Tryz.ntmps7 trivial ?_
  refine ⟨([], _), zA, nx ?_⟩
  refine ⟨fun h => nx ?_, fun h => nx ?_⟩
  exact ⟨[], [], don⟩
  have hA : ((szHt x : Nat) : Int) ≤ 2 ^ 20 := by unfold szL at h; split at h <;> omega
  have hg := hx.g (by omega)
  have tA := toHost_ok x (by omega)
  have sp := ap_spec x hg
  have im := ap_impl x hg
  have eqh := eqHost_refl x (by omega)
  generalize apF x = r at sp im
  obtain ⟨b, c⟩ := r
  dsimp only at sp im
  refine ⟨(_, _), tA, nx ?_⟩
  refine ⟨⟨true, [], _, _, _, _⟩, sp, cd ?_⟩
  refine ⟨(_, _), tA, nx ?_⟩
  refine ⟨⟨true, [], _, _, _, _⟩, im, cd ?_⟩
  refine ⟨fun h => absurd rfl h, fun h => nx ?_⟩
  refine ⟨fun h => absurd rfl h, fun h => nx ?_⟩
  refine ⟨(_, _), tA, nx ?_⟩
  refine ⟨⟨true, [], _, _, _, _⟩, eqh, cd ?_⟩
  exact ⟨[], [], don⟩
end Go.Proofs.YtecnmodeggnjoaaGreat.Ac
