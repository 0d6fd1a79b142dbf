/- Several of our texts, one behind the other, without what this claim does not need: Ib, Id. -/
import Derived.Test.YtecnmodeggnjoaaGreatZe23bce82
import Derived.Test.YtecnmodeggnjoaaGreatZ20b4863c
import Derived.Test.YtecnmodeggnjoaaGreatZ2e4902f1
import Derived.Test.YtecnmodeggnjoaaGreatZb42bd22a
import Derived.Test.YtecnmodeggnjoaaGreatZ836f6a1a
set_option linter.unusedVariables false
set_option linter.unusedSimpArgs false
set_option maxRecDepth 20000
set_option maxHeartbeats 20000000
namespace Go.Proofs.YtecnmodeggnjoaaGreat.Ac
open Go.RowKit
def noSe : Se := ⟨0, 0, 0, ⟨0, 0, []⟩⟩
noncomputable def sfF (x : Ht) (id : Int) : Se × Int := if dB (HostP x) then (if seF x.sessions id < 0 then (noSe, 5) else (x.sessions.getD (seF x.sessions id).toNat noSe, 0)) else (noSe, 1)
theorem sf_no {x : Ht} {id : Int} (h : ¬ HostP x) : sfF x id = (noSe, 1) := by unfold sfF; rw [dB_no h]; rfl
theorem sf_out {x : Ht} {id : Int} (h : HostP x) (k : seF x.sessions id < 0) : sfF x id = (noSe, 5) := by unfold sfF; rw [dB_yes h, if_pos k]; rfl
theorem sf_at {x : Ht} {id : Int} (h : HostP x) {k : Nat} (hk : k < x.sessions.length) (e : seF x.sessions id = (k : Int)) : sfF x id = (x.sessions[k], 0) := by
  unfold sfF; rw [dB_yes h, e, if_neg (Int.not_lt.2 (Int.natCast_nonneg k))]; simp [hk]
theorem copy_kids {x : Ht} (h : HostP x) {s : Se} (hs : s ∈ x.sessions) : ∀ n ∈ s.copy.nodes, n.kids.length < 2 ^ 28 := by
  intro n hn
  by_cases k : s.sub = 0
  · rw [((h.rgt s hs).zer k).2.2] at hn; cases hn
  · have := ((h.rgt s hs).cop k).kl' n hn; omega
def seC (x : Se) : List A := [.f (iL x.id), .f (iL x.til), .f (iL x.sub), .f (iL x.copy.root), .f (iL x.copy.next), .row 1000 0 x.copy.nodes.length]
theorem sf_spec (x : Ht) (hg : HtG x) (id : Int) : FC Tryz.prog 51 [(true, htL x), (false, [iL id])] [(1000, some ⟨0, 5, (sfF x id).1.copy.nodes.map ndW⟩)] [(true, seC (sfF x id).1), (false, [.f (iL (sfF x id).2)])] := by
  have hh := l09OK_ok x hg
  by_cases hP : HostP x
  case neg =>
    rw [sf_no hP]
    refine gr Tryz.func51 Tryz.ntmps51 (⟨trivial, trivial⟩) ?_
    refine ⟨([], _), hh.x hP, nx ?_⟩
    exact ⟨[], [(1000, 7)], don⟩
  have hsl := hP.sl
  have hl := l09At_ok x id (by omega)
  rcases se_at x.sessions id with ⟨h1, h2⟩ | ⟨k, hk, h1, h2⟩
  · rw [sf_out hP h1]
    refine gr Tryz.func51 Tryz.ntmps51 (⟨trivial, trivial⟩) ?_
    refine ⟨([], _), hh.y hP, nx ?_⟩
    refine ⟨([], _), hl, nx ?_⟩
    refine ⟨fun h => nx ?_, fun h => absurd h (by omega)⟩
    exact ⟨[], [(1000, 7)], don⟩
  · rw [sf_at hP hk h1]
    rw [h1] at hl
    obtain ⟨_, _, hc⟩ := hg.sc _ (List.getElem_mem hk)
    have hkk : ∀ n ∈ x.sessions[k].copy.nodes, n.kids.length < 2 ^ 28 := copy_kids hP (List.getElem_mem hk)
    refine gr Tryz.func51 Tryz.ntmps51 (⟨cl_nds _, trivial⟩) ?_
    refine ⟨([], _), hh.y hP, nx ?_⟩
    refine ⟨([], _), hl, nx ?_⟩
    refine ⟨fun h => absurd h (by omega), fun h => nx ?_⟩
    refine ⟨(k, seL x.sessions[k]), ⟨rfl, by simp [hk]⟩, nx ?_⟩
    refine ⟨(_, _), l02Own_ok x.sessions[k].copy hc hkk, nx ?_⟩
    exact ⟨[], [(1000, 416)], don⟩
theorem sessionO_no (x : Ht) (s : Int) (hl : x.sessions.length < 2 ^ 62) (hs : seF x.sessions s < 0) : GCalls Tryz.prog 131 [(1, some ⟨3, 11, [(htL x).map .f]⟩)] [(false, [.pt 1 0 0]), (false, [.f (iL s)])] [(1, some ⟨3, 11, [(htL x).map .f]⟩)] [(false, [.f (.v (.pointer none))])] := by
  have hx := ixfSession_ok x.sessions 216 (.pv [iL s]) (fun x : Se => decide (x.id = s)) hl fun x hx => session1_ok x s
  refine gr Tryz.func131 Tryz.ntmps131 (⟨trivial, trivial⟩) ?_
  refine ⟨⟨true, [], _, _, _, _⟩, hx, cd ?_⟩
  refine ⟨fun h => nx ?_, fun h => absurd h (fun w => w hs)⟩
  exact ⟨[], [], don⟩
theorem sessionO_yes (x : Ht) (s : Int) (hl : x.sessions.length < 2 ^ 62) (k : Nat) (hk : k < x.sessions.length) (h : seF x.sessions s = (k : Int)) : GCalls Tryz.prog 131 [(1, some ⟨3, 11, [(htL x).map .f]⟩)] [(false, [.pt 1 0 0]), (false, [.f (iL s)])] [(1, some ⟨3, 11, [(htL x).map .f]⟩)] [(false, [.f (.pv (seL x.sessions[k]))])] := by
  have hx := ixfSession_ok x.sessions 216 (.pv [iL s]) (fun x : Se => decide (x.id = s)) hl fun x hx => session1_ok x s
  have h' : ixP (fun x : Se => decide (x.id = s)) 0 x.sessions = (k : Int) := h
  rw [h'] at hx
  refine gr Tryz.func131 Tryz.ntmps131 (⟨trivial, trivial⟩) ?_
  refine ⟨⟨true, [], _, _, _, _⟩, hx, cd ?_⟩
  refine ⟨fun h => absurd h (by omega), fun h => nx ?_⟩
  refine ⟨(k, seL x.sessions[k]), ⟨rfl, by simp [hk]⟩, nx ?_⟩
  exact ⟨[], [], don⟩
theorem sf_impl (x : Ht) (hg : HtG x) (id : Int) : FC Tryz.prog 52 [(true, htL x), (false, [iL id])] [(1000, some ⟨0, 5, (sfF x id).1.copy.nodes.map ndW⟩)] [(true, seC (sfF x id).1), (false, [.f (iL (sfF x id).2)])] := by
  have hh := hostOK_ok x hg
  by_cases hP : HostP x
  case neg =>
    rw [sf_no hP]
    refine gr Tryz.func52 Tryz.ntmps52 (⟨trivial, trivial⟩) ?_
    refine ⟨([], _), hh.x hP, nx ?_⟩
    exact ⟨[], [(1000, 7)], don⟩
  have hsl := hP.sl
  rcases se_at x.sessions id with ⟨h1, h2⟩ | ⟨k, hk, h1, h2⟩
  · rw [sf_out hP h1]
    refine gr Tryz.func52 Tryz.ntmps52 (⟨trivial, trivial⟩) ?_
    refine ⟨([], _), hh.y hP, nx ?_⟩
    refine ⟨⟨false, [(1, 48)], _, _, _, _⟩, sessionO_no x id (by omega) h1, cd ?_⟩
    exact ⟨[], [(1000, 7)], don⟩
  · rw [sf_at hP hk h1]
    obtain ⟨_, _, hc⟩ := hg.sc _ (List.getElem_mem hk)
    have hkk : ∀ n ∈ x.sessions[k].copy.nodes, n.kids.length < 2 ^ 28 := copy_kids hP (List.getElem_mem hk)
    refine gr Tryz.func52 Tryz.ntmps52 (⟨cl_nds _, trivial⟩) ?_
    refine ⟨([], _), hh.y hP, nx ?_⟩
    refine ⟨⟨false, [(1, 48)], _, _, _, _⟩, sessionO_yes x id (by omega) k hk h1, cd ?_⟩
    refine ⟨(_, _), docCopied_ok x.sessions[k].copy hc hkk, nx ?_⟩
    exact ⟨[], [(1000, 400)], don⟩
end Go.Proofs.YtecnmodeggnjoaaGreat.Ac
set_option linter.unusedVariables false
set_option linter.unusedSimpArgs false
set_option maxRecDepth 20000
set_option maxHeartbeats 40000000
namespace Go.Proofs.YtecnmodeggnjoaaGreat.Ac
open Go.RowKit
theorem markSession_ok (id til sub root next : Int) (x : List Nd) (k : Int) (hk : 0 ≤ k ∧ k + mkZ x < 2 ^ 62) : GCalls Tryz.prog 54 [(1, some ⟨0, 5, x.map ndW⟩)] [(true, [.f (iL id), .f (iL til), .f (iL sub), .f (iL root), .f (iL next), .row 1 0 x.length]), (false, [.f (iL k)])] [(1, some ⟨0, 5, (mkNs k x).map ndW⟩)] [(false, [.f (iL (k + mkZ x))])] := by
  refine gr Tryz.func54 Tryz.ntmps54 (⟨cl_nds _, trivial⟩) ?_
  refine ⟨⟨false, [(1, 1)], _, _, _, _⟩, markDoc_ok ⟨root, next, x⟩ k hk, cd ?_⟩
  exact ⟨[], [], don⟩
theorem heldSession_ok (id til sub root next k : Int) (x : List Nd) (hk : 0 ≤ k ∧ k + mkZ x < 2 ^ 62) : FC Tryz.prog 55 [(true, [iL id, iL til, iL sub, iL root, iL next, nds (mkNs k x)]), (false, [iL k])] [] [(false, [.f (iL (k + mkZ x))])] := by
  refine gr Tryz.func55 Tryz.ntmps55 trivial ?_
  refine ⟨([], _), heldDoc_ok root next k x hk, nx ?_⟩
  refine ⟨fun h => absurd h (by omega), fun h => nx ?_⟩
  exact ⟨[], [], don⟩
theorem sf_sz {x : Ht} {id : Int} : szSe (sfF x id).1 ≤ szSes x.sessions := by
  unfold sfF
  split
  · split
    · exact Nat.zero_le _
    · rename_i h
      by_cases k : (seF x.sessions id).toNat < x.sessions.length
      · rw [List.getD_eq_getElem?_getD, List.getElem?_eq_getElem k]
        exact szSe_le (List.getElem_mem k)
      · rw [List.getD_eq_getElem?_getD, List.getElem?_eq_none (by omega)]
        exact Nat.zero_le _
  · exact Nat.zero_le _
attribute [local simp] mkI_len mkNs_len mkTms_len mkRus_len mkSes_len mkHos_len mkEvs_len
theorem law_SessionOf (x : Ht) (id : Int) (hx : HtIn x) : FC Tryz.prog 11 [(true, htL x), (false, [iL id])] [] [(false, [.f (bL true)])] := by
  have zA := szHost_ok x (2 ^ 20) (by omega) hx
  refine gr Tryz.func11 Tryz.ntmps11 trivial ?_
  refine ⟨([], _), zA, nx ?_⟩
  refine ⟨fun h => nx ?_, fun h => nx ?_⟩
  exact ⟨[], [], don⟩
  have hA : ((szHt x : Nat) : Int) ≤ 2 ^ 20 := by unfold szL at h; split at h <;> omega
  clear h
  have hg := hx.g (by omega)
  have tA := toHost_ok x (by omega)
  have sp := sf_spec x hg id
  have im := sf_impl x hg id
  have eqh := eqHost_refl x (by omega)
  have hsz : szHt x = (x.schema.length + szRus x.schema) + (x.doc.nodes.length + szNs x.doc.nodes) + (x.sessions.length + szSes x.sessions) + (x.table.holds.length + x.table.waits.length) + x.events.length := rfl
  have hs := sf_sz (x := x) (id := id)
  generalize sfF x id = r at sp im hs
  obtain ⟨⟨i, t, u, ⟨dr, dn, ns⟩⟩, c⟩ := r
  unfold seC at sp im
  dsimp only at sp im hs
  have hs2 : szSe ⟨i, t, u, ⟨dr, dn, ns⟩⟩ = ns.length + szNs ns := rfl
  have eql := eqSession_refl ⟨i, t, u, ⟨dr, dn, ns⟩⟩ (by omega)
  have b1 := mkZRus_sz x.schema
  have b2 := mkZ_sz x.doc.nodes
  have b3 := mkZSes_sz x.sessions
  have b4 := mkZHos_sz x.table.holds
  have b5 := mkZHos_sz x.table.waits
  have b6 := mkZEvs_sz x.events
  have b7 := mkZ_sz ns
  have m1 := markHost_ok x 1 (by omega)
  have m3 := markSession_ok i t u dr dn ns 1 (by omega)
  have m4 := heldSession_ok i t u dr dn 1 ns (by omega)
  clear b1 b2 b3 b4 b5 b6 b7 hsz hs hs2
  refine ⟨(_, _), tA, nx ?_⟩
  refine ⟨⟨true, [], _, _, _, _⟩, sp, cd ?_⟩
  refine ⟨(_, _), tA, nx ?_⟩
  refine ⟨⟨true, [], _, _, _, _⟩, im, cd ?_⟩
  refine ⟨⟨true, [], _, _, _, _⟩, eql, cd ?_⟩
  refine ⟨fun h => absurd rfl h, fun h => nx ?_⟩
  refine ⟨(_, _), tA, nx ?_⟩
  refine ⟨⟨true, [], _, _, _, _⟩, eqh, cd ?_⟩
  refine ⟨⟨false, [(1, 480), (2, 481), (3, 482), (4, 483), (5, 484), (6, 485)], _, _, _, _⟩, m1, cd ?_⟩
  refine ⟨fun h => absurd h (by omega), fun h => nx ?_⟩
  refine ⟨⟨true, [], _, _, _, _⟩, eql, cd ?_⟩
  refine ⟨fun h => absurd rfl h, fun h => nx ?_⟩
  refine ⟨⟨false, [(1, 544)], _, _, _, _⟩, m3, cd ?_⟩
  refine ⟨⟨true, [], _, _, _, _⟩, m4, cd ?_⟩
  refine ⟨fun h => absurd h (by omega), fun h => nx ?_⟩
  refine ⟨fun h => absurd rfl h, fun h => nx ?_⟩
  refine ⟨(_, _), tA, nx ?_⟩
  refine ⟨⟨true, [], _, _, _, _⟩, im, cd ?_⟩
  refine ⟨⟨true, [], _, _, _, _⟩, eql, cd ?_⟩
  refine ⟨fun h => absurd rfl h, fun h => nx ?_⟩
  refine ⟨⟨true, [], _, _, _, _⟩, m4, cd ?_⟩
  refine ⟨fun h => absurd h (by omega), fun h => nx ?_⟩
  refine ⟨fun h => absurd rfl h, fun h => nx ?_⟩
  exact ⟨[], [], don⟩
end Go.Proofs.YtecnmodeggnjoaaGreat.Ac
