/- Several of our texts, one behind the other, without what this claim does not need: Lj, Hw. -/
import Derived.Test.YtecnmodeggnjoaaGreatZ2e4902f1
import Derived.Test.YtecnmodeggnjoaaGreatZ20b4863c
set_option linter.unusedVariables false
set_option linter.unusedSimpArgs false
set_option maxRecDepth 20000
set_option maxHeartbeats 20000000
namespace Go.Proofs.YtecnmodeggnjoaaGreat.Ac
open Go.RowKit
theorem l09Events_ok (x : Ht) (hn : NumP x) (hl : x.events.length < 2 ^ 28) : FC Tryz.prog 186 [(true, htL x)] [] [(false, [.f (bL (dB (x.events.length ≤ 40 ∧ ∀ e ∈ x.events, EvP x e)))])] := by
  have n3 := hn.nxt
  have w1 : IntKind.i64.wrap (x.next - 1) = x.next - 1 := by rw [IntKind.wrap_i64]; omega
  have hel : ((x.events.map evL).length : Int) = x.events.length := by rw [List.length_map]
  refine gr Tryz.func186 Tryz.ntmps186 trivial ?_
  rw [hel]
  by_cases k7 : (x.events.length : Int) > 40
  · have q : dB (x.events.length ≤ 40 ∧ ∀ e ∈ x.events, EvP x e) = false := dB_no fun w => by have := w.1; omega
    refine ⟨fun h => nx ?_, fun h => absurd h (fun w => w k7)⟩
    exact ⟨[], [], don⟩
  refine ⟨fun h => absurd h (k7), fun h => nx ?_⟩
  (refine ⟨fun m es hs => ∃ (i : Nat), (m + i = x.events.length) ∧ (∀ j (hj : j < x.events.length), j < i → EvP x x.events[j]) ∧ es = [(3, .val false [.f (iL i)]), (1, .val false [.pt 32 0 0])] ∧ hs = [(32, some ⟨3, 11, [(htL x).map .f]⟩)], ⟨x.events.length, [], [], _, _, don, 0, don, don, rfl, rfl⟩, ?_⟩; rintro m _ _ ⟨i, hLEV0, hLEV1, rfl, rfl⟩; refine nx ?_)
  refine ⟨fun h => nx ?_, fun h => nx ?_⟩
  have hi : i < x.events.length := by simpa using h
  refine ⟨(i, evL x.events[i]), ⟨rfl, by simp [hi]⟩, nx ?_⟩
  rw [w1]
  have no : ¬ EvP x x.events[i] → dB (x.events.length ≤ 40 ∧ ∀ e ∈ x.events, EvP x e) = false := fun h => dB_no fun w => h (w.2 _ (List.getElem_mem _))
  by_cases k1 : 1 ≤ x.events[i].session ∧ x.events[i].session ≤ x.next - 1
  case neg =>
    have q := no fun w => k1 w.1
    refine ⟨([], _), in_f k1, nx ?_⟩
    exact ⟨[], [], don⟩
  refine ⟨([], _), in_t k1, nx ?_⟩
  by_cases k2 : 0 ≤ x.events[i].code ∧ x.events[i].code ≤ 21
  case neg =>
    have q := no fun w => k2 w.2.1
    refine ⟨([], _), in_f k2, nx ?_⟩
    exact ⟨[], [], don⟩
  refine ⟨([], _), in_t k2, nx ?_⟩
  by_cases k3 : 0 ≤ x.events[i].node ∧ x.events[i].node ≤ 999999
  case neg =>
    have q := no fun w => k3 w.2.2
    refine ⟨([], _), in_f k3, nx ?_⟩
    exact ⟨[], [], don⟩
  refine ⟨([], _), in_t k3, nx ?_⟩
  have q : ∀ j (hj : j < x.events.length), j < i + 1 → EvP x x.events[j] := fun j hj hji => by
    by_cases e : j < i
    · exact hLEV1 j hj e
    · obtain rfl : j = i := by omega
      exact ⟨k1, k2, k3⟩
  exact ⟨m - 1, [], [], _, _, by omega, don, (i + 1), don, don, rfl, rfl⟩
  have hi : x.events.length ≤ i := by simpa using h
  have q : dB (x.events.length ≤ 40 ∧ ∀ e ∈ x.events, EvP x e) = true := dB_yes ⟨by omega, fun e he => by
    obtain ⟨j, hj, rfl⟩ := List.mem_iff_getElem.1 he
    exact hLEV1 j hj (by omega)⟩
  exact ⟨[], [], don⟩
  all_goals (intros; omega)
theorem l09Session_ok (x : Ht) (hn : NumP x) (hd : DOK x.doc) (hT : TabP x.doc x.table) (s : Se) (hc64 : Dc64 s.copy) (hcl : s.copy.nodes.length < 2 ^ 28) : FC Tryz.prog 187 [(true, htL x), (true, seL s)] [] [(false, [.f (bL (dB (RightP x s)))])] := by
  have n1 := hn.clk
  have n2 := hn.lea
  have n3 := hn.nxt
  have w1 : IntKind.i64.wrap (x.next - 1) = x.next - 1 := by rw [IntKind.wrap_i64]; omega
  have w2 : IntKind.i64.wrap (x.clock + 1) = x.clock + 1 := by rw [IntKind.wrap_i64]; omega
  have w3 : IntKind.i64.wrap (x.clock + x.lease) = x.clock + x.lease := by rw [IntKind.wrap_i64]; omega
  have hh := l02At_ok x.doc s.sub (by have := hd.len; omega)
  have hai := at_iff s.sub x.doc.nodes 0
  have hD := l02OK_ok s.copy hc64
  have hlen : ((s.copy.nodes.map ndL).length : Int) = s.copy.nodes.length := by rw [List.length_map]
  have hz : s.copy.nodes = [] ↔ (s.copy.nodes.length : Int) = 0 := by rw [← List.length_eq_zero_iff]; omega
  refine gr Tryz.func187 Tryz.ntmps187 trivial ?_
  rw [w1]
  by_cases k1 : 1 ≤ s.id ∧ s.id ≤ x.next - 1
  case neg =>
    have q : dB (RightP x s) = false := dB_no fun w => k1 w.idr
    refine ⟨([], _), in_f k1, nx ?_⟩
    exact ⟨[], [], don⟩
  refine ⟨([], _), in_t k1, nx ?_⟩
  rw [w2, w3]
  by_cases k2 : x.clock + 1 ≤ s.til ∧ s.til ≤ x.clock + x.lease
  case neg =>
    have q : dB (RightP x s) = false := dB_no fun w => k2 w.til
    refine ⟨([], _), in_f k2, nx ?_⟩
    exact ⟨[], [], don⟩
  refine ⟨([], _), in_t k2, nx ?_⟩
  by_cases k3 : s.sub = 0
  · refine ⟨fun h => nx ?_, fun h => absurd h (fun w => w k3)⟩
    by_cases z1 : s.copy.root = 0
    case neg =>
      have q : dB (RightP x s) = false := dB_no fun w => z1 (w.zer k3).1
      refine ⟨fun h => absurd h (z1), fun h => nx ?_⟩
      exact ⟨[], [], don⟩
    refine ⟨fun h => nx ?_, fun h => absurd h (fun w => w z1)⟩
    by_cases z2 : s.copy.next = 0
    case neg =>
      have q : dB (RightP x s) = false := dB_no fun w => z2 (w.zer k3).2.1
      refine ⟨fun h => absurd h (z2), fun h => nx ?_⟩
      exact ⟨[], [], don⟩
    refine ⟨fun h => nx ?_, fun h => absurd h (fun w => w z2)⟩
    rw [hlen]
    by_cases z3 : (s.copy.nodes.length : Int) = 0
    case neg =>
      have q : dB (RightP x s) = false := dB_no fun w => z3 (hz.1 (w.zer k3).2.2)
      refine ⟨fun h => absurd h (z3), fun h => nx ?_⟩
      exact ⟨[], [], don⟩
    have q : dB (RightP x s) = true := dB_yes ⟨k1, k2, fun _ => ⟨z1, z2, hz.2 z3⟩, fun e => absurd k3 e, fun e => absurd k3 e, fun e => absurd k3 e, fun e => absurd k3 e⟩
    refine ⟨fun h => nx ?_, fun h => absurd h (fun w => w z3)⟩
    exact ⟨[], [], don⟩
  refine ⟨fun h => absurd h (k3), fun h => nx ?_⟩
  refine ⟨([], _), hh, nx ?_⟩
  by_cases k4 : 0 ≤ atFrom s.sub 0 x.doc.nodes
  case neg =>
    have q : dB (RightP x s) = false := dB_no fun w => k4 (hai.2 (w.has k3))
    refine ⟨fun h => absurd h (by omega), fun h => nx ?_⟩
    exact ⟨[], [], don⟩
  refine ⟨fun h => nx ?_, fun h => absurd h (by omega)⟩
  cases k5 : dokB s.copy with
  | false =>
    rw [k5] at hD
    have q : dB (RightP x s) = false := dB_no fun w => by have := dokB_iff.2 (w.cop k3); rw [k5] at this; cases this
    refine ⟨([], _), hD, nx ?_⟩
    exact ⟨[], [], don⟩
  | true =>
  rw [k5] at hD
  refine ⟨([], _), hD, nx ?_⟩
  by_cases k6 : s.copy.root = s.sub
  case neg =>
    have q : dB (RightP x s) = false := dB_no fun w => k6 (w.rt k3)
    refine ⟨fun h => absurd h (k6), fun h => nx ?_⟩
    exact ⟨[], [], don⟩
  refine ⟨fun h => nx ?_, fun h => absurd h (fun w => w k6)⟩
  have hG := hT.g
  have hcv := l07Cover_ok x.doc hd x.table.holds (by have := hG.hg.len; omega) hG.hg.md s.id s.sub (hai.1 k4)
  refine ⟨([], _), hcv, nx ?_⟩
  by_cases k7 : coverF x.doc x.table.holds s.id s.sub = 5
  · have q : dB (RightP x s) = true := dB_yes ⟨k1, k2, fun e => absurd e k3, fun _ => hai.1 k4, fun _ => dokB_iff.1 k5, fun _ => k6, fun _ => k7⟩
    refine ⟨fun h => nx ?_, fun h => absurd h (fun w => w k7)⟩
    exact ⟨[], [], don⟩
  · have q : dB (RightP x s) = false := dB_no fun w => k7 (w.cov k3)
    refine ⟨fun h => absurd h (k7), fun h => nx ?_⟩
    exact ⟨[], [], don⟩
theorem l09Table_ok (x : Ht) (hg : HtG x) (hd : DOK x.doc) : FC Tryz.prog 185 [(true, htL x)] [] [(false, [.f (bL (dB (TablP x)))])] := by
  have h1 := hg.hl
  have h2 := hg.wl
  have h3 := hg.sel
  have hT := specTableOK_ok x.doc hg.d64 (by have := hd.len; omega) x.table (by omega) (by omega)
  refine gr Tryz.func185 Tryz.ntmps185 trivial ?_
  by_cases kt : DOK x.doc ∧ TabP x.doc x.table
  case neg =>
    have q : dB (TablP x) = false := dB_no fun w => kt ⟨hd, w.tab⟩
    refine ⟨([], _), hT.x kt, nx ?_⟩
    exact ⟨[], [], don⟩
  have hG := kt.2.g
  have hP := l07Peace_ok x.doc hd x.table.holds hG.hg hG.rise
  refine ⟨([], _), hT.y kt, nx ?_⟩
  by_cases kp : peaceP x.doc x.table.holds
  case neg =>
    have q : dB (TablP x) = false := dB_no fun w => kp w.pea
    refine ⟨([], _), hP.x kp, nx ?_⟩
    exact ⟨[], [], don⟩
  refine ⟨([], _), hP.y kp, nx ?_⟩
  (refine ⟨fun m es hs => ∃ (i : Nat), (m + i = x.table.holds.length) ∧ (∀ j (hj : j < x.table.holds.length), j < i → HasS x.sessions x.table.holds[j].session) ∧ es = [(3, .val false [.f (iL i)]), (1, .val false [.pt 32 0 0])] ∧ hs = [(32, some ⟨3, 11, [(htL x).map .f]⟩)], ⟨x.table.holds.length, [], [], _, _, don, 0, don, don, rfl, rfl⟩, ?_⟩; rintro m _ _ ⟨i, hLTA0, hLTA1, rfl, rfl⟩; refine nx ?_)
  refine ⟨fun h => nx ?_, fun h => nx ?_⟩
  have hi : i < x.table.holds.length := by simpa using h
  refine ⟨(i, hoL x.table.holds[i]), ⟨rfl, by simp [hi]⟩, nx ?_⟩
  have hse := se_neg x.sessions x.table.holds[i].session
  refine ⟨([], _), l09At_ok x x.table.holds[i].session (by omega), nx ?_⟩
  by_cases k1 : seF x.sessions x.table.holds[i].session < 0
  · have q : dB (TablP x) = false := dB_no fun w => hse.1 k1 (w.ses _ (List.mem_append_left _ (List.getElem_mem _)))
    refine ⟨fun h => nx ?_, fun h => absurd h (fun w => w k1)⟩
    exact ⟨[], [], don⟩
  · have q : ∀ j (hj : j < x.table.holds.length), j < i + 1 → HasS x.sessions x.table.holds[j].session := fun j hj hji => by
      by_cases e : j < i
      · exact hLTA1 j hj e
      · obtain rfl : j = i := by omega
        exact Classical.byContradiction fun w => k1 (hse.2 w)
    refine ⟨fun h => absurd h (k1), fun h => nx ?_⟩
    exact ⟨m - 1, [], [], _, _, by omega, don, (i + 1), don, don, rfl, rfl⟩
  have hi : x.table.holds.length ≤ i := by simpa using h
  (refine ⟨fun m es hs => ∃ (u : Nat), (m + u = x.table.waits.length) ∧ (∀ j (hj : j < x.table.waits.length), j < u → HasS x.sessions x.table.waits[j].session ∧ circF x.doc x.table x.table.waits[j].session = []) ∧ es = [(4, .val false [.f (iL u)]), (1, .val false [.pt 32 0 0])] ∧ hs = [(32, some ⟨3, 11, [(htL x).map .f]⟩)], ⟨x.table.waits.length, [], [], _, _, don, 0, don, don, rfl, rfl⟩, ?_⟩; rintro m _ _ ⟨u, hLTB0, hLTB1, rfl, rfl⟩; refine nx ?_)
  refine ⟨fun h => nx ?_, fun h => nx ?_⟩
  have hu : u < x.table.waits.length := by simpa using h
  refine ⟨(u, hoL x.table.waits[u]), ⟨rfl, by simp [hu]⟩, nx ?_⟩
  have hse := se_neg x.sessions x.table.waits[u].session
  refine ⟨([], _), l09At_ok x x.table.waits[u].session (by omega), nx ?_⟩
  by_cases k1 : seF x.sessions x.table.waits[u].session < 0
  · have q : dB (TablP x) = false := dB_no fun w => hse.1 k1 (w.ses _ (List.mem_append_right _ (List.getElem_mem _)))
    refine ⟨fun h => nx ?_, fun h => absurd h (fun w => w k1)⟩
    exact ⟨[], [], don⟩
  refine ⟨fun h => absurd h (k1), fun h => nx ?_⟩
  refine ⟨(u, hoL x.table.waits[u]), ⟨rfl, by simp [hu]⟩, nx ?_⟩
  refine ⟨(_, _), l08Circle_ok x.doc hd x.table hG x.table.waits[u].session, nx ?_⟩
  by_cases k2 : circF x.doc x.table x.table.waits[u].session = []
  · have hz : (circF x.doc x.table x.table.waits[u].session).length = 0 := by rw [k2]; rfl
    have q : ∀ j (hj : j < x.table.waits.length), j < u + 1 → HasS x.sessions x.table.waits[j].session ∧ circF x.doc x.table x.table.waits[j].session = [] := fun j hj hji => by
      by_cases e : j < u
      · exact hLTB1 j hj e
      · obtain rfl : j = u := by omega
        exact ⟨Classical.byContradiction fun w => k1 (hse.2 w), k2⟩
    refine ⟨fun h => absurd h (by omega), fun h => nx ?_⟩
    exact ⟨m - 1, [], [], _, _, by omega, don, (u + 1), don, don, rfl, rfl⟩
  · have hz : 0 < (circF x.doc x.table x.table.waits[u].session).length := List.length_pos_iff.2 k2
    have q : dB (TablP x) = false := dB_no fun w => k2 (w.cir _ (List.getElem_mem _))
    refine ⟨fun h => nx ?_, fun h => absurd h (by omega)⟩
    exact ⟨[], [], don⟩
  have hu : x.table.waits.length ≤ u := by simpa using h
  have q : dB (TablP x) = true := dB_yes ⟨kt.2, kp, fun h hh => by
    rcases List.mem_append.1 hh with hh | hh
    · obtain ⟨j, hj, rfl⟩ := List.mem_iff_getElem.1 hh
      exact hLTA1 j hj (by omega)
    · obtain ⟨j, hj, rfl⟩ := List.mem_iff_getElem.1 hh
      exact (hLTB1 j hj (by omega)).1, fun w hw => by
    obtain ⟨j, hj, rfl⟩ := List.mem_iff_getElem.1 hw
    exact (hLTB1 j hj (by omega)).2⟩
  exact ⟨[], [], don⟩
  all_goals (intros; omega)
theorem l09OK_ok (x : Ht) (hg : HtG x) : FC Tryz.prog 103 [(true, htL x)] [] [(false, [.f (bL (dB (HostP x)))])] := by
  have hS := l03OK_ok x.schema (by have := hg.sl; omega) hg.sb
  have hD := l02OK_ok x.doc hg.d64
  have hsl : ((x.sessions.map seL).length : Int) = x.sessions.length := by rw [List.length_map]
  refine gr Tryz.func103 Tryz.ntmps103 trivial ?_
  by_cases k1 : SchemaP x.schema
  case neg =>
    have q : dB (HostP x) = false := dB_no fun w => k1 w.sch
    refine ⟨([], _), hS.x k1, nx ?_⟩
    exact ⟨[], [], don⟩
  refine ⟨([], _), hS.y k1, nx ?_⟩
  cases k2 : dokB x.doc with
  | false =>
    rw [k2] at hD
    have q : dB (HostP x) = false := dB_no fun w => by have := dokB_iff.2 w.doc; rw [k2] at this; cases this
    refine ⟨([], _), hD, nx ?_⟩
    exact ⟨[], [], don⟩
  | true =>
  rw [k2] at hD
  have hd := dokB_iff.1 k2
  refine ⟨([], _), hD, nx ?_⟩
  by_cases k3 : 0 ≤ x.clock ∧ x.clock ≤ 999999
  case neg =>
    have q : dB (HostP x) = false := dB_no fun w => k3 w.num.clk
    refine ⟨([], _), in_f k3, nx ?_⟩
    exact ⟨[], [], don⟩
  refine ⟨([], _), in_t k3, nx ?_⟩
  by_cases k4 : 1 ≤ x.lease ∧ x.lease ≤ 500
  case neg =>
    have q : dB (HostP x) = false := dB_no fun w => k4 w.num.lea
    refine ⟨([], _), in_f k4, nx ?_⟩
    exact ⟨[], [], don⟩
  refine ⟨([], _), in_t k4, nx ?_⟩
  by_cases k5 : 1 ≤ x.next ∧ x.next ≤ 1000
  case neg =>
    have q : dB (HostP x) = false := dB_no fun w => k5 w.num.nxt
    refine ⟨([], _), in_f k5, nx ?_⟩
    exact ⟨[], [], don⟩
  refine ⟨([], _), in_t k5, nx ?_⟩
  have hn : NumP x := ⟨k3, k4, k5⟩
  rw [hsl]
  by_cases k6 : (x.sessions.length : Int) > 6
  · have q : dB (HostP x) = false := dB_no fun w => by have := w.sl; omega
    refine ⟨fun h => nx ?_, fun h => absurd h (fun w => w k6)⟩
    exact ⟨[], [], don⟩
  refine ⟨fun h => absurd h (k6), fun h => nx ?_⟩
  refine ⟨([], _), l05Doc_ok x.schema (by have := hg.sl; omega) (k1.rug hg.sb hg.ss) x.doc hd, nx ?_⟩
  by_cases k8 : (chkF x.schema x.doc.nodes (orderF x.doc.nodes 6 x.doc.root)).2 = 0
  case neg =>
    have q : dB (HostP x) = false := dB_no fun w => k8 w.chk
    refine ⟨fun h => nx ?_, fun h => absurd h (fun w => w k8)⟩
    exact ⟨[], [], don⟩
  refine ⟨fun h => absurd h (fun w => w k8), fun h => nx ?_⟩
  (refine ⟨fun m es hs => ∃ (i : Nat), (m + i = x.sessions.length) ∧ (∀ j, j + 1 < i → IncP x.sessions j) ∧ es = [(5, .val false [.f (iL i)]), (1, .val false [.pt 32 0 0])] ∧ hs = [(32, some ⟨3, 11, [(htL x).map .f]⟩)], ⟨x.sessions.length, [], [], _, _, don, 0, don, don, rfl, rfl⟩, ?_⟩; rintro m _ _ ⟨i, hOKA0, hOKA1, rfl, rfl⟩; refine nx ?_)
  refine ⟨fun h => nx ?_, fun h => nx ?_⟩
  have hi : i < x.sessions.length := by simpa using h
  by_cases k0 : i = 0
  · have qi : ∀ j, j + 1 < i + 1 → IncP x.sessions j := fun j hj => by omega
    refine ⟨fun h => absurd h (by omega), fun h => nx ?_⟩
    exact ⟨m - 1, [], [], _, _, by omega, don, (i + 1), don, don, rfl, rfl⟩
  refine ⟨fun h => nx ?_, fun h => absurd h (by omega)⟩
  refine ⟨(i, seL x.sessions[i]), ⟨rfl, by simp [hi]⟩, nx ?_⟩
  refine ⟨(i - 1, seL (x.sessions[i - 1]'(by omega))), ⟨by rw [IntKind.wrap_i64]; omega, by simp [show i - 1 < x.sessions.length by omega]⟩, nx ?_⟩
  by_cases ki : (x.sessions[i - 1]'(by omega)).id < x.sessions[i].id
  · have qi : ∀ j, j + 1 < i + 1 → IncP x.sessions j := fun j hj => by
      by_cases e : j + 1 < i
      · exact hOKA1 j e
      · obtain rfl : i = j + 1 := by omega
        exact fun _ => ki
    refine ⟨fun h => absurd h (by omega), fun h => nx ?_⟩
    exact ⟨m - 1, [], [], _, _, by omega, don, (i + 1), don, don, rfl, rfl⟩
  · have q : dB (HostP x) = false := dB_no fun w => by
      obtain ⟨j, rfl⟩ : ∃ j, i = j + 1 := ⟨i - 1, by omega⟩
      exact ki (w.inc j hi)
    refine ⟨fun h => nx ?_, fun h => absurd h (by omega)⟩
    exact ⟨[], [], don⟩
  have hi : x.sessions.length ≤ i := by simpa using h
  have hIn : ∀ j, IncP x.sessions j := fun j hj => hOKA1 j (by omega) hj
  have hT := l09Table_ok x hg hd
  have hE := l09Events_ok x hn hg.el
  by_cases k9 : TablP x
  case neg =>
    have q : dB (HostP x) = false := dB_no fun w => k9 w.tab
    refine ⟨([], _), hT.x k9, nx ?_⟩
    exact ⟨[], [], don⟩
  refine ⟨([], _), hT.y k9, nx ?_⟩
  by_cases k10 : x.events.length ≤ 40 ∧ ∀ e ∈ x.events, EvP x e
  case neg =>
    have q : dB (HostP x) = false := dB_no fun w => k10 ⟨w.el, w.evt⟩
    refine ⟨([], _), hE.x k10, nx ?_⟩
    exact ⟨[], [], don⟩
  refine ⟨([], _), hE.y k10, nx ?_⟩
  (refine ⟨fun m es hs => ∃ (u : Nat), (m + u = x.sessions.length) ∧ (∀ j (hj : j < x.sessions.length), j < u → RightP x x.sessions[j]) ∧ es = [(6, .val false [.f (iL u)]), (1, .val false [.pt 32 0 0])] ∧ hs = [(32, some ⟨3, 11, [(htL x).map .f]⟩)], ⟨x.sessions.length, [], [], _, _, don, 0, don, don, rfl, rfl⟩, ?_⟩; rintro m _ _ ⟨u, hOKB0, hOKB1, rfl, rfl⟩; refine nx ?_)
  refine ⟨fun h => nx ?_, fun h => nx ?_⟩
  have hu : u < x.sessions.length := by simpa using h
  obtain ⟨c1, c2, c3⟩ := hg.sc x.sessions[u] (List.getElem_mem _)
  have hR := l09Session_ok x hn hd k9.tab x.sessions[u] c2 c3
  refine ⟨(u, seL x.sessions[u]), ⟨rfl, by simp [hu]⟩, nx ?_⟩
  by_cases kr : RightP x x.sessions[u]
  case neg =>
    have q : dB (HostP x) = false := dB_no fun w => kr (w.rgt _ (List.getElem_mem _))
    refine ⟨([], _), hR.x kr, nx ?_⟩
    exact ⟨[], [], don⟩
  have qr : ∀ j (hj : j < x.sessions.length), j < u + 1 → RightP x x.sessions[j] := fun j hj hji => by
    by_cases e : j < u
    · exact hOKB1 j hj e
    · obtain rfl : j = u := by omega
      exact kr
  refine ⟨([], _), hR.y kr, nx ?_⟩
  exact ⟨m - 1, [], [], _, _, by omega, don, (u + 1), don, don, rfl, rfl⟩
  have hu : x.sessions.length ≤ u := by simpa using h
  have q : dB (HostP x) = true := dB_yes ⟨k1, hd, hn, by omega, k10.1, k8, k9, fun s hs => by
    obtain ⟨j, hj, rfl⟩ := List.mem_iff_getElem.1 hs
    exact hOKB1 j hj (by omega), hIn, k10.2⟩
  exact ⟨[], [], don⟩
  all_goals (intros; omega)
end Go.Proofs.YtecnmodeggnjoaaGreat.Ac
set_option linter.unusedVariables false
set_option linter.unusedSimpArgs false
set_option maxRecDepth 20000
set_option maxHeartbeats 20000000
namespace Go.Proofs.YtecnmodeggnjoaaGreat.Ac
open Go.RowKit
theorem cloneHo_ok (l : List Ho) (hl : l.length < 2 ^ 28) : FC Tryz.prog 121 [(false, [hos l])] [(1000, some ⟨0, 3, l.map hoW⟩)] [(false, [.row 1000 0 l.length])] := by
  refine gr Tryz.func121 Tryz.ntmps121 (⟨cl_hos _, trivial⟩) ?_
  intro b hb
  cases b with
  | true =>
    have e : l = [] := by simpa using hb rfl
    subst e
    refine nx ?_
    exact ⟨[], [(1000, 3)], don⟩
  | false =>
    refine nx ?_
    refine ⟨l.map hoW, fmap_mapL (fun _ => rfl) l, nx ?_⟩
    refine ⟨l.map hoW, ⟨rfl, by simp; omega⟩, nx ?_⟩
    exact ⟨[], [(1000, 128)], don⟩
noncomputable def waF (x : Ht) : List Ho × Int := if dB (HostP x) then (x.table.waits, 0) else ([], 1)
theorem wa_yes {x : Ht} (h : HostP x) : waF x = (x.table.waits, 0) := by unfold waF; rw [dB_yes h]; rfl
theorem wa_no {x : Ht} (h : ¬ HostP x) : waF x = ([], 1) := by unfold waF; rw [dB_no h]; rfl
theorem wa_spec (x : Ht) (hg : HtG x) : FC Tryz.prog 43 [(true, htL x)] [(1000, some ⟨0, 3, (waF x).1.map hoW⟩)] [(false, [.row 1000 0 (waF x).1.length]), (false, [.f (iL (waF x).2)])] := by
  have hh := l09OK_ok x hg
  have hwl := hg.wl
  by_cases k : HostP x
  · rw [wa_yes k]
    dsimp only
    refine gr Tryz.func43 Tryz.ntmps43 (⟨cl_hos _, trivial⟩) ?_
    refine ⟨([], _), hh.y k, nx ?_⟩
    refine ⟨x.table.waits.map hoW, fmap_mapL (fun _ => rfl) x.table.waits, nx ?_⟩
    refine ⟨x.table.waits.map hoW, ⟨rfl, by simp; omega⟩, nx ?_⟩
    exact ⟨[], [(1000, 208)], don⟩
  · rw [wa_no k]
    dsimp only
    refine gr Tryz.func43 Tryz.ntmps43 (⟨trivial, trivial⟩) ?_
    refine ⟨([], _), hh.x k, nx ?_⟩
    exact ⟨[], [(1000, 128)], don⟩
theorem wa_impl (x : Ht) (hg : HtG x) : FC Tryz.prog 44 [(true, htL x)] [(1000, some ⟨0, 3, (waF x).1.map hoW⟩)] [(false, [.row 1000 0 (waF x).1.length]), (false, [.f (iL (waF x).2)])] := by
  have hh := hostOK_ok x hg
  have hwl := hg.wl
  by_cases k : HostP x
  · rw [wa_yes k]
    dsimp only
    refine gr Tryz.func44 Tryz.ntmps44 (⟨cl_hos _, trivial⟩) ?_
    refine ⟨([], _), hh.y k, nx ?_⟩
    refine ⟨(_, _), cloneHo_ok x.table.waits (by omega), nx ?_⟩
    exact ⟨[], [(1000, 176)], don⟩
  · rw [wa_no k]
    dsimp only
    refine gr Tryz.func44 Tryz.ntmps44 (⟨trivial, trivial⟩) ?_
    refine ⟨([], _), hh.x k, nx ?_⟩
    exact ⟨[], [(1000, 7)], don⟩
end Go.Proofs.YtecnmodeggnjoaaGreat.Ac
