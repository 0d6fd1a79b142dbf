/- Several of our texts, one behind the other, without what this claim does not need: Wd. -/
import Derived.Test.YtecnmodeggnjoaaGreatZ2e4902f1
import Derived.Test.YtecnmodeggnjoaaGreatZ8aeebf09
set_option linter.unusedVariables false
set_option linter.unusedSimpArgs false
set_option maxRecDepth 20000
set_option maxHeartbeats 8000000
namespace Go.Proofs.YtecnmodeggnjoaaGreat.Ac
open Go.RowKit
theorem docOK_ok (d : Dc) (h64 : Dc64 d) : FC Tryz.prog 139 [(true, dcL d)] [] [(false, [.f (bL (dokB d))])] := by
  by_cases c1 : 1 ≤ (d.nodes.length : Int) ∧ (d.nodes.length : Int) ≤ 40
  rotate_left
  · rw [dokB_no fun h => c1 (by have := h.1; omega)]
    refine en Tryz.func139 Tryz.ntmps139 trivial ?_
    refine nw ?_
    refine ⟨([], _), within_f (by simpa using c1), ?_⟩
    refine nw ?_
    refine ⟨[], [], ?_⟩
    exact tel
  by_cases c2 : 2 ≤ d.next ∧ d.next ≤ 999999
  rotate_left
  · rw [dokB_no fun h => c2 h.2.1]
    refine en Tryz.func139 Tryz.ntmps139 trivial ?_
    refine nw ?_
    refine ⟨([], _), within_t (by simpa using c1), ?_⟩
    refine nw ?_
    refine ⟨([], _), within_f c2, ?_⟩
    refine nw ?_
    refine ⟨[], [], ?_⟩
    exact tel
  refine en Tryz.func139 Tryz.ntmps139 trivial ?_
  refine nw ?_
  refine ⟨([], _), within_t (by simpa using c1), ?_⟩
  refine nw ?_
  refine ⟨([], _), within_t c2, ?_⟩
  refine nw ?_
  refine ⟨fun (m : Nat) (es : Es) (hs : Hs) => ∃ i : Nat, m + i = d.nodes.length ∧ (∀ t (h : t < d.nodes.length), t < i → StepOK d.next d.nodes t h) ∧ es = [(24, .val false [.f (iL i)]), (23, .val false [.f (iL d.nodes.length)]), (22, .val false [.f (nds d.nodes)]), (1, .val false [.pt 32 0 0])] ∧ hs = [(32, some ⟨3, 3, [(dcL d).map .f]⟩)],
    ⟨d.nodes.length, [], [], _, _, ⟨?_, ?_, ?_⟩, 0, rfl, fun t h h' => by omega, rfl, rfl⟩, ?_⟩
  · rfl
  · refine tel1 ?_
    simp
  · exact tel
  rintro m es hs ⟨i, hm, hst, rfl, rfl⟩
  refine nw ?_
  refine ⟨fun h => ?_, fun h => ?_⟩
  · have hi : i < d.nodes.length := by omega
    refine nw ?_
    refine ⟨(i, ndL d.nodes[i]), ⟨rfl, by simp [hi]⟩, ?_⟩
    refine nw ?_
    refine ⟨by kernel_rfl, ?_⟩
    have hw : IntKind.i64.wrap (d.next - 1) = d.next - 1 := by rw [IntKind.wrap_i64]; omega
    refine nw ?_
    by_cases k1 : 1 ≤ d.nodes[i].id ∧ d.nodes[i].id ≤ d.next - 1
    rotate_left
    · refine ⟨([], _), within_f (by rw [hw]; exact k1), ?_⟩
      refine nw ?_
      refine ⟨by kernel_rfl, ?_⟩
      refine nw ?_
      refine ⟨[], [], ?_⟩
      refine tel1 ?_
      exact (dokB_no fun h => k1 (h.2.2.1 i hi).1.1).symm
    refine ⟨([], _), within_t (by rw [hw]; exact k1), ?_⟩
    refine nw ?_
    refine ⟨fun k0 => ?_, fun k0 => ?_⟩
    · have hi1 : i - 1 < d.nodes.length := by omega
      refine nw ?_
      refine ⟨(i - 1, ndL d.nodes[i - 1]), ⟨?_, by simp [hi1]⟩, ?_⟩
      · rw [IntKind.wrap_i64]; omega
      refine nw ?_
      refine ⟨fun k2 => ?_, fun k2 => ?_⟩
      · skip
        refine nw ?_
        refine ⟨by kernel_rfl, ?_⟩
        refine nw ?_
        refine ⟨[], [], ?_⟩
        refine tel1 ?_
        exact (dokB_no fun h => by have := (h.2.2.1 i hi).2 (i - 1) (by omega); omega).symm
      refine nw ?_
      by_cases k3 : 1 ≤ d.nodes[i].kind ∧ d.nodes[i].kind ≤ 8
      rotate_left
      · refine ⟨([], _), within_f k3, ?_⟩
        refine nw ?_
        refine ⟨by kernel_rfl, ?_⟩
        refine nw ?_
        refine ⟨[], [], ?_⟩
        refine tel1 ?_
        exact (dokB_no fun h => k3 (h.2.2.1 i hi).1.2.1).symm
      refine ⟨([], _), within_t k3, ?_⟩
      refine nw ?_
      by_cases k4 : 0 ≤ d.nodes[i].attr ∧ d.nodes[i].attr ≤ 99
      rotate_left
      · refine ⟨([], _), within_f k4, ?_⟩
        refine nw ?_
        refine ⟨by kernel_rfl, ?_⟩
        refine nw ?_
        refine ⟨[], [], ?_⟩
        refine tel1 ?_
        exact (dokB_no fun h => k4 (h.2.2.1 i hi).1.2.2.1).symm
      refine ⟨([], _), within_t k4, ?_⟩
      refine nw ?_
      refine ⟨fun k5 => ?_, fun k5 => ?_⟩
      · skip
        refine nw ?_
        refine ⟨by kernel_rfl, ?_⟩
        refine nw ?_
        refine ⟨[], [], ?_⟩
        refine tel1 ?_
        exact (dokB_no fun h => by have := (h.2.2.1 i hi).1.2.2.2.1; omega).symm
      refine nw ?_
      refine ⟨fun k6 => ?_, fun k6 => ?_⟩
      · skip
        refine nw ?_
        refine ⟨by kernel_rfl, ?_⟩
        refine nw ?_
        refine ⟨[], [], ?_⟩
        refine tel1 ?_
        exact (dokB_no fun h => by have := (h.2.2.1 i hi).1.2.2.2.2; simp at k6; omega).symm
      refine nw ?_
      refine ⟨by kernel_rfl, ?_⟩
      refine nw ?_
      refine ⟨m - 1, [], [], [(24, .val false [.f (iL (i + 1 : Nat))]), (23, .val false [.f (iL d.nodes.length)]), (22, .val false [.f (nds d.nodes)]), (1, .val false [.pt 32 0 0])], [(32, some ⟨3, 3, [(dcL d).map .f]⟩)], by omega, ⟨?_, ?_, ?_⟩, i + 1, by omega, ?_, rfl, rfl⟩
      · rfl
      · refine tel1 ?_
        exact wrap_suc (by omega)
      · exact tel
      · intro t ht hlt
        by_cases e : t = i
        · subst e
          exact ⟨⟨k1, k3, k4, by omega, by simp at k6; omega⟩, fun j hj => prev_lt hj ht hi1 k2⟩
        · exact hst t ht (by omega)
    · refine nw ?_
      by_cases k3 : 1 ≤ d.nodes[i].kind ∧ d.nodes[i].kind ≤ 8
      rotate_left
      · refine ⟨([], _), within_f k3, ?_⟩
        refine nw ?_
        refine ⟨by kernel_rfl, ?_⟩
        refine nw ?_
        refine ⟨[], [], ?_⟩
        refine tel1 ?_
        exact (dokB_no fun h => k3 (h.2.2.1 i hi).1.2.1).symm
      refine ⟨([], _), within_t k3, ?_⟩
      refine nw ?_
      by_cases k4 : 0 ≤ d.nodes[i].attr ∧ d.nodes[i].attr ≤ 99
      rotate_left
      · refine ⟨([], _), within_f k4, ?_⟩
        refine nw ?_
        refine ⟨by kernel_rfl, ?_⟩
        refine nw ?_
        refine ⟨[], [], ?_⟩
        refine tel1 ?_
        exact (dokB_no fun h => k4 (h.2.2.1 i hi).1.2.2.1).symm
      refine ⟨([], _), within_t k4, ?_⟩
      refine nw ?_
      refine ⟨fun k5 => ?_, fun k5 => ?_⟩
      · skip
        refine nw ?_
        refine ⟨by kernel_rfl, ?_⟩
        refine nw ?_
        refine ⟨[], [], ?_⟩
        refine tel1 ?_
        exact (dokB_no fun h => by have := (h.2.2.1 i hi).1.2.2.2.1; omega).symm
      refine nw ?_
      refine ⟨fun k6 => ?_, fun k6 => ?_⟩
      · skip
        refine nw ?_
        refine ⟨by kernel_rfl, ?_⟩
        refine nw ?_
        refine ⟨[], [], ?_⟩
        refine tel1 ?_
        exact (dokB_no fun h => by have := (h.2.2.1 i hi).1.2.2.2.2; simp at k6; omega).symm
      refine nw ?_
      refine ⟨by kernel_rfl, ?_⟩
      refine nw ?_
      refine ⟨m - 1, [], [], [(24, .val false [.f (iL (i + 1 : Nat))]), (23, .val false [.f (iL d.nodes.length)]), (22, .val false [.f (nds d.nodes)]), (1, .val false [.pt 32 0 0])], [(32, some ⟨3, 3, [(dcL d).map .f]⟩)], by omega, ⟨?_, ?_, ?_⟩, i + 1, by omega, ?_, rfl, rfl⟩
      · rfl
      · refine tel1 ?_
        exact wrap_suc (by omega)
      · exact tel
      · intro t ht hlt
        by_cases e : t = i
        · subst e
          exact ⟨⟨k1, k3, k4, by omega, by simp at k6; omega⟩, fun j hj => by omega⟩
        · exact hst t ht (by omega)
  · have hi : d.nodes.length = i := by omega
    refine nw ?_
    refine ⟨fun (m : Nat) (es : Es) (hs : Hs) => ∃ i : Nat, m + i = d.nodes.length ∧ SetOK d.root d.nodes (kidsTo d.nodes i) ∧ es = [(81, .val false [.f (iL i)]), (80, .val false [.f (iL d.nodes.length)]), (79, .val false [.f (nds d.nodes)]), (5, .val false [.mp 1248]), (1, .val false [.pt 32 0 0])] ∧ hs = [(1248, some ⟨4, 2, mpR (setM (kidsTo d.nodes i))⟩), (32, some ⟨3, 3, [(dcL d).map .f]⟩)],
      ⟨d.nodes.length, [], [], _, _, ⟨?_, ?_, ?_⟩, 0, rfl, ⟨by simp [kidsTo], fun k hk => by simp [kidsTo] at hk⟩, rfl, rfl⟩, ?_⟩
    · rfl
    · refine tel1 ?_
      simp
    · exact tel
    have hst' : ∀ t (h : t < d.nodes.length), StepOK d.next d.nodes t h := fun t h => hst t h (by omega)
    have hR : Rise d.nodes := rise_of c2.2 hst'
    clear hst hm h
    subst hi
    rintro m es hs ⟨i, hm, hset, rfl, rfl⟩
    refine nw ?_
    refine ⟨fun h => ?_, fun h => ?_⟩
    · have hi : i < d.nodes.length := by omega
      refine nw ?_
      refine ⟨(i, ndL d.nodes[i]), ⟨rfl, by simp [hi]⟩, ?_⟩
      refine nw ?_
      refine ⟨fun (m2 : Nat) (es : Es) (hs : Hs) => ∃ j : Nat, m2 + j = d.nodes[i].kids.length ∧ SetOK d.root d.nodes (kidsTo d.nodes i ++ d.nodes[i].kids.take j) ∧ es = [(88, .val false [.f (iL j)]), (87, .val false [.f (iL d.nodes[i].kids.length)]), (86, .val false [.f (ints d.nodes[i].kids)]), (81, .val false [.f (iL i)]), (80, .val false [.f (iL d.nodes.length)]), (79, .val false [.f (nds d.nodes)]), (5, .val false [.mp 1248]), (1, .val false [.pt 32 0 0])] ∧ hs = [(1248, some ⟨4, 2, mpR (setM (kidsTo d.nodes i ++ d.nodes[i].kids.take j))⟩), (32, some ⟨3, 3, [(dcL d).map .f]⟩)],
        ⟨d.nodes[i].kids.length, [], [], _, _, ⟨?_, ?_, ?_⟩, 0, rfl, by simpa using hset, rfl, rfl⟩, ?_⟩
      · rfl
      · refine tel1 ?_
        simp
      · refine tel1 ?_
        all_goals simp
      rintro m2 es hs ⟨j, hm2, hset2, rfl, rfl⟩
      refine nw ?_
      refine ⟨fun h => ?_, fun h => ?_⟩
      · have hj : j < d.nodes[i].kids.length := by omega
        obtain ⟨rest, hsp⟩ := kids_split hi hj
        refine nw ?_
        refine ⟨(j, intE d.nodes[i].kids[j]), ⟨rfl, by simp [hj]⟩, ?_⟩
        refine nw ?_
        have hk64 := h64.2 d.nodes[i] (List.getElem_mem _) d.nodes[i].kids[j] (List.getElem_mem _)
        have hhas := has_ok d d.nodes[i].kids[j] hR hk64 (by omega)
        have hget := setM_get (kidsTo d.nodes i ++ d.nodes[i].kids.take j) d.nodes[i].kids[j]
        by_cases k1 : d.nodes[i].kids[j] ∈ kidsTo d.nodes i ++ d.nodes[i].kids.take j
        · rw [decide_eq_true k1] at hget
          refine ⟨(_, .bool true), ⟨rfl, hget⟩, ?_⟩
          refine nw ?_
          refine ⟨[], [], ?_⟩
          refine tel1 ?_
          exact (dokB_no fun h => (set_bad (hsp ▸ h.2.2.2.1)).1 k1).symm
        rw [decide_eq_false k1] at hget
        refine ⟨(_, .bool false), ⟨rfl, hget⟩, ?_⟩
        refine nw ?_
        refine ⟨fun k2 => ?_, fun k2 => ?_⟩
        · skip
          refine nw ?_
          refine ⟨[], [], ?_⟩
          refine tel1 ?_
          exact (dokB_no fun h => (set_bad (hsp ▸ h.2.2.2.1)).2.1 k2).symm
        refine nw ?_
        cases k3 : (ndAt d.nodes d.nodes[i].kids[j]).isSome with
        | false =>
          rw [k3] at hhas
          refine ⟨⟨true, [], _, _, _, _⟩, hhas, ?_⟩
          refine nw ?_
          refine ⟨⟨?_, ?_, ?_⟩, ?_⟩
          · exact tel
          · exact tel
          · exact tel
          refine nw ?_
          refine ⟨[], [], ?_⟩
          refine tel1 ?_
          exact (dokB_no fun h => by have := (set_bad (hsp ▸ h.2.2.2.1)).2.2; rw [k3] at this; cases this).symm
        | true =>
          rw [k3] at hhas
          refine ⟨⟨true, [], _, _, _, _⟩, hhas, ?_⟩
          refine nw ?_
          refine ⟨⟨?_, ?_, ?_⟩, ?_⟩
          · exact tel
          · exact tel
          · exact tel
          refine nw ?_
          refine ⟨_, rfl, ?_⟩
          refine nw ?_
          refine ⟨m2 - 1, [], [], [(88, .val false [.f (iL (j + 1 : Nat))]), (87, .val false [.f (iL d.nodes[i].kids.length)]), (86, .val false [.f (ints d.nodes[i].kids)]), (81, .val false [.f (iL i)]), (80, .val false [.f (iL d.nodes.length)]), (79, .val false [.f (nds d.nodes)]), (5, .val false [.mp 1248]), (1, .val false [.pt 32 0 0])], [(1248, some ⟨4, 2, mpR (setM (kidsTo d.nodes i ++ d.nodes[i].kids.take (j + 1)))⟩), (32, some ⟨3, 3, [(dcL d).map .f]⟩)], by omega, ⟨?_, ?_, ?_⟩, j + 1, by omega, ?_, rfl, rfl⟩
          · rfl
          · refine tel1 ?_
            exact wrap_suc (by have := (hst' i hi).1.2.2.2.2; omega)
          · refine tel1 ?_
            dsimp only
            rw [setM_put k1, List.take_succ_eq_append_getElem hj, List.append_assoc]
          · rw [List.take_succ_eq_append_getElem hj, ← List.append_assoc]
            exact set_step hset2 k1 k2 k3
      · have hj : d.nodes[i].kids.length = j := by omega
        have hks : kidsTo d.nodes i ++ d.nodes[i].kids.take j = kidsTo d.nodes (i + 1) := by rw [kidsTo_step hi, ← hj, List.take_length]
        rw [hks] at hset2 ⊢
        refine nw ?_
        refine ⟨m - 1, [], [], [(81, .val false [.f (iL (i + 1 : Nat))]), (80, .val false [.f (iL d.nodes.length)]), (79, .val false [.f (nds d.nodes)]), (5, .val false [.mp 1248]), (1, .val false [.pt 32 0 0])], [(1248, some ⟨4, 2, mpR (setM (kidsTo d.nodes (i + 1)))⟩), (32, some ⟨3, 3, [(dcL d).map .f]⟩)], by omega, ⟨?_, ?_, ?_⟩, i + 1, by omega, hset2, rfl, rfl⟩
        · rfl
        · refine tel1 ?_
          exact wrap_suc (by omega)
        · exact tel
    · have hi : d.nodes.length = i := by omega
      have hset' : SetOK d.root d.nodes (kidsAll d.nodes) := by rw [← kidsTo_all, hi]; exact hset
      have hkl : (mpR (setM (kidsTo d.nodes i))).length = (kidsAll d.nodes).length := by rw [← kidsTo_all, hi]; simp [mpR, setM]
      have hhas := has_ok d d.root hR h64.1 (by omega)
      have hK : Kids d.nodes := fun n hn c hc => Option.isSome_iff_exists.1 (hset'.2 c (List.mem_flatMap.2 ⟨n, hn, hc⟩)).2
      have hks : ∀ n ∈ d.nodes, n.kids.length < 2 ^ 62 := fun n hn => by
        obtain ⟨t, ht, rfl⟩ := List.mem_iff_getElem.1 hn
        have := (hst' t ht).1.2.2.2.2; omega
      refine nw ?_
      cases k3 : (ndAt d.nodes d.root).isSome with
      | false =>
        rw [k3] at hhas
        refine ⟨⟨true, [], _, _, _, _⟩, hhas, ?_⟩
        refine nw ?_
        refine ⟨⟨?_, ?_, ?_⟩, ?_⟩
        · exact tel
        · exact tel
        · exact tel
        refine nw ?_
        refine ⟨[], [], ?_⟩
        refine tel1 ?_
        exact (dokB_no fun h => by have := h.2.2.2.2.1.1; rw [k3] at this; cases this).symm
      | true =>
        rw [k3] at hhas
        obtain ⟨n0, hn0⟩ := Option.isSome_iff_exists.1 k3
        refine ⟨⟨true, [], _, _, _, _⟩, hhas, ?_⟩
        refine nw ?_
        refine ⟨⟨?_, ?_, ?_⟩, ?_⟩
        · exact tel
        · exact tel
        · exact tel
        refine nw ?_
        have hw : IntKind.i64.wrap (((d.nodes.map ndL).length : Int) - 1) = (d.nodes.length : Int) - 1 := by rw [IntKind.wrap_i64]; simp; omega
        refine ⟨fun k4 => ?_, fun k4 => ?_⟩
        · rw [hkl, hw] at k4
          refine nw ?_
          refine ⟨[], [], ?_⟩
          refine tel1 ?_
          exact (dokB_no fun h => k4 (by have := h.2.2.2.2.1.2.1; omega)).symm
        rw [hkl, hw] at k4
        refine nw ?_
        have hd := isDeep_ok d hR hK (by omega) hks hn0
        by_cases k5 : 6 < depthF d.nodes 7 d.root
        · rw [decide_eq_true k5] at hd
          refine ⟨⟨true, [], _, _, _, _⟩, hd, ?_⟩
          refine nw ?_
          refine ⟨⟨?_, ?_, ?_⟩, ?_⟩
          · exact tel
          · exact tel
          · exact tel
          refine nw ?_
          refine ⟨[], [], ?_⟩
          refine tel1 ?_
          exact (dokB_no fun h => by have := h.2.2.2.2.1.2.2; omega).symm
        rw [decide_eq_false k5] at hd
        refine ⟨⟨true, [], _, _, _, _⟩, hd, ?_⟩
        refine nw ?_
        refine ⟨⟨?_, ?_, ?_⟩, ?_⟩
        · exact tel
        · exact tel
        · exact tel
        refine nw ?_
        have h12 : ∀ n ∈ d.nodes, n.kids.length ≤ 12 := fun n hn => by
          obtain ⟨t, ht, rfl⟩ := List.mem_iff_getElem.1 hn
          exact (hst' t ht).1.2.2.2.2
        have hol := orderF_len h12 6 d.root
        have ho := order_ok d hR (by omega) hks 6 d.root (depthF_fits hK 6 d.root k3 (Nat.le_of_not_lt k5)) [] (by simp; omega)
        refine ⟨by kernel_rfl, ?_⟩
        refine nw ?_
        refine ⟨⟨true, [(1, 7)], _, _, _, _⟩, ho, ?_⟩
        refine nw ?_
        refine ⟨⟨?_, ?_, ?_⟩, ?_⟩
        · exact tel
        · exact tel
        · exact tel
        refine nw ?_
        have hl : (([] : List Int) ++ orderF d.nodes 6 d.root).length = (orderF d.nodes 6 d.root).length := rfl
        refine ⟨fun k6 => ?_, fun k6 => ?_⟩
        · refine nw ?_
          refine ⟨by kernel_rfl, ?_⟩
          refine nw ?_
          refine ⟨[], [], ?_⟩
          refine tel1 ?_
          refine (dokB_yes ⟨by omega, c2, hst', hset', ⟨k3, ?_, Nat.le_of_not_lt k5⟩, ?_⟩).symm
          · omega
          · simp at k6; omega
        · refine nw ?_
          refine ⟨by kernel_rfl, ?_⟩
          refine nw ?_
          refine ⟨[], [], ?_⟩
          refine tel1 ?_
          refine (dokB_no fun h => k6 ?_).symm
          have := h.2.2.2.2.2
          simp; omega
end Go.Proofs.YtecnmodeggnjoaaGreat.Ac
