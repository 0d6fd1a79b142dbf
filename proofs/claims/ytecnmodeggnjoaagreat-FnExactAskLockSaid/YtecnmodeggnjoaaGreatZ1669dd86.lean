/- Several of our texts, one behind the other, without what this claim does not need: Wf. -/
import Derived.Test.YtecnmodeggnjoaaGreatZe2002630
import Derived.Test.YtecnmodeggnjoaaGreatZ9354350e
import Derived.Test.YtecnmodeggnjoaaGreatZaa953d4f
set_option linter.unusedVariables false
set_option linter.unusedSimpArgs false
set_option maxRecDepth 20000
set_option maxHeartbeats 4000000
namespace Go.Proofs.YtecnmodeggnjoaaGreat.Ac
open Go.RowKit
theorem atFrom_spec (id : Int) : ∀ (l : List Nd) (i : Nat), (ndAt l id = none → atFrom id i l = -1) ∧ (∀ n, ndAt l id = some n → ∃ j, ∃ h : j < l.length, atFrom id i l = ((i + j : Nat) : Int) ∧ l[j] = n)
  | [], i => ⟨fun _ => rfl, fun n h => by simp [ndAt] at h⟩
  | m :: l, i => by
    obtain ⟨h1, h2⟩ := atFrom_spec id l (i + 1)
    unfold ndAt at h1 h2 ⊢
    rw [List.find?_cons]
    by_cases e : m.id = id
    · have e' : (m.id == id) = true := by simpa using e
      rw [e']
      refine ⟨(fun h => by cases h), fun n h => ?_⟩
      cases h
      exact ⟨0, by simp, by simp [atFrom, e], rfl⟩
    · have e' : (m.id == id) = false := by simpa using e
      rw [e']
      refine ⟨fun h => by simp [atFrom, e, h1 h], fun n h => ?_⟩
      obtain ⟨j, hj, a1, a2⟩ := h2 n h
      exact ⟨j + 1, by simp; omega, by simp only [atFrom, e, if_false]; rw [a1]; omega, by simpa using a2⟩
theorem at_none {l : List Nd} {id : Int} (h : ndAt l id = none) : atFrom id 0 l = -1 := (atFrom_spec id l 0).1 h
theorem at_some {l : List Nd} {id : Int} {n : Nd} (h : ndAt l id = some n) : ∃ j, ∃ hj : j < l.length, atFrom id 0 l = (j : Int) ∧ l[j] = n := by
  obtain ⟨j, hj, a1, a2⟩ := (atFrom_spec id l 0).2 n h
  exact ⟨j, hj, by rw [a1, Nat.zero_add], a2⟩
theorem flatK_len : ∀ (l : List Nd), (∀ n ∈ l, n.kids.length ≤ 12) → (l.flatMap (·.kids)).length ≤ 12 * l.length
  | [], _ => by simp
  | n :: l, h => by
    have h1 := h n (by simp)
    have h2 := flatK_len l fun m hm => h m (by simp [hm])
    rw [List.flatMap_cons, List.length_append, List.length_cons]
    omega
theorem kidsTo_len {d : Dc} (c1 : d.nodes.length ≤ 40) {i : Nat} (hi : i < d.nodes.length) (hs : ∀ t (h : t < d.nodes.length), t ≤ i → StepOK d.next d.nodes t h) (j : Nat) : (kidsTo d.nodes i ++ d.nodes[i].kids.take j).length < 2 ^ 29 := by
  have h1 := flatK_len (d.nodes.take i) fun n hn => by
    obtain ⟨t, ht, rfl⟩ := List.mem_iff_getElem.1 hn
    rw [List.getElem_take]
    rw [List.length_take] at ht
    exact (hs t (by omega) (by omega)).1.2.2.2.2
  have h2 := (hs i hi (Nat.le_refl _)).1.2.2.2.2
  have h3 : (d.nodes.take i).length ≤ 40 := by rw [List.length_take]; omega
  unfold kidsTo
  rw [List.length_append, List.length_take]
  omega
def NODES (d : Dc) : Prop := (∀ i (h : i < d.nodes.length), StepOK d.next d.nodes i h) ∧ SetOK d.root d.nodes (kidsAll d.nodes) ∧ (kidsAll d.nodes).length + 1 = d.nodes.length ∧ (ndAt d.nodes d.root).isSome
noncomputable def nodesB (d : Dc) : Bool := @decide (NODES d) (Classical.propDecidable _)
theorem nodesB_iff {d : Dc} : nodesB d = true ↔ NODES d := by unfold nodesB; exact @decide_eq_true_iff _ (Classical.propDecidable _)
theorem nodesB_yes {d : Dc} (h : NODES d) : nodesB d = true := nodesB_iff.2 h
theorem nodesB_no {d : Dc} (h : ¬ NODES d) : nodesB d = false := by
  cases e : nodesB d with
  | false => rfl
  | true => exact absurd (nodesB_iff.1 e) h
theorem l02Nodes_ok (d : Dc) (h64 : Dc64 d) (c1 : d.nodes.length ≤ 40) (c2 : 2 ≤ d.next ∧ d.next ≤ 999999) : FC Tryz.prog 218 [(true, dcL d)] [] [(false, [.f (bL (nodesB d))])] := by
  have hlen' : ∀ i j : Nat, (h : i < d.nodes.length) → (∀ t (h : t < d.nodes.length), t ≤ i → StepOK d.next d.nodes t h) → (kidsTo d.nodes i ++ d.nodes[i].kids.take j).length < 2 ^ 29 := fun i j h hs => kidsTo_len c1 h hs j
  refine en Tryz.func218 Tryz.ntmps218 trivial ?_
  refine nw ?_
  refine ⟨fun (m : Nat) (es : Es) (hs : Hs) => ∃ i : Nat, m + i = d.nodes.length ∧ (∀ t (h : t < d.nodes.length), t < i → StepOK d.next d.nodes t h) ∧ SetOK d.root d.nodes (kidsTo d.nodes i) ∧ es = [(4, .val false [.f (iL i)]), (3, .val false [.row 128 0 (kidsTo d.nodes i).length]), (1, .val false [.pt 32 0 0])] ∧ hs = [(128, some ⟨0, 1, (kidsTo d.nodes i).map intW⟩), (32, some ⟨3, 3, [(dcL d).map .f]⟩)],
    ⟨d.nodes.length, [], [], _, _, ⟨?_, ?_, ?_⟩, 0, rfl, fun t h h' => by omega, ⟨by simp [kidsTo], fun k hk => by simp [kidsTo] at hk⟩, rfl, rfl⟩, ?_⟩
  · rfl
  · exact tel
  · exact tel
  rintro m es hs ⟨i, hm, hst, hset, rfl, rfl⟩
  refine nw ?_
  refine ⟨fun h => ?_, fun h => ?_⟩
  · have hi : i < d.nodes.length := by simpa using h
    have hnode := l02Node_ok d.nodes[i] d.next (by unfold I64; omega)
    refine nw ?_
    refine ⟨(i, ndL d.nodes[i]), ⟨rfl, by simp [hi]⟩, ?_⟩
    refine nw ?_
    refine ⟨by kernel_rfl, ?_⟩
    refine nw ?_
    by_cases k1 : NodeOK d.next d.nodes[i]
    rotate_left
    · rw [decide_eq_false k1] at hnode
      refine ⟨([], _), hnode, ?_⟩
      refine nw ?_
      refine ⟨by kernel_rfl, ?_⟩
      refine nw ?_
      refine ⟨[], [], ?_⟩
      refine tel1 ?_
      exact (nodesB_no fun h => k1 (h.1 i hi).1).symm
    rw [decide_eq_true k1] at hnode
    refine ⟨([], _), hnode, ?_⟩
    refine nw ?_
    refine ⟨fun k0 => ?_, fun k0 => ?_⟩
    · have hi1 : i - 1 < d.nodes.length := by omega
      refine nw ?_
      refine ⟨(i - 1, ndL d.nodes[i - 1]), ⟨?_, by simp [hi1]⟩, ?_⟩
      · rw [IntKind.wrap_i64]; omega
      refine nw ?_
      refine ⟨fun k2 => ?_, fun k2 => ?_⟩
      · skip
        refine nw ?_
        refine ⟨by kernel_rfl, ?_⟩
        refine nw ?_
        refine ⟨[], [], ?_⟩
        refine tel1 ?_
        exact (nodesB_no fun h => by have := (h.1 i hi).2 (i - 1) (by omega); omega).symm
      have hstep : StepOK d.next d.nodes i hi := ⟨k1, fun j hj => prev_lt hj hi hi1 (by omega)⟩
      refine nw ?_
      refine ⟨by kernel_rfl, ?_⟩
      have hks : d.nodes[i].kids.length ≤ 12 := hstep.1.2.2.2.2
      refine nw ?_
      refine ⟨fun (m2 : Nat) (es : Es) (hs : Hs) => ∃ j : Nat, m2 + j = d.nodes[i].kids.length ∧ SetOK d.root d.nodes (kidsTo d.nodes i ++ d.nodes[i].kids.take j) ∧ es = [(6, .val false [.f (iL j)]), (5, .val false [.pt 96 0 0]), (4, .val false [.f (iL i)]), (3, .val false [.row 128 0 (kidsTo d.nodes i ++ d.nodes[i].kids.take j).length]), (1, .val false [.pt 32 0 0])] ∧ hs = [(128, some ⟨0, 1, (kidsTo d.nodes i ++ d.nodes[i].kids.take j).map intW⟩), (96, some ⟨3, 5, [(ndL d.nodes[i]).map .f]⟩), (32, some ⟨3, 3, [(dcL d).map .f]⟩)],
        ⟨d.nodes[i].kids.length, [], [], _, _, ⟨?_, ?_, ?_⟩, 0, rfl, by simpa using hset, rfl, rfl⟩, ?_⟩
      · rfl
      · refine tel1 ?_
        all_goals simp
      · refine tel1 ?_
        all_goals simp
      rintro m2 es hs ⟨j, hm2, hset2, rfl, rfl⟩
      refine nw ?_
      refine ⟨fun h => ?_, fun h => ?_⟩
      · have hj : j < d.nodes[i].kids.length := by simpa using h
        obtain ⟨rest, hsp⟩ := kids_split hi hj
        have hacc : (kidsTo d.nodes i ++ d.nodes[i].kids.take j).length < 2 ^ 29 := hlen' i j hi fun t ht hle => (by
          by_cases e : t = i
          · subst e; exact hstep
          · exact hst t ht (by omega))
        have hh := l02Has_ok (kidsTo d.nodes i ++ d.nodes[i].kids.take j) d.nodes[i].kids[j] (by omega)
        have hat := l02At_ok d d.nodes[i].kids[j] (by omega)
        refine nw ?_
        refine ⟨by kernel_rfl, ?_⟩
        refine nw ?_
        refine ⟨(j, intE d.nodes[i].kids[j]), ⟨rfl, by simp [hj]⟩, ?_⟩
        refine nw ?_
        refine ⟨fun q1 => ?_, fun q1 => ?_⟩
        · skip
          refine nw ?_
          refine ⟨by kernel_rfl, ?_⟩
          refine nw ?_
          refine ⟨[], [], ?_⟩
          refine tel1 ?_
          exact (nodesB_no fun h => (set_bad (hsp ▸ h.2.1)).2.1 q1).symm
        refine nw ?_
        refine ⟨(j, intE d.nodes[i].kids[j]), ⟨rfl, by simp [hj]⟩, ?_⟩
        refine nw ?_
        by_cases q2 : d.nodes[i].kids[j] ∈ kidsTo d.nodes i ++ d.nodes[i].kids.take j
        · rw [decide_eq_true q2] at hh
          refine ⟨⟨true, [], _, _, _, _⟩, hh, ?_⟩
          refine nw ?_
          refine ⟨⟨?_, ?_, ?_⟩, ?_⟩
          · exact tel
          · exact tel
          · exact tel
          refine nw ?_
          refine ⟨by kernel_rfl, ?_⟩
          refine nw ?_
          refine ⟨[], [], ?_⟩
          refine tel1 ?_
          exact (nodesB_no fun h => (set_bad (hsp ▸ h.2.1)).1 q2).symm
        rw [decide_eq_false q2] at hh
        refine ⟨⟨true, [], _, _, _, _⟩, hh, ?_⟩
        refine nw ?_
        refine ⟨⟨?_, ?_, ?_⟩, ?_⟩
        · exact tel
        · exact tel
        · exact tel
        refine nw ?_
        refine ⟨(j, intE d.nodes[i].kids[j]), ⟨rfl, by simp [hj]⟩, ?_⟩
        refine nw ?_
        refine ⟨([], _), hat, ?_⟩
        refine nw ?_
        refine ⟨fun q3 => ?_, fun q3 => ?_⟩
        · skip
          refine nw ?_
          refine ⟨by kernel_rfl, ?_⟩
          refine nw ?_
          refine ⟨[], [], ?_⟩
          refine tel1 ?_
          exact (nodesB_no fun h => by obtain ⟨n, hn⟩ := Option.isSome_iff_exists.1 (set_bad (hsp ▸ h.2.1)).2.2; obtain ⟨x, hx, e1, _⟩ := at_some hn; rw [e1] at q3; omega).symm
        have q4 : (ndAt d.nodes d.nodes[i].kids[j]).isSome := by
          cases e : ndAt d.nodes d.nodes[i].kids[j] with
          | none => rw [at_none e] at q3; omega
          | some n => rfl
        refine nw ?_
        refine ⟨by kernel_rfl, ?_⟩
        refine nw ?_
        refine ⟨(j, intE d.nodes[i].kids[j]), ⟨rfl, by simp [hj]⟩, ?_⟩
        refine nw ?_
        refine ⟨(kidsTo d.nodes i ++ d.nodes[i].kids.take j ++ [d.nodes[i].kids[j]]).map intW, ⟨app_one intW _ _, by simp only [List.length_map, List.length_append, List.length_singleton] at hacc ⊢; omega⟩, ?_⟩
        refine nw ?_
        have hst2 : kidsTo d.nodes i ++ d.nodes[i].kids.take (j + 1) = kidsTo d.nodes i ++ d.nodes[i].kids.take j ++ [d.nodes[i].kids[j]] := by rw [List.take_succ_eq_append_getElem hj, List.append_assoc]
        refine ⟨m2 - 1, [], [(128, 1328)], [(6, .val false [.f (iL (j + 1 : Nat))]), (5, .val false [.pt 96 0 0]), (4, .val false [.f (iL i)]), (3, .val false [.row 128 0 (kidsTo d.nodes i ++ d.nodes[i].kids.take (j + 1)).length]), (1, .val false [.pt 32 0 0])], [(128, some ⟨0, 1, (kidsTo d.nodes i ++ d.nodes[i].kids.take (j + 1)).map intW⟩), (96, some ⟨3, 5, [(ndL d.nodes[i]).map .f]⟩), (32, some ⟨3, 3, [(dcL d).map .f]⟩)], by omega, ⟨?_, ?_, ?_⟩, j + 1, by omega, ?_, rfl, rfl⟩
        · rfl
        · refine tel2 ?_ ?_
          · exact wrap_suc (by omega)
          · rw [hst2]; simp
        · refine tel1 ?_
          dsimp only
          rw [hst2]
        · rw [hst2]; exact set_step hset2 q2 q1 q4
      · have hj : d.nodes[i].kids.length ≤ j := by simpa using h
        have hks2 : kidsTo d.nodes i ++ d.nodes[i].kids.take j = kidsTo d.nodes (i + 1) := by rw [kidsTo_step hi, List.take_of_length_le hj]
        rw [hks2] at hset2 ⊢
        refine nw ?_
        refine ⟨m - 1, [], [], [(4, .val false [.f (iL (i + 1 : Nat))]), (3, .val false [.row 128 0 (kidsTo d.nodes (i + 1)).length]), (1, .val false [.pt 32 0 0])], [(128, some ⟨0, 1, (kidsTo d.nodes (i + 1)).map intW⟩), (32, some ⟨3, 3, [(dcL d).map .f]⟩)], by omega, ⟨?_, ?_, ?_⟩, i + 1, by omega, ?_, hset2, rfl, rfl⟩
        · rfl
        · refine tel1 ?_
          exact wrap_suc (by omega)
        · exact tel
        · intro t ht hlt
          by_cases e : t = i
          · subst e; exact hstep
          · exact hst t ht (by omega)
    · have hstep : StepOK d.next d.nodes i hi := ⟨k1, fun j hj => by omega⟩
      refine nw ?_
      refine ⟨by kernel_rfl, ?_⟩
      have hks : d.nodes[i].kids.length ≤ 12 := hstep.1.2.2.2.2
      refine nw ?_
      refine ⟨fun (m2 : Nat) (es : Es) (hs : Hs) => ∃ j : Nat, m2 + j = d.nodes[i].kids.length ∧ SetOK d.root d.nodes (kidsTo d.nodes i ++ d.nodes[i].kids.take j) ∧ es = [(6, .val false [.f (iL j)]), (5, .val false [.pt 96 0 0]), (4, .val false [.f (iL i)]), (3, .val false [.row 128 0 (kidsTo d.nodes i ++ d.nodes[i].kids.take j).length]), (1, .val false [.pt 32 0 0])] ∧ hs = [(128, some ⟨0, 1, (kidsTo d.nodes i ++ d.nodes[i].kids.take j).map intW⟩), (96, some ⟨3, 5, [(ndL d.nodes[i]).map .f]⟩), (32, some ⟨3, 3, [(dcL d).map .f]⟩)],
        ⟨d.nodes[i].kids.length, [], [], _, _, ⟨?_, ?_, ?_⟩, 0, rfl, by simpa using hset, rfl, rfl⟩, ?_⟩
      · rfl
      · refine tel1 ?_
        all_goals simp
      · refine tel1 ?_
        all_goals simp
      rintro m2 es hs ⟨j, hm2, hset2, rfl, rfl⟩
      refine nw ?_
      refine ⟨fun h => ?_, fun h => ?_⟩
      · have hj : j < d.nodes[i].kids.length := by simpa using h
        obtain ⟨rest, hsp⟩ := kids_split hi hj
        have hacc : (kidsTo d.nodes i ++ d.nodes[i].kids.take j).length < 2 ^ 29 := hlen' i j hi fun t ht hle => (by
          by_cases e : t = i
          · subst e; exact hstep
          · exact hst t ht (by omega))
        have hh := l02Has_ok (kidsTo d.nodes i ++ d.nodes[i].kids.take j) d.nodes[i].kids[j] (by omega)
        have hat := l02At_ok d d.nodes[i].kids[j] (by omega)
        refine nw ?_
        refine ⟨by kernel_rfl, ?_⟩
        refine nw ?_
        refine ⟨(j, intE d.nodes[i].kids[j]), ⟨rfl, by simp [hj]⟩, ?_⟩
        refine nw ?_
        refine ⟨fun q1 => ?_, fun q1 => ?_⟩
        · skip
          refine nw ?_
          refine ⟨by kernel_rfl, ?_⟩
          refine nw ?_
          refine ⟨[], [], ?_⟩
          refine tel1 ?_
          exact (nodesB_no fun h => (set_bad (hsp ▸ h.2.1)).2.1 q1).symm
        refine nw ?_
        refine ⟨(j, intE d.nodes[i].kids[j]), ⟨rfl, by simp [hj]⟩, ?_⟩
        refine nw ?_
        by_cases q2 : d.nodes[i].kids[j] ∈ kidsTo d.nodes i ++ d.nodes[i].kids.take j
        · rw [decide_eq_true q2] at hh
          refine ⟨⟨true, [], _, _, _, _⟩, hh, ?_⟩
          refine nw ?_
          refine ⟨⟨?_, ?_, ?_⟩, ?_⟩
          · exact tel
          · exact tel
          · exact tel
          refine nw ?_
          refine ⟨by kernel_rfl, ?_⟩
          refine nw ?_
          refine ⟨[], [], ?_⟩
          refine tel1 ?_
          exact (nodesB_no fun h => (set_bad (hsp ▸ h.2.1)).1 q2).symm
        rw [decide_eq_false q2] at hh
        refine ⟨⟨true, [], _, _, _, _⟩, hh, ?_⟩
        refine nw ?_
        refine ⟨⟨?_, ?_, ?_⟩, ?_⟩
        · exact tel
        · exact tel
        · exact tel
        refine nw ?_
        refine ⟨(j, intE d.nodes[i].kids[j]), ⟨rfl, by simp [hj]⟩, ?_⟩
        refine nw ?_
        refine ⟨([], _), hat, ?_⟩
        refine nw ?_
        refine ⟨fun q3 => ?_, fun q3 => ?_⟩
        · skip
          refine nw ?_
          refine ⟨by kernel_rfl, ?_⟩
          refine nw ?_
          refine ⟨[], [], ?_⟩
          refine tel1 ?_
          exact (nodesB_no fun h => by obtain ⟨n, hn⟩ := Option.isSome_iff_exists.1 (set_bad (hsp ▸ h.2.1)).2.2; obtain ⟨x, hx, e1, _⟩ := at_some hn; rw [e1] at q3; omega).symm
        have q4 : (ndAt d.nodes d.nodes[i].kids[j]).isSome := by
          cases e : ndAt d.nodes d.nodes[i].kids[j] with
          | none => rw [at_none e] at q3; omega
          | some n => rfl
        refine nw ?_
        refine ⟨by kernel_rfl, ?_⟩
        refine nw ?_
        refine ⟨(j, intE d.nodes[i].kids[j]), ⟨rfl, by simp [hj]⟩, ?_⟩
        refine nw ?_
        refine ⟨(kidsTo d.nodes i ++ d.nodes[i].kids.take j ++ [d.nodes[i].kids[j]]).map intW, ⟨app_one intW _ _, by simp only [List.length_map, List.length_append, List.length_singleton] at hacc ⊢; omega⟩, ?_⟩
        refine nw ?_
        have hst2 : kidsTo d.nodes i ++ d.nodes[i].kids.take (j + 1) = kidsTo d.nodes i ++ d.nodes[i].kids.take j ++ [d.nodes[i].kids[j]] := by rw [List.take_succ_eq_append_getElem hj, List.append_assoc]
        refine ⟨m2 - 1, [], [(128, 1328)], [(6, .val false [.f (iL (j + 1 : Nat))]), (5, .val false [.pt 96 0 0]), (4, .val false [.f (iL i)]), (3, .val false [.row 128 0 (kidsTo d.nodes i ++ d.nodes[i].kids.take (j + 1)).length]), (1, .val false [.pt 32 0 0])], [(128, some ⟨0, 1, (kidsTo d.nodes i ++ d.nodes[i].kids.take (j + 1)).map intW⟩), (96, some ⟨3, 5, [(ndL d.nodes[i]).map .f]⟩), (32, some ⟨3, 3, [(dcL d).map .f]⟩)], by omega, ⟨?_, ?_, ?_⟩, j + 1, by omega, ?_, rfl, rfl⟩
        · rfl
        · refine tel2 ?_ ?_
          · exact wrap_suc (by omega)
          · rw [hst2]; simp
        · refine tel1 ?_
          dsimp only
          rw [hst2]
        · rw [hst2]; exact set_step hset2 q2 q1 q4
      · have hj : d.nodes[i].kids.length ≤ j := by simpa using h
        have hks2 : kidsTo d.nodes i ++ d.nodes[i].kids.take j = kidsTo d.nodes (i + 1) := by rw [kidsTo_step hi, List.take_of_length_le hj]
        rw [hks2] at hset2 ⊢
        refine nw ?_
        refine ⟨m - 1, [], [], [(4, .val false [.f (iL (i + 1 : Nat))]), (3, .val false [.row 128 0 (kidsTo d.nodes (i + 1)).length]), (1, .val false [.pt 32 0 0])], [(128, some ⟨0, 1, (kidsTo d.nodes (i + 1)).map intW⟩), (32, some ⟨3, 3, [(dcL d).map .f]⟩)], by omega, ⟨?_, ?_, ?_⟩, i + 1, by omega, ?_, hset2, rfl, rfl⟩
        · rfl
        · refine tel1 ?_
          exact wrap_suc (by omega)
        · exact tel
        · intro t ht hlt
          by_cases e : t = i
          · subst e; exact hstep
          · exact hst t ht (by omega)
  · have hi : d.nodes.length ≤ i := by simpa using h
    have hst' : ∀ t (h : t < d.nodes.length), StepOK d.next d.nodes t h := fun t h => hst t h (by omega)
    have hi' : i = d.nodes.length := by omega
    have hset' : SetOK d.root d.nodes (kidsAll d.nodes) := by rw [← kidsTo_all, ← hi']; exact hset
    have hat := l02At_ok d d.root (by omega)
    have hw : IntKind.i64.wrap (((d.nodes.map ndL).length : Int) - 1) = (d.nodes.length : Int) - 1 := by rw [IntKind.wrap_i64]; simp; omega
    have hk : kidsTo d.nodes i = kidsAll d.nodes := by rw [hi']; exact kidsTo_all _
    refine nw ?_
    rw [hw, hk]
    refine ⟨fun k1 => ?_, fun k1 => ?_⟩
    · refine nw ?_
      refine ⟨([], _), hat, ?_⟩
      refine nw ?_
      refine ⟨fun k2 => ?_, fun k2 => ?_⟩
      · refine nw ?_
        refine ⟨[], [], ?_⟩
        refine tel1 ?_
        refine (nodesB_yes ⟨hst', hset', by omega, ?_⟩).symm
        cases e : ndAt d.nodes d.root with
        | none => rw [at_none e] at k2; omega
        | some n => rfl
      · refine nw ?_
        refine ⟨[], [], ?_⟩
        refine tel1 ?_
        refine (nodesB_no fun h => k2 ?_).symm
        obtain ⟨n, hn⟩ := Option.isSome_iff_exists.1 h.2.2.2
        obtain ⟨x, hx, e1, _⟩ := at_some hn
        rw [e1]; omega
    · refine nw ?_
      refine ⟨[], [], ?_⟩
      refine tel1 ?_
      exact (nodesB_no fun h => k1 (by have := h.2.2.1; omega)).symm
theorem l02Deep_ok (d : Dc) (hk : Kids d.nodes) (hlen : d.nodes.length < 2 ^ 61) (hks : ∀ n ∈ d.nodes, n.kids.length < 2 ^ 61) : ∀ (k : Nat), k ≤ 6 → ∀ (id : Int) (n : Nd), ndAt d.nodes id = some n →
    FC Tryz.prog 220 [(true, dcL d), (false, [iL id]), (false, [iL (k : Nat)])] [] [(false, [.f (iL (depthF d.nodes (k + 1) id))])]
  | 0, _, id, n, hn => by
    have e0 : depthF d.nodes 1 id = 1 := by
      have : ∀ (ks : List Int), ks.foldl (fun m c => max m (depthF d.nodes 0 c)) 0 = 0 := by
        intro ks
        induction ks with
        | nil => rfl
        | cons c ks ih => rw [List.foldl_cons]; exact ih
      simp only [depthF] at this ⊢
      rw [this]
    refine en Tryz.func220 Tryz.ntmps220 trivial ?_
    refine nw ?_
    refine ⟨fun h => ?_, fun h => absurd rfl h⟩
    refine nw ?_
    refine ⟨[], [], ?_⟩
    refine tel1 ?_
    rw [e0]; rfl
  | k + 1, hle, id, n, hn => by
    have ih := l02Deep_ok d hk hlen hks k (by omega)
    have hat := l02At_ok d id (by omega)
    obtain ⟨x, hx, ex, exn⟩ := at_some hn
    rw [ex] at hat
    have he : depthF d.nodes (k + 1 + 1) id = n.kids.foldl (fun m c => max m (depthF d.nodes (k + 1) c)) 0 + 1 := by simp only [depthF, kidsAt, hn, Option.map_some, Option.getD_some]
    have hd := depthF_le (fun n hn => by have := hks n hn; omega) (k + 1 + 1) id
    have hnk := hks n (ndAt_mem hn).1
    refine en Tryz.func220 Tryz.ntmps220 trivial ?_
    refine nw ?_
    refine ⟨fun h => by omega, fun h' => ?_⟩
    clear h'
    refine nw ?_
    refine ⟨by kernel_rfl, ?_⟩
    refine nw ?_
    refine ⟨([], _), hat, ?_⟩
    refine nw ?_
    refine ⟨(x, ndL n), ⟨rfl, by simp [hx, exn]⟩, ?_⟩
    refine nw ?_
    refine ⟨by kernel_rfl, ?_⟩
    refine nw ?_
    refine ⟨fun (m : Nat) (es : Es) (hs : Hs) => ∃ i : Nat, m + i = n.kids.length ∧ es = [(9, .val false [.f (iL i)]), (8, .val false [.f (ints n.kids)]), (7, .val false [.f (iL ((n.kids.take i).foldl (fun m c => max m (depthF d.nodes (k + 1) c)) 0 : Nat))]), (3, .val false [.pt 64 0 0]), (2, .val false [.f (iL ((k + 1 : Nat) : Int))])] ∧ hs = [(64, some ⟨3, 3, [(dcL d).map .f]⟩)],
      ⟨n.kids.length, [], [], _, _, ⟨?_, ?_, ?_⟩, 0, rfl, rfl, rfl⟩, ?_⟩
    · rfl
    · exact tel
    · exact tel
    rintro m es hs ⟨i, hm, rfl, rfl⟩
    refine nw ?_
    refine ⟨fun h => ?_, fun h => ?_⟩
    · have hi : i < n.kids.length := by simpa using h
      obtain ⟨c, hc⟩ := hk n (ndAt_mem hn).1 n.kids[i] (List.getElem_mem _)
      have ih := ih n.kids[i] c hc
      have e : IntKind.i64.wrap (((k + 1 : Nat) : Int) - 1) = ((k : Nat) : Int) := by rw [IntKind.wrap_i64]; omega
      rw [← e] at ih
      refine nw ?_
      refine ⟨by kernel_rfl, ?_⟩
      refine nw ?_
      refine ⟨(i, intE n.kids[i]), ⟨rfl, by simp [hi]⟩, ?_⟩
      refine nw ?_
      refine ⟨([], _), ih, ?_⟩
      refine nw ?_
      refine ⟨by kernel_rfl, ?_⟩
      refine nw ?_
      refine ⟨m - 1, [], [], [(9, .val false [.f (iL (i + 1 : Nat))]), (8, .val false [.f (ints n.kids)]), (7, .val false [.f (iL ((n.kids.take (i + 1)).foldl (fun m c => max m (depthF d.nodes (k + 1) c)) 0 : Nat))]), (3, .val false [.pt 64 0 0]), (2, .val false [.f (iL ((k + 1 : Nat) : Int))])], [(64, some ⟨3, 3, [(dcL d).map .f]⟩)], by omega, ⟨?_, ?_, ?_⟩, i + 1, by omega, rfl, rfl⟩
      · rfl
      · refine tel2 ?_ ?_
        · exact wrap_suc (by omega)
        · rw [foldl_take hi]
          split <;> omega
      · exact tel
    · have hi : n.kids.length ≤ i := by simpa using h
      refine nw ?_
      refine ⟨[], [], ?_⟩
      refine tel1 ?_
      rw [List.take_of_length_le hi, he]
      exact wrap_suc (by omega)
end Go.Proofs.YtecnmodeggnjoaaGreat.Ac
