/- Several of our texts, one behind the other, without what this claim does not need: We. -/
import Derived.Test.YtecnmodeggnjoaaGreatZe2002630
import Derived.Test.YtecnmodeggnjoaaGreatZ99c0776a
import Derived.Test.YtecnmodeggnjoaaGreatZaa953d4f
set_option linter.unusedVariables false
set_option linter.unusedSimpArgs false
set_option maxRecDepth 20000
set_option maxHeartbeats 400000
namespace Go.Proofs.YtecnmodeggnjoaaGreat.Ac
open Go.RowKit
theorem l01In_ok (n lo hi : Int) : FC Tryz.prog 170 [(false, [iL n]), (false, [iL lo]), (false, [iL hi])] [] [(false, [.f (bL (decide (lo ≤ n ∧ n ≤ hi)))])] := by
  refine en Tryz.func170 Tryz.ntmps170 trivial ?_
  refine nw ?_
  refine ⟨fun h => ?_, fun h => ?_⟩
  · refine nw ?_
    refine ⟨fun h => ?_, fun h => ?_⟩
    · refine nw ?_
      refine ⟨[], [], ?_⟩
      refine tel1 ?_
      exact b_true (by omega)
    · refine nw ?_
      refine ⟨[], [], ?_⟩
      refine tel1 ?_
      exact b_false (by omega)
  · refine nw ?_
    refine ⟨[], [], ?_⟩
    refine tel1 ?_
    exact b_false (by omega)
theorem in_t {n lo hi : Int} (h : lo ≤ n ∧ n ≤ hi) : FC Tryz.prog 170 [(false, [iL n]), (false, [iL lo]), (false, [iL hi])] [] [(false, [.f (bL true)])] := by
  have := l01In_ok n lo hi
  rwa [decide_eq_true h] at this
theorem in_f {n lo hi : Int} (h : ¬ (lo ≤ n ∧ n ≤ hi)) : FC Tryz.prog 170 [(false, [iL n]), (false, [iL lo]), (false, [iL hi])] [] [(false, [.f (bL false)])] := by
  have := l01In_ok n lo hi
  rwa [decide_eq_false h] at this
theorem l02Kind_ok (k : Int) : FC Tryz.prog 221 [(false, [iL k])] [] [(false, [.f (bL (decide (1 ≤ k ∧ k ≤ 8)))])] := by
  refine en Tryz.func221 Tryz.ntmps221 trivial ?_
  refine nw ?_
  refine ⟨([], _), l01In_ok k 1 8, ?_⟩
  refine nw ?_
  refine ⟨[], [], ?_⟩
  exact tel
theorem l02Has_ok (l : List Int) (n : Int) (hlen : l.length < 2 ^ 62) : FC Tryz.prog 104 [(false, [ints l]), (false, [iL n])] [] [(false, [.f (bL (decide (n ∈ l)))])] := by
  refine en Tryz.func104 Tryz.ntmps104 trivial ?_
  refine nw ?_
  refine ⟨fun (m : Nat) (es : Es) (hs : Hs) => ∃ i : Nat, m + i = l.length ∧ n ∉ l.take i ∧ es = [(5, .val false [.f (iL i)]), (1, .val false [.f (iL n)]), (0, .val false [.f (ints l)])] ∧ hs = [],
    ⟨l.length, [], [], _, _, ⟨?_, ?_, ?_⟩, 0, rfl, by simp, rfl, rfl⟩, ?_⟩
  · rfl
  · exact tel
  · exact tel
  rintro m es hs ⟨i, hm, hn, rfl, rfl⟩
  refine nw ?_
  refine ⟨fun h => ?_, fun h => ?_⟩
  · have hi : i < l.length := by simpa using h
    refine nw ?_
    refine ⟨(i, intE l[i]), ⟨rfl, by simp [hi]⟩, ?_⟩
    refine nw ?_
    refine ⟨fun h => ?_, fun h => ?_⟩
    · refine nw ?_
      refine ⟨[], [], ?_⟩
      refine tel1 ?_
      exact b_true (h ▸ List.getElem_mem hi)
    · refine nw ?_
      refine ⟨m - 1, [], [], [(5, .val false [.f (iL (i + 1 : Nat))]), (1, .val false [.f (iL n)]), (0, .val false [.f (ints l)])], [], by omega, ⟨?_, ?_, ?_⟩, i + 1, by omega, ?_, rfl, rfl⟩
      · rfl
      · refine tel1 ?_
        exact wrap_suc (by omega)
      · exact tel
      · rw [List.take_succ_eq_append_getElem hi, List.mem_append]
        simp only [List.mem_singleton, not_or]
        exact ⟨hn, fun e => h e.symm⟩
  · have hi : l.length ≤ i := by simpa using h
    refine nw ?_
    refine ⟨[], [], ?_⟩
    refine tel1 ?_
    rw [List.take_of_length_le hi] at hn
    exact b_false hn
instance (next : Int) (x : Nd) : Decidable (NodeOK next x) := by unfold NodeOK; infer_instance
theorem l02Node_ok (x : Nd) (next : Int) (hn : I64 (next - 1)) : FC Tryz.prog 291 [(true, ndL x), (false, [iL next])] [] [(false, [.f (bL (decide (NodeOK next x)))])] := by
  have hw : IntKind.i64.wrap (next - 1) = next - 1 := by obtain ⟨h1, h2⟩ := hn; rw [IntKind.wrap_i64]; omega
  have hk := l02Kind_ok x.kind
  by_cases k1 : 1 ≤ x.id ∧ x.id ≤ next - 1
  rotate_left
  · refine en Tryz.func291 Tryz.ntmps291 trivial ?_
    refine nw ?_
    refine ⟨([], _), in_f (by rw [hw]; exact k1), ?_⟩
    refine nw ?_
    refine ⟨[], [], ?_⟩
    refine tel1 ?_
    exact b_false fun h => k1 h.1
  by_cases k2 : 1 ≤ x.kind ∧ x.kind ≤ 8
  rotate_left
  · rw [decide_eq_false k2] at hk
    refine en Tryz.func291 Tryz.ntmps291 trivial ?_
    refine nw ?_
    refine ⟨([], _), in_t (by rw [hw]; exact k1), ?_⟩
    refine nw ?_
    refine ⟨([], _), hk, ?_⟩
    refine nw ?_
    refine ⟨[], [], ?_⟩
    refine tel1 ?_
    exact b_false fun h => k2 h.2.1
  rw [decide_eq_true k2] at hk
  by_cases k3 : 0 ≤ x.attr ∧ x.attr ≤ 99
  rotate_left
  · refine en Tryz.func291 Tryz.ntmps291 trivial ?_
    refine nw ?_
    refine ⟨([], _), in_t (by rw [hw]; exact k1), ?_⟩
    refine nw ?_
    refine ⟨([], _), hk, ?_⟩
    refine nw ?_
    refine ⟨([], _), in_f k3, ?_⟩
    refine nw ?_
    refine ⟨[], [], ?_⟩
    refine tel1 ?_
    exact b_false fun h => k3 h.2.2.1
  refine en Tryz.func291 Tryz.ntmps291 trivial ?_
  refine nw ?_
  refine ⟨([], _), in_t (by rw [hw]; exact k1), ?_⟩
  refine nw ?_
  refine ⟨([], _), hk, ?_⟩
  refine nw ?_
  refine ⟨([], _), in_t k3, ?_⟩
  refine nw ?_
  refine ⟨fun k4 => ?_, fun k4 => ?_⟩
  · refine nw ?_
    refine ⟨fun k5 => ?_, fun k5 => ?_⟩
    · refine nw ?_
      refine ⟨[], [], ?_⟩
      refine tel1 ?_
      exact b_true ⟨k1, k2, k3, by omega, by simp at k5; omega⟩
    · refine nw ?_
      refine ⟨[], [], ?_⟩
      refine tel1 ?_
      exact b_false fun h => k5 (by have := h.2.2.2.2; simp; omega)
  · refine nw ?_
    refine ⟨[], [], ?_⟩
    refine tel1 ?_
    exact b_false fun h => k4 (by have := h.2.2.2.1; omega)
def parP (l : List Nd) (id : Int) : Int := ((l.find? (fun n => decide (id ∈ n.kids))).map (·.id)).getD 0
theorem parP_cons (n : Nd) (l : List Nd) (id : Int) : parP (n :: l) id = if id ∈ n.kids then n.id else parP l id := by
  unfold parP
  rw [List.find?_cons]
  by_cases h : id ∈ n.kids
  · simp [h]
  · simp [h]
theorem l02Parent_ok (d : Dc) (id : Int) (hlen : d.nodes.length < 2 ^ 62) (hks : ∀ n ∈ d.nodes, n.kids.length < 2 ^ 62) : FC Tryz.prog 155 [(true, dcL d), (false, [iL id])] [] [(false, [.f (iL (parP d.nodes id))])] := by
  refine en Tryz.func155 Tryz.ntmps155 trivial ?_
  refine nw ?_
  refine ⟨fun (m : Nat) (es : Es) (hs : Hs) => ∃ i : Nat, m + i = d.nodes.length ∧ parP (d.nodes.drop i) id = parP d.nodes id ∧ es = [(5, .val false [.f (iL i)]), (2, .val false [.pt 48 0 0]), (1, .val false [.f (iL id)])] ∧ hs = [(48, some ⟨3, 3, [(dcL d).map .f]⟩)],
    ⟨d.nodes.length, [], [], _, _, ⟨?_, ?_, ?_⟩, 0, rfl, rfl, rfl, rfl⟩, ?_⟩
  · rfl
  · exact tel
  · exact tel
  rintro m es hs ⟨i, hm, hp, rfl, rfl⟩
  refine nw ?_
  refine ⟨fun h => ?_, fun h => ?_⟩
  · have hi : i < d.nodes.length := by simpa using h
    have hh := l02Has_ok d.nodes[i].kids id (hks _ (List.getElem_mem _))
    refine nw ?_
    refine ⟨(i, ndL d.nodes[i]), ⟨rfl, by simp [hi]⟩, ?_⟩
    refine nw ?_
    rw [List.drop_eq_getElem_cons hi] at hp
    by_cases k : id ∈ d.nodes[i].kids
    · rw [decide_eq_true k] at hh
      refine ⟨([], _), hh, ?_⟩
      refine nw ?_
      refine ⟨(i, ndL d.nodes[i]), ⟨rfl, by simp [hi]⟩, ?_⟩
      refine nw ?_
      refine ⟨[], [], ?_⟩
      refine tel1 ?_
      rw [← hp, parP_cons, if_pos k]
    · rw [decide_eq_false k] at hh
      refine ⟨([], _), hh, ?_⟩
      refine nw ?_
      refine ⟨m - 1, [], [], [(5, .val false [.f (iL (i + 1 : Nat))]), (2, .val false [.pt 48 0 0]), (1, .val false [.f (iL id)])], [(48, some ⟨3, 3, [(dcL d).map .f]⟩)], by omega, ⟨?_, ?_, ?_⟩, i + 1, by omega, ?_, rfl, rfl⟩
      · rfl
      · refine tel1 ?_
        exact wrap_suc (by omega)
      · exact tel
      · rw [← hp, parP_cons, if_neg k]
  · have hi : d.nodes.length ≤ i := by simpa using h
    refine nw ?_
    refine ⟨[], [], ?_⟩
    refine tel1 ?_
    rw [← hp, List.drop_eq_nil_of_le hi]; rfl
def rch (l : List Nd) (root : Int) : Nat → Int → Bool
  | 0, x => x == root
  | f + 1, x => x == root || (decide (x > 0) && rch l root f (parP l x))
theorem l02Reach_ok (d : Dc) (hlen : d.nodes.length < 2 ^ 61) (hks : ∀ n ∈ d.nodes, n.kids.length < 2 ^ 62) : FC Tryz.prog 219 [(true, dcL d)] [] [(false, [.f (bL (d.nodes.all fun x => rch d.nodes d.root (d.nodes.length + 1) x.id))])] := by
  refine en Tryz.func219 Tryz.ntmps219 trivial ?_
  refine nw ?_
  refine ⟨fun (m : Nat) (es : Es) (hs : Hs) => ∃ i : Nat, m + i = d.nodes.length ∧ ((d.nodes.drop i).all fun x => rch d.nodes d.root (d.nodes.length + 1) x.id) = (d.nodes.all fun x => rch d.nodes d.root (d.nodes.length + 1) x.id) ∧ es = [(3, .val false [.f (iL i)]), (1, .val false [.pt 32 0 0])] ∧ hs = [(32, some ⟨3, 3, [(dcL d).map .f]⟩)],
    ⟨d.nodes.length, [], [], _, _, ⟨?_, ?_, ?_⟩, 0, rfl, rfl, rfl, rfl⟩, ?_⟩
  · rfl
  · exact tel
  · exact tel
  rintro m es hs ⟨i, hm, hp, rfl, rfl⟩
  refine nw ?_
  refine ⟨fun h => ?_, fun h => ?_⟩
  · have hi : i < d.nodes.length := by simpa using h
    rw [List.drop_eq_getElem_cons hi, List.all_cons] at hp
    refine nw ?_
    refine ⟨(i, ndL d.nodes[i]), ⟨rfl, by simp [hi]⟩, ?_⟩
    refine nw ?_
    refine ⟨fun (m2 : Nat) (es : Es) (hs : Hs) => ∃ (s : Nat) (x : Int), m2 + s = d.nodes.length + 1 ∧ rch d.nodes d.root m2 x = rch d.nodes d.root (d.nodes.length + 1) d.nodes[i].id ∧ es = [(5, .val false [.f (iL s)]), (4, .val false [.f (iL x)]), (3, .val false [.f (iL i)]), (1, .val false [.pt 32 0 0])] ∧ hs = [(32, some ⟨3, 3, [(dcL d).map .f]⟩)],
      ⟨d.nodes.length + 1, [], [], _, _, ⟨?_, ?_, ?_⟩, 0, d.nodes[i].id, rfl, rfl, rfl, rfl⟩, ?_⟩
    · rfl
    · exact tel
    · exact tel
    rintro m2 es hs ⟨s, x, hm2, hx, rfl, rfl⟩
    have fin : x = d.root → rch d.nodes d.root (d.nodes.length + 1) d.nodes[i].id = true := fun e => by
      rw [← hx]
      cases m2 <;> simp [rch, e]
    refine nw ?_
    refine ⟨fun h1 => ?_, fun h1 => ?_⟩
    · refine nw ?_
      refine ⟨fun h2 => ?_, fun h2 => ?_⟩
      · refine nw ?_
        refine ⟨fun h3 => ?_, fun h3 => ?_⟩
        · have hpar := l02Parent_ok d x (by omega) hks
          refine nw ?_
          refine ⟨([], _), hpar, ?_⟩
          refine nw ?_
          refine ⟨m2 - 1, [], [], [(5, .val false [.f (iL (s + 1 : Nat))]), (4, .val false [.f (iL (parP d.nodes x))]), (3, .val false [.f (iL i)]), (1, .val false [.pt 32 0 0])], [(32, some ⟨3, 3, [(dcL d).map .f]⟩)], ?_, ⟨?_, ?_, ?_⟩, s + 1, parP d.nodes x, ?_, ?_, rfl, rfl⟩
          · simp at h3; omega
          · rfl
          · refine tel1 ?_
            exact wrap_suc (by omega)
          · exact tel
          · simp at h3; omega
          · rw [← hx]
            obtain ⟨k, rfl⟩ : ∃ k, m2 = k + 1 := ⟨m2 - 1, by simp at h3; omega⟩
            have e1 : (x == d.root) = false := by simpa using h1
            simp [rch, e1, h2]
        · have e0 : m2 = 0 := by simp at h3; omega
          have e1 : (x == d.root) = false := by simpa using h1
          have e2 : rch d.nodes d.root (d.nodes.length + 1) d.nodes[i].id = false := by rw [← hx, e0]; simp [rch, e1]
          refine nw ?_
          refine ⟨fun h4 => ?_, fun h4 => absurd h1 h4⟩
          refine nw ?_
          refine ⟨[], [], ?_⟩
          refine tel1 ?_
          rw [← hp, e2]; rfl
      · have e1 : (x == d.root) = false := by simpa using h1
        have e2 : rch d.nodes d.root (d.nodes.length + 1) d.nodes[i].id = false := by
          rw [← hx]
          cases m2 <;> simp [rch, e1, h2]
        refine nw ?_
        refine ⟨fun h4 => ?_, fun h4 => absurd h1 h4⟩
        refine nw ?_
        refine ⟨[], [], ?_⟩
        refine tel1 ?_
        rw [← hp, e2]; rfl
    · have e2 := fin (Classical.not_not.1 h1)
      refine nw ?_
      refine ⟨fun h4 => absurd h4 h1, fun h4 => ?_⟩
      refine nw ?_
      refine ⟨m - 1, [], [], [(3, .val false [.f (iL (i + 1 : Nat))]), (1, .val false [.pt 32 0 0])], [(32, some ⟨3, 3, [(dcL d).map .f]⟩)], by omega, ⟨?_, ?_, ?_⟩, i + 1, by omega, ?_, rfl, rfl⟩
      · rfl
      · refine tel1 ?_
        exact wrap_suc (by omega)
      · exact tel
      · rw [← hp, e2]; rfl
  · have hi : d.nodes.length ≤ i := by simpa using h
    refine nw ?_
    refine ⟨[], [], ?_⟩
    refine tel1 ?_
    rw [← hp, List.drop_eq_nil_of_le hi]; rfl
end Go.Proofs.YtecnmodeggnjoaaGreat.Ac
