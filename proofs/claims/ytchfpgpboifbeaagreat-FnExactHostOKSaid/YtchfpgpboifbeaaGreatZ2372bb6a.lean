/- Several of our texts, one behind the other, without what this claim does not need: Wg, Wh. -/
import Derived.Test.YtchfpgpboifbeaaGreatZ3ec39f7f
set_option linter.unusedVariables false
set_option linter.unusedSimpArgs false
set_option maxRecDepth 20000
set_option maxHeartbeats 2000000
namespace Go.Proofs.YtchfpgpboifbeaaGreat.Ac
open Go.RowKit
def ixFrom (v : Int) : Nat → List Int → Int
  | _, [] => -1
  | i, x :: l => if v = x then i else ixFrom v (i + 1) l
theorem ixFrom_mem (v : Int) : ∀ (l : List Int) (i : Nat), 0 ≤ ixFrom v i l ↔ v ∈ l
  | [], i => by simp [ixFrom]
  | x :: l, i => by
    simp only [ixFrom, List.mem_cons]
    by_cases h : v = x
    · simp [h]
    · simp [h, ixFrom_mem v l (i + 1)]
theorem index_ok (l : List Int) (v : Int) (hlen : l.length < 2 ^ 62) : FC Tryz.prog 255 [(false, [ints l]), (false, [iL v])] [] [(false, [.f (iL (ixFrom v 0 l))])] := by
  refine gcalls_of tbl_ok mixed Tryz.func255 rfl Tryz.ntmps255 (by kernel_rfl) (Nat.le_of_ble_eq_true rfl) rfl rfl trivial ?_
  (conv => whnf)
  refine ⟨fun (m : Nat) (es : Es) (hs : Hs) => ∃ i : Nat, m + i = l.length ∧ ixFrom v i (l.drop i) = ixFrom v 0 l ∧ es = [(8, .val false [.f (iL i)]), (7, .val false [.f (iL l.length)]), (1, .val false [.f (iL v)]), (0, .val false [.f (ints l)])] ∧ hs = [],
    ⟨l.length, [], [], _, _, ⟨?_, ?_, ?_⟩, 0, rfl, rfl, rfl, rfl⟩, ?_⟩
  · rfl
  · (repeat' first | exact trivial | exact rfl | exact tl_pv rfl rfl rfl (List.cons_ne_nil _ _) | exact ⟨_, rfl, frzC_map _⟩ | exact tl_ints rfl rfl rfl (by simp) | exact tl_txts rfl rfl rfl (by simp) | exact tl_nds rfl rfl rfl (by simp) | ((conv => whnf); first | exact trivial | exact rfl | exact .inr rfl | exact .inl ⟨rfl, rfl⟩ | apply And.intro) | refine tl_int ?_ | refine tl_bool ?_ | refine tl_str ?_ | refine tl_row rfl ?_ | exact cl_ints _ | exact cl_txts _ | exact cl_nds _ | exact cl_mp _ | exact Nat.succ_pos _ | exact pl_ints _ | exact pl_txts _ | exact pl_nds _ | with_reducible refine tl_f ?_)
    simp
  · (repeat' first | exact trivial | exact rfl | exact tl_pv rfl rfl rfl (List.cons_ne_nil _ _) | exact ⟨_, rfl, frzC_map _⟩ | exact tl_ints rfl rfl rfl (by simp) | exact tl_txts rfl rfl rfl (by simp) | exact tl_nds rfl rfl rfl (by simp) | ((conv => whnf); first | exact trivial | exact rfl | exact .inr rfl | exact .inl ⟨rfl, rfl⟩ | apply And.intro) | refine tl_int ?_ | refine tl_bool ?_ | refine tl_str ?_ | refine tl_row rfl ?_ | exact cl_ints _ | exact cl_txts _ | exact cl_nds _ | exact cl_mp _ | exact Nat.succ_pos _ | exact pl_ints _ | exact pl_txts _ | exact pl_nds _ | with_reducible refine tl_f ?_)
  rintro m es hs ⟨i, hm, hp, rfl, rfl⟩
  (conv => whnf)
  refine ⟨fun h => ?_, fun h => ?_⟩
  · have hi : i < l.length := by omega
    rw [List.drop_eq_getElem_cons hi] at hp
    (conv => whnf)
    refine ⟨(i, intE l[i]), ⟨rfl, by simp [hi]⟩, ?_⟩
    (conv => whnf)
    refine ⟨fun k => ?_, fun k => ?_⟩
    · (conv => whnf)
      refine ⟨[], [], ?_⟩
      (repeat' first | exact trivial | exact rfl | exact tl_pv rfl rfl rfl (List.cons_ne_nil _ _) | exact ⟨_, rfl, frzC_map _⟩ | exact tl_ints rfl rfl rfl (by simp) | exact tl_txts rfl rfl rfl (by simp) | exact tl_nds rfl rfl rfl (by simp) | ((conv => whnf); first | exact trivial | exact rfl | exact .inr rfl | exact .inl ⟨rfl, rfl⟩ | apply And.intro) | refine tl_int ?_ | refine tl_bool ?_ | refine tl_str ?_ | refine tl_row rfl ?_ | exact cl_ints _ | exact cl_txts _ | exact cl_nds _ | exact cl_mp _ | exact Nat.succ_pos _ | exact pl_ints _ | exact pl_txts _ | exact pl_nds _ | with_reducible refine tl_f ?_)
      rw [← hp, ixFrom, if_pos k]
    · (conv => whnf)
      refine ⟨m - 1, [], [], [(8, .val false [.f (iL (i + 1 : Nat))]), (7, .val false [.f (iL l.length)]), (1, .val false [.f (iL v)]), (0, .val false [.f (ints l)])], [], by omega, ⟨?_, ?_, ?_⟩, i + 1, by omega, ?_, rfl, rfl⟩
      · rfl
      · (repeat' first | exact trivial | exact rfl | exact tl_pv rfl rfl rfl (List.cons_ne_nil _ _) | exact ⟨_, rfl, frzC_map _⟩ | exact tl_ints rfl rfl rfl (by simp) | exact tl_txts rfl rfl rfl (by simp) | exact tl_nds rfl rfl rfl (by simp) | ((conv => whnf); first | exact trivial | exact rfl | exact .inr rfl | exact .inl ⟨rfl, rfl⟩ | apply And.intro) | refine tl_int ?_ | refine tl_bool ?_ | refine tl_str ?_ | refine tl_row rfl ?_ | exact cl_ints _ | exact cl_txts _ | exact cl_nds _ | exact cl_mp _ | exact Nat.succ_pos _ | exact pl_ints _ | exact pl_txts _ | exact pl_nds _ | with_reducible refine tl_f ?_)
        exact wrap_suc (by omega)
      · (repeat' first | exact trivial | exact rfl | exact tl_pv rfl rfl rfl (List.cons_ne_nil _ _) | exact ⟨_, rfl, frzC_map _⟩ | exact tl_ints rfl rfl rfl (by simp) | exact tl_txts rfl rfl rfl (by simp) | exact tl_nds rfl rfl rfl (by simp) | ((conv => whnf); first | exact trivial | exact rfl | exact .inr rfl | exact .inl ⟨rfl, rfl⟩ | apply And.intro) | refine tl_int ?_ | refine tl_bool ?_ | refine tl_str ?_ | refine tl_row rfl ?_ | exact cl_ints _ | exact cl_txts _ | exact cl_nds _ | exact cl_mp _ | exact Nat.succ_pos _ | exact pl_ints _ | exact pl_txts _ | exact pl_nds _ | with_reducible refine tl_f ?_)
      · rw [← hp, ixFrom, if_neg k]
  · have hi : l.length ≤ i := by omega
    (conv => whnf)
    refine ⟨[], [], ?_⟩
    (repeat' first | exact trivial | exact rfl | exact tl_pv rfl rfl rfl (List.cons_ne_nil _ _) | exact ⟨_, rfl, frzC_map _⟩ | exact tl_ints rfl rfl rfl (by simp) | exact tl_txts rfl rfl rfl (by simp) | exact tl_nds rfl rfl rfl (by simp) | ((conv => whnf); first | exact trivial | exact rfl | exact .inr rfl | exact .inl ⟨rfl, rfl⟩ | apply And.intro) | refine tl_int ?_ | refine tl_bool ?_ | refine tl_str ?_ | refine tl_row rfl ?_ | exact cl_ints _ | exact cl_txts _ | exact cl_nds _ | exact cl_mp _ | exact Nat.succ_pos _ | exact pl_ints _ | exact pl_txts _ | exact pl_nds _ | with_reducible refine tl_f ?_)
    rw [← hp, List.drop_eq_nil_of_le hi]; rfl
theorem contains_ok (l : List Int) (v : Int) (hlen : l.length < 2 ^ 62) : FC Tryz.prog 187 [(false, [ints l]), (false, [iL v])] [] [(false, [.f (bL (decide (v ∈ l)))])] := by
  refine gcalls_of tbl_ok mixed Tryz.func187 rfl Tryz.ntmps187 (by kernel_rfl) (Nat.le_of_ble_eq_true rfl) rfl rfl trivial ?_
  (conv => whnf)
  refine ⟨([], _), index_ok l v hlen, ?_⟩
  (conv => whnf)
  refine ⟨fun k => ?_, fun k => ?_⟩
  · (conv => whnf)
    refine ⟨[], [], ?_⟩
    (repeat' first | exact trivial | exact rfl | exact tl_pv rfl rfl rfl (List.cons_ne_nil _ _) | exact ⟨_, rfl, frzC_map _⟩ | exact tl_ints rfl rfl rfl (by simp) | exact tl_txts rfl rfl rfl (by simp) | exact tl_nds rfl rfl rfl (by simp) | ((conv => whnf); first | exact trivial | exact rfl | exact .inr rfl | exact .inl ⟨rfl, rfl⟩ | apply And.intro) | refine tl_int ?_ | refine tl_bool ?_ | refine tl_str ?_ | refine tl_row rfl ?_ | exact cl_ints _ | exact cl_txts _ | exact cl_nds _ | exact cl_mp _ | exact Nat.succ_pos _ | exact pl_ints _ | exact pl_txts _ | exact pl_nds _ | with_reducible refine tl_f ?_)
    exact b_true ((ixFrom_mem v l 0).1 k)
  · (conv => whnf)
    refine ⟨[], [], ?_⟩
    (repeat' first | exact trivial | exact rfl | exact tl_pv rfl rfl rfl (List.cons_ne_nil _ _) | exact ⟨_, rfl, frzC_map _⟩ | exact tl_ints rfl rfl rfl (by simp) | exact tl_txts rfl rfl rfl (by simp) | exact tl_nds rfl rfl rfl (by simp) | ((conv => whnf); first | exact trivial | exact rfl | exact .inr rfl | exact .inl ⟨rfl, rfl⟩ | apply And.intro) | refine tl_int ?_ | refine tl_bool ?_ | refine tl_str ?_ | refine tl_row rfl ?_ | exact cl_ints _ | exact cl_txts _ | exact cl_nds _ | exact cl_mp _ | exact Nat.succ_pos _ | exact pl_ints _ | exact pl_txts _ | exact pl_nds _ | with_reducible refine tl_f ?_)
    exact b_false fun e => k ((ixFrom_mem v l 0).2 e)
theorem parent_ok (d : Dc) (id : Int) (hlen : d.nodes.length < 2 ^ 62) (hks : ∀ n ∈ d.nodes, n.kids.length < 2 ^ 62) : FC Tryz.prog 260 [(false, [.pv (dcL d)]), (false, [iL id])] [] [(false, [.f (iL (parP d.nodes id))])] := by
  refine gcalls_of tbl_ok mixed Tryz.func260 rfl Tryz.ntmps260 (by kernel_rfl) (Nat.le_of_ble_eq_true rfl) rfl rfl trivial ?_
  (conv => whnf)
  refine ⟨fun (m : Nat) (es : Es) (hs : Hs) => ∃ i : Nat, m + i = d.nodes.length ∧ parP (d.nodes.drop i) id = parP d.nodes id ∧ es = [(12, .val false [.f (iL i)]), (11, .val false [.f (iL d.nodes.length)]), (10, .val false [.f (nds d.nodes)]), (1, .val false [.f (iL id)])] ∧ hs = [],
    ⟨d.nodes.length, [], [], _, _, ⟨?_, ?_, ?_⟩, 0, rfl, rfl, rfl, rfl⟩, ?_⟩
  · rfl
  · (repeat' first | exact trivial | exact rfl | exact tl_pv rfl rfl rfl (List.cons_ne_nil _ _) | exact ⟨_, rfl, frzC_map _⟩ | exact tl_ints rfl rfl rfl (by simp) | exact tl_txts rfl rfl rfl (by simp) | exact tl_nds rfl rfl rfl (by simp) | ((conv => whnf); first | exact trivial | exact rfl | exact .inr rfl | exact .inl ⟨rfl, rfl⟩ | apply And.intro) | refine tl_int ?_ | refine tl_bool ?_ | refine tl_str ?_ | refine tl_row rfl ?_ | exact cl_ints _ | exact cl_txts _ | exact cl_nds _ | exact cl_mp _ | exact Nat.succ_pos _ | exact pl_ints _ | exact pl_txts _ | exact pl_nds _ | with_reducible refine tl_f ?_)
    simp
  · (repeat' first | exact trivial | exact rfl | exact tl_pv rfl rfl rfl (List.cons_ne_nil _ _) | exact ⟨_, rfl, frzC_map _⟩ | exact tl_ints rfl rfl rfl (by simp) | exact tl_txts rfl rfl rfl (by simp) | exact tl_nds rfl rfl rfl (by simp) | ((conv => whnf); first | exact trivial | exact rfl | exact .inr rfl | exact .inl ⟨rfl, rfl⟩ | apply And.intro) | refine tl_int ?_ | refine tl_bool ?_ | refine tl_str ?_ | refine tl_row rfl ?_ | exact cl_ints _ | exact cl_txts _ | exact cl_nds _ | exact cl_mp _ | exact Nat.succ_pos _ | exact pl_ints _ | exact pl_txts _ | exact pl_nds _ | with_reducible refine tl_f ?_)
  rintro m es hs ⟨i, hm, hp, rfl, rfl⟩
  (conv => whnf)
  refine ⟨fun h => ?_, fun h => ?_⟩
  · have hi : i < d.nodes.length := by omega
    have hh := contains_ok d.nodes[i].kids id (hks _ (List.getElem_mem _))
    rw [List.drop_eq_getElem_cons hi] at hp
    (conv => whnf)
    refine ⟨(i, ndL d.nodes[i]), ⟨rfl, by simp [hi]⟩, ?_⟩
    (conv => whnf)
    by_cases k : id ∈ d.nodes[i].kids
    · rw [decide_eq_true k] at hh
      refine ⟨([], _), hh, ?_⟩
      (conv => whnf)
      refine ⟨[], [], ?_⟩
      (repeat' first | exact trivial | exact rfl | exact tl_pv rfl rfl rfl (List.cons_ne_nil _ _) | exact ⟨_, rfl, frzC_map _⟩ | exact tl_ints rfl rfl rfl (by simp) | exact tl_txts rfl rfl rfl (by simp) | exact tl_nds rfl rfl rfl (by simp) | ((conv => whnf); first | exact trivial | exact rfl | exact .inr rfl | exact .inl ⟨rfl, rfl⟩ | apply And.intro) | refine tl_int ?_ | refine tl_bool ?_ | refine tl_str ?_ | refine tl_row rfl ?_ | exact cl_ints _ | exact cl_txts _ | exact cl_nds _ | exact cl_mp _ | exact Nat.succ_pos _ | exact pl_ints _ | exact pl_txts _ | exact pl_nds _ | with_reducible refine tl_f ?_)
      rw [← hp, parP_cons, if_pos k]
    · rw [decide_eq_false k] at hh
      refine ⟨([], _), hh, ?_⟩
      (conv => whnf)
      refine ⟨m - 1, [], [], [(12, .val false [.f (iL (i + 1 : Nat))]), (11, .val false [.f (iL d.nodes.length)]), (10, .val false [.f (nds d.nodes)]), (1, .val false [.f (iL id)])], [], by omega, ⟨?_, ?_, ?_⟩, i + 1, by omega, ?_, rfl, rfl⟩
      · rfl
      · (repeat' first | exact trivial | exact rfl | exact tl_pv rfl rfl rfl (List.cons_ne_nil _ _) | exact ⟨_, rfl, frzC_map _⟩ | exact tl_ints rfl rfl rfl (by simp) | exact tl_txts rfl rfl rfl (by simp) | exact tl_nds rfl rfl rfl (by simp) | ((conv => whnf); first | exact trivial | exact rfl | exact .inr rfl | exact .inl ⟨rfl, rfl⟩ | apply And.intro) | refine tl_int ?_ | refine tl_bool ?_ | refine tl_str ?_ | refine tl_row rfl ?_ | exact cl_ints _ | exact cl_txts _ | exact cl_nds _ | exact cl_mp _ | exact Nat.succ_pos _ | exact pl_ints _ | exact pl_txts _ | exact pl_nds _ | with_reducible refine tl_f ?_)
        exact wrap_suc (by omega)
      · (repeat' first | exact trivial | exact rfl | exact tl_pv rfl rfl rfl (List.cons_ne_nil _ _) | exact ⟨_, rfl, frzC_map _⟩ | exact tl_ints rfl rfl rfl (by simp) | exact tl_txts rfl rfl rfl (by simp) | exact tl_nds rfl rfl rfl (by simp) | ((conv => whnf); first | exact trivial | exact rfl | exact .inr rfl | exact .inl ⟨rfl, rfl⟩ | apply And.intro) | refine tl_int ?_ | refine tl_bool ?_ | refine tl_str ?_ | refine tl_row rfl ?_ | exact cl_ints _ | exact cl_txts _ | exact cl_nds _ | exact cl_mp _ | exact Nat.succ_pos _ | exact pl_ints _ | exact pl_txts _ | exact pl_nds _ | with_reducible refine tl_f ?_)
      · rw [← hp, parP_cons, if_neg k]
  · have hi : d.nodes.length ≤ i := by omega
    (conv => whnf)
    refine ⟨[], [], ?_⟩
    (repeat' first | exact trivial | exact rfl | exact tl_pv rfl rfl rfl (List.cons_ne_nil _ _) | exact ⟨_, rfl, frzC_map _⟩ | exact tl_ints rfl rfl rfl (by simp) | exact tl_txts rfl rfl rfl (by simp) | exact tl_nds rfl rfl rfl (by simp) | ((conv => whnf); first | exact trivial | exact rfl | exact .inr rfl | exact .inl ⟨rfl, rfl⟩ | apply And.intro) | refine tl_int ?_ | refine tl_bool ?_ | refine tl_str ?_ | refine tl_row rfl ?_ | exact cl_ints _ | exact cl_txts _ | exact cl_nds _ | exact cl_mp _ | exact Nat.succ_pos _ | exact pl_ints _ | exact pl_txts _ | exact pl_nds _ | with_reducible refine tl_f ?_)
    rw [← hp, List.drop_eq_nil_of_le hi]; rfl
def Rev (l : List Int) (i : Nat) (c : List Int) : Prop := c.length = l.length ∧ ∀ k, k < l.length → c[k]? = if k < i ∨ l.length < k + i + 1 then l[l.length - 1 - k]? else l[k]?
theorem Rev.step {l c : List Int} {i : Nat} (h : Rev l i c) (hi : 2 * i + 1 < l.length) {x y : Int} (hx : c[i]? = some x) (hy : c[l.length - 1 - i]? = some y) : Rev l (i + 1) ((c.set i y).set (l.length - 1 - i) x) := by
  obtain ⟨h1, h2⟩ := h
  refine ⟨by simp [h1], fun k hk => ?_⟩
  have ex : l[i]? = some x := by rw [← hx, h2 i (by omega), if_neg (by omega)]
  have ey : l[l.length - 1 - i]? = some y := by rw [← hy, h2 _ (by omega), if_neg (by omega)]
  by_cases k1 : l.length - 1 - i = k
  · subst k1
    rw [List.getElem?_set_self (by simp; omega), if_pos (by omega), show l.length - 1 - (l.length - 1 - i) = i by omega, ex]
  · rw [List.getElem?_set_ne k1]
    by_cases k2 : i = k
    · subst k2
      rw [List.getElem?_set_self (by omega), if_pos (by omega), ey]
    · rw [List.getElem?_set_ne k2, h2 k hk]
      by_cases k3 : k < i ∨ l.length < k + i + 1
      · rw [if_pos k3, if_pos (by omega)]
      · rw [if_neg k3, if_neg (by omega)]
theorem Rev.done {l c : List Int} {i : Nat} (h : Rev l i c) (hi : l.length ≤ 2 * i + 1) : c = l.reverse := by
  apply List.ext_getElem?
  intro k
  by_cases hk : k < l.length
  · rw [h.2 k hk, List.getElem?_reverse hk]
    by_cases k1 : k < i ∨ l.length < k + i + 1
    · rw [if_pos k1]
    · rw [if_neg k1, show l.length - 1 - k = k by omega]
  · rw [List.getElem?_eq_none (by rw [h.1]; omega), List.getElem?_eq_none (by simp; omega)]
end Go.Proofs.YtchfpgpboifbeaaGreat.Ac
set_option linter.unusedVariables false
set_option linter.unusedSimpArgs false
set_option maxRecDepth 20000
set_option maxHeartbeats 2000000
namespace Go.Proofs.YtchfpgpboifbeaaGreat.Ac
open Go.RowKit
theorem reverse_ok (l : List Int) (hlen : l.length < 2 ^ 62) : GCalls Tryz.prog 261 [(1, some ⟨0, 1, l.map intW⟩)] [(false, [.row 1 0 l.length])] [(1, some ⟨0, 1, l.reverse.map intW⟩)] [] := by
  refine gcalls_of tbl_ok mixed Tryz.func261 rfl Tryz.ntmps261 (by kernel_rfl) (Nat.le_of_ble_eq_true rfl) rfl rfl (⟨cl_ints _, trivial⟩) ?_
  (conv => whnf)
  refine ⟨fun (m : Nat) (es : Es) (hs : Hs) => ∃ (i : Nat) (c : List Int), m + i = l.length ∧ Rev l i c ∧ es = [(3, .val false [.f (iL ((l.length : Int) - 1 - i))]), (2, .val false [.f (iL i)]), (0, .val false [.row 1 0 l.length])] ∧ hs = [(1, some ⟨0, 1, c.map intW⟩)],
    ⟨l.length, [], [], _, _, ⟨?_, ?_, ?_⟩, 0, l, rfl, ⟨rfl, fun k hk => by rw [if_neg (by omega)]⟩, rfl, rfl⟩, ?_⟩
  · rfl
  · (repeat' first | exact trivial | exact rfl | exact tl_pv rfl rfl rfl (List.cons_ne_nil _ _) | exact ⟨_, rfl, frzC_map _⟩ | exact tl_ints rfl rfl rfl (by simp) | exact tl_txts rfl rfl rfl (by simp) | exact tl_nds rfl rfl rfl (by simp) | ((conv => whnf); first | exact trivial | exact rfl | exact .inr rfl | exact .inl ⟨rfl, rfl⟩ | apply And.intro) | refine tl_int ?_ | refine tl_bool ?_ | refine tl_str ?_ | refine tl_row rfl ?_ | exact cl_ints _ | exact cl_txts _ | exact cl_nds _ | exact cl_mp _ | exact Nat.succ_pos _ | exact pl_ints _ | exact pl_txts _ | exact pl_nds _ | with_reducible refine tl_f ?_)
    rw [IntKind.wrap_i64]; omega
  · (repeat' first | exact trivial | exact rfl | exact tl_pv rfl rfl rfl (List.cons_ne_nil _ _) | exact ⟨_, rfl, frzC_map _⟩ | exact tl_ints rfl rfl rfl (by simp) | exact tl_txts rfl rfl rfl (by simp) | exact tl_nds rfl rfl rfl (by simp) | ((conv => whnf); first | exact trivial | exact rfl | exact .inr rfl | exact .inl ⟨rfl, rfl⟩ | apply And.intro) | refine tl_int ?_ | refine tl_bool ?_ | refine tl_str ?_ | refine tl_row rfl ?_ | exact cl_ints _ | exact cl_txts _ | exact cl_nds _ | exact cl_mp _ | exact Nat.succ_pos _ | exact pl_ints _ | exact pl_txts _ | exact pl_nds _ | with_reducible refine tl_f ?_)
  rintro m es hs ⟨i, c, hm, hr, rfl, rfl⟩
  (conv => whnf)
  refine ⟨fun h => ?_, fun h => ?_⟩
  · have hi : 2 * i + 1 < l.length := by omega
    have hcl := hr.1
    have hi1 : i < c.length := by omega
    have hj1 : l.length - 1 - i < c.length := by omega
    (conv => whnf)
    refine ⟨by kernel_rfl, ?_⟩
    (conv => whnf)
    refine ⟨l.length - 1 - i, ⟨by omega, by omega⟩, ?_⟩
    (conv => whnf)
    refine ⟨intW c[l.length - 1 - i], by simp [hj1], ?_⟩
    (conv => whnf)
    refine ⟨i, ⟨rfl, by omega⟩, ?_⟩
    (conv => whnf)
    refine ⟨intW c[i], by simp [hi1], ?_⟩
    (conv => whnf)
    refine ⟨i, ⟨rfl, by omega⟩, ?_⟩
    (conv => whnf)
    refine ⟨intW c[i], by simp [hi1], ?_⟩
    (conv => whnf)
    refine ⟨l.length - 1 - i, ⟨by omega, by omega⟩, ?_⟩
    (conv => whnf)
    refine ⟨intW c[l.length - 1 - i], by rw [List.getElem?_set_ne (by omega)]; simp [hj1], ?_⟩
    (conv => whnf)
    refine ⟨by kernel_rfl, ?_⟩
    (conv => whnf)
    refine ⟨m - 1, [], [], [(3, .val false [.f (iL ((l.length : Int) - 1 - (i + 1 : Nat)))]), (2, .val false [.f (iL (i + 1 : Nat))]), (0, .val false [.row 1 0 l.length])], [(1, some ⟨0, 1, ((c.set i c[l.length - 1 - i]).set (l.length - 1 - i) c[i]).map intW⟩)], by omega, ⟨?_, ?_, ?_⟩, i + 1, _, by omega, hr.step hi (List.getElem?_eq_getElem hi1) (List.getElem?_eq_getElem hj1), rfl, rfl⟩
    · rfl
    · (repeat' first | exact trivial | exact rfl | exact tl_pv rfl rfl rfl (List.cons_ne_nil _ _) | exact ⟨_, rfl, frzC_map _⟩ | exact tl_ints rfl rfl rfl (by simp) | exact tl_txts rfl rfl rfl (by simp) | exact tl_nds rfl rfl rfl (by simp) | ((conv => whnf); first | exact trivial | exact rfl | exact .inr rfl | exact .inl ⟨rfl, rfl⟩ | apply And.intro) | refine tl_int ?_ | refine tl_bool ?_ | refine tl_str ?_ | refine tl_row rfl ?_ | exact cl_ints _ | exact cl_txts _ | exact cl_nds _ | exact cl_mp _ | exact Nat.succ_pos _ | exact pl_ints _ | exact pl_txts _ | exact pl_nds _ | with_reducible refine tl_f ?_)
      · rw [IntKind.wrap_i64]; omega
      · exact wrap_suc (by omega)
    · (repeat' first | exact trivial | exact rfl | exact tl_pv rfl rfl rfl (List.cons_ne_nil _ _) | exact ⟨_, rfl, frzC_map _⟩ | exact tl_ints rfl rfl rfl (by simp) | exact tl_txts rfl rfl rfl (by simp) | exact tl_nds rfl rfl rfl (by simp) | ((conv => whnf); first | exact trivial | exact rfl | exact .inr rfl | exact .inl ⟨rfl, rfl⟩ | apply And.intro) | refine tl_int ?_ | refine tl_bool ?_ | refine tl_str ?_ | refine tl_row rfl ?_ | exact cl_ints _ | exact cl_txts _ | exact cl_nds _ | exact cl_mp _ | exact Nat.succ_pos _ | exact pl_ints _ | exact pl_txts _ | exact pl_nds _ | with_reducible refine tl_f ?_)
      dsimp only
      rw [List.map_set, List.map_set]
  · have hi : l.length ≤ 2 * i + 1 := by omega
    obtain rfl := hr.done hi
    (conv => whnf)
    refine ⟨[], [], ?_⟩
    (repeat' first | exact trivial | exact rfl | exact tl_pv rfl rfl rfl (List.cons_ne_nil _ _) | exact ⟨_, rfl, frzC_map _⟩ | exact tl_ints rfl rfl rfl (by simp) | exact tl_txts rfl rfl rfl (by simp) | exact tl_nds rfl rfl rfl (by simp) | ((conv => whnf); first | exact trivial | exact rfl | exact .inr rfl | exact .inl ⟨rfl, rfl⟩ | apply And.intro) | refine tl_int ?_ | refine tl_bool ?_ | refine tl_str ?_ | refine tl_row rfl ?_ | exact cl_ints _ | exact cl_txts _ | exact cl_nds _ | exact cl_mp _ | exact Nat.succ_pos _ | exact pl_ints _ | exact pl_txts _ | exact pl_nds _ | with_reducible refine tl_f ?_)
def upsF (l : List Nd) : Nat → Int → List Int
  | 0, _ => []
  | k + 1, x => if x = 0 then [] else x :: upsF l k (parP l x)
theorem path_ok (d : Dc) (id : Int) (s : Nat) (hs : upP d.nodes s id = 0) (h0 : parP d.nodes 0 = 0) (hsl : s < 2 ^ 29) (hlen : d.nodes.length < 2 ^ 62) (hks : ∀ n ∈ d.nodes, n.kids.length < 2 ^ 62) :
    FC Tryz.prog 202 [(false, [.pv (dcL d)]), (false, [iL id])] [(1000, some ⟨0, 1, (upsF d.nodes s id).reverse.map intW⟩)] [(false, [.row 1000 0 (upsF d.nodes s id).length])] := by
  have hul : ∀ (s : Nat) (x : Int), (upsF d.nodes s x).length ≤ s := by
    intro s
    induction s with
    | zero => intro x; simp [upsF]
    | succ s ih =>
      intro x
      simp only [upsF]
      split
      · simp
      · have := ih (parP d.nodes x); simp; omega
  have hz : ∀ s : Nat, upsF d.nodes s 0 = [] := fun s => by cases s <;> simp [upsF]
  refine gcalls_of tbl_ok mixed Tryz.func202 rfl Tryz.ntmps202 (by kernel_rfl) (Nat.le_of_ble_eq_true rfl) rfl rfl (⟨cl_ints _, trivial⟩) ?_
  (conv => whnf)
  refine ⟨fun (m : Nat) (es : Es) (hs : Hs) => ∃ (x : Int) (out : List Int), upP d.nodes m x = 0 ∧ m ≤ s ∧ out ++ upsF d.nodes m x = upsF d.nodes s id ∧ es = [(5, .val false [.row 3 0 out.length]), (1, .val false [.f (iL x)]), (0, .val false [.f (.pv (dcL d))])] ∧ hs = [(3, some ⟨0, 1, out.map intW⟩)],
    ⟨s, [], [], _, _, ⟨?_, ?_, ?_⟩, id, [], hs, Nat.le_refl _, rfl, rfl, rfl⟩, ?_⟩
  · rfl
  · (repeat' first | exact trivial | exact rfl | exact tl_pv rfl rfl rfl (List.cons_ne_nil _ _) | exact ⟨_, rfl, frzC_map _⟩ | exact tl_ints rfl rfl rfl (by simp) | exact tl_txts rfl rfl rfl (by simp) | exact tl_nds rfl rfl rfl (by simp) | ((conv => whnf); first | exact trivial | exact rfl | exact .inr rfl | exact .inl ⟨rfl, rfl⟩ | apply And.intro) | refine tl_int ?_ | refine tl_bool ?_ | refine tl_str ?_ | refine tl_row rfl ?_ | exact cl_ints _ | exact cl_txts _ | exact cl_nds _ | exact cl_mp _ | exact Nat.succ_pos _ | exact pl_ints _ | exact pl_txts _ | exact pl_nds _ | with_reducible refine tl_f ?_)
  · (repeat' first | exact trivial | exact rfl | exact tl_pv rfl rfl rfl (List.cons_ne_nil _ _) | exact ⟨_, rfl, frzC_map _⟩ | exact tl_ints rfl rfl rfl (by simp) | exact tl_txts rfl rfl rfl (by simp) | exact tl_nds rfl rfl rfl (by simp) | ((conv => whnf); first | exact trivial | exact rfl | exact .inr rfl | exact .inl ⟨rfl, rfl⟩ | apply And.intro) | refine tl_int ?_ | refine tl_bool ?_ | refine tl_str ?_ | refine tl_row rfl ?_ | exact cl_ints _ | exact cl_txts _ | exact cl_nds _ | exact cl_mp _ | exact Nat.succ_pos _ | exact pl_ints _ | exact pl_txts _ | exact pl_nds _ | with_reducible refine tl_f ?_)
  rintro m es hs' ⟨x, out, hx, hms, hout, rfl, rfl⟩
  (conv => whnf)
  refine ⟨fun h => ?_, fun h => ?_⟩
  · have hm : ∃ k, m = k + 1 := by
      cases m with
      | zero => exact absurd hx h
      | succ k => exact ⟨k, rfl⟩
    obtain ⟨k, rfl⟩ := hm
    have hol : out.length ≤ s := by
      have := hul s id
      rw [← hout, List.length_append] at this; omega
    (conv => whnf)
    refine ⟨(out ++ [x]).map intW, ⟨app_one intW out x, by simp; omega⟩, ?_⟩
    (conv => whnf)
    refine ⟨([], _), parent_ok d x hlen hks, ?_⟩
    (conv => whnf)
    refine ⟨k, [], [(3, 240)], [(5, .val false [.row 3 0 (out ++ [x]).length]), (1, .val false [.f (iL (parP d.nodes x))]), (0, .val false [.f (.pv (dcL d))])], [(3, some ⟨0, 1, (out ++ [x]).map intW⟩)], by omega, ⟨?_, ?_, ?_⟩, parP d.nodes x, out ++ [x], hx, by omega, ?_, rfl, rfl⟩
    · rfl
    · (repeat' first | exact trivial | exact rfl | exact tl_pv rfl rfl rfl (List.cons_ne_nil _ _) | exact ⟨_, rfl, frzC_map _⟩ | exact tl_ints rfl rfl rfl (by simp) | exact tl_txts rfl rfl rfl (by simp) | exact tl_nds rfl rfl rfl (by simp) | ((conv => whnf); first | exact trivial | exact rfl | exact .inr rfl | exact .inl ⟨rfl, rfl⟩ | apply And.intro) | refine tl_int ?_ | refine tl_bool ?_ | refine tl_str ?_ | refine tl_row rfl ?_ | exact cl_ints _ | exact cl_txts _ | exact cl_nds _ | exact cl_mp _ | exact Nat.succ_pos _ | exact pl_ints _ | exact pl_txts _ | exact pl_nds _ | with_reducible refine tl_f ?_)
      all_goals simp
    · (repeat' first | exact trivial | exact rfl | exact tl_pv rfl rfl rfl (List.cons_ne_nil _ _) | exact ⟨_, rfl, frzC_map _⟩ | exact tl_ints rfl rfl rfl (by simp) | exact tl_txts rfl rfl rfl (by simp) | exact tl_nds rfl rfl rfl (by simp) | ((conv => whnf); first | exact trivial | exact rfl | exact .inr rfl | exact .inl ⟨rfl, rfl⟩ | apply And.intro) | refine tl_int ?_ | refine tl_bool ?_ | refine tl_str ?_ | refine tl_row rfl ?_ | exact cl_ints _ | exact cl_txts _ | exact cl_nds _ | exact cl_mp _ | exact Nat.succ_pos _ | exact pl_ints _ | exact pl_txts _ | exact pl_nds _ | with_reducible refine tl_f ?_)
    · rw [← hout]; simp [upsF, h]
  · have hx0 : x = 0 := Classical.not_not.1 h
    subst hx0
    rw [hz, List.append_nil] at hout
    have hol : out.length < 2 ^ 62 := by
      have := hul s id
      rw [← hout] at this; omega
    rw [← hout]
    (conv => whnf)
    refine ⟨⟨false, [(1, 3)], _, _, _, _⟩, reverse_ok out hol, ?_⟩
    (conv => whnf)
    refine ⟨⟨?_, ?_, trivial⟩, ?_⟩
    · (repeat' first | exact trivial | exact rfl | exact tl_pv rfl rfl rfl (List.cons_ne_nil _ _) | exact ⟨_, rfl, frzC_map _⟩ | exact tl_ints rfl rfl rfl (by simp) | exact tl_txts rfl rfl rfl (by simp) | exact tl_nds rfl rfl rfl (by simp) | ((conv => whnf); first | exact trivial | exact rfl | exact .inr rfl | exact .inl ⟨rfl, rfl⟩ | apply And.intro) | refine tl_int ?_ | refine tl_bool ?_ | refine tl_str ?_ | refine tl_row rfl ?_ | exact cl_ints _ | exact cl_txts _ | exact cl_nds _ | exact cl_mp _ | exact Nat.succ_pos _ | exact pl_ints _ | exact pl_txts _ | exact pl_nds _ | with_reducible refine tl_f ?_)
    · (repeat' first | exact trivial | exact rfl | exact tl_pv rfl rfl rfl (List.cons_ne_nil _ _) | exact ⟨_, rfl, frzC_map _⟩ | exact tl_ints rfl rfl rfl (by simp) | exact tl_txts rfl rfl rfl (by simp) | exact tl_nds rfl rfl rfl (by simp) | ((conv => whnf); first | exact trivial | exact rfl | exact .inr rfl | exact .inl ⟨rfl, rfl⟩ | apply And.intro) | refine tl_int ?_ | refine tl_bool ?_ | refine tl_str ?_ | refine tl_row rfl ?_ | exact cl_ints _ | exact cl_txts _ | exact cl_nds _ | exact cl_mp _ | exact Nat.succ_pos _ | exact pl_ints _ | exact pl_txts _ | exact pl_nds _ | with_reducible refine tl_f ?_)
    (conv => whnf)
    refine ⟨[], [(1000, 3)], ?_⟩
    (repeat' first | exact trivial | exact rfl | exact tl_pv rfl rfl rfl (List.cons_ne_nil _ _) | exact ⟨_, rfl, frzC_map _⟩ | exact tl_ints rfl rfl rfl (by simp) | exact tl_txts rfl rfl rfl (by simp) | exact tl_nds rfl rfl rfl (by simp) | ((conv => whnf); first | exact trivial | exact rfl | exact .inr rfl | exact .inl ⟨rfl, rfl⟩ | apply And.intro) | refine tl_int ?_ | refine tl_bool ?_ | refine tl_str ?_ | refine tl_row rfl ?_ | exact cl_ints _ | exact cl_txts _ | exact cl_nds _ | exact cl_mp _ | exact Nat.succ_pos _ | exact pl_ints _ | exact pl_txts _ | exact pl_nds _ | with_reducible refine tl_f ?_)
theorem upsF_len (l : List Nd) : ∀ (s : Nat) (x : Int), (upsF l s x).length ≤ s
  | 0, x => by simp [upsF]
  | s + 1, x => by
    simp only [upsF]
    split
    · simp
    · have := upsF_len l s (parP l x); simp; omega
theorem isIn_ok (d : Dc) (id top : Int) (s : Nat) (hs : upP d.nodes s id = 0) (h0 : parP d.nodes 0 = 0) (hsl : s < 2 ^ 29) (hlen : d.nodes.length < 2 ^ 62) (hks : ∀ n ∈ d.nodes, n.kids.length < 2 ^ 62) :
    FC Tryz.prog 128 [(false, [.pv (dcL d)]), (false, [iL id]), (false, [iL top])] [] [(false, [.f (bL (decide (top ∈ upsF d.nodes s id)))])] := by
  have hl := upsF_len d.nodes s id
  have hc := contains_ok (upsF d.nodes s id).reverse top (by simp; omega)
  refine gcalls_of tbl_ok mixed Tryz.func128 rfl Tryz.ntmps128 (by kernel_rfl) (Nat.le_of_ble_eq_true rfl) rfl rfl trivial ?_
  (conv => whnf)
  refine ⟨(_, _), path_ok d id s hs h0 hsl hlen hks, ?_⟩
  (conv => whnf)
  refine ⟨⟨true, [], _, _, _, _⟩, hc, ?_⟩
  (conv => whnf)
  refine ⟨⟨?_, ?_, ?_⟩, ?_⟩
  · (repeat' first | exact trivial | exact rfl | exact tl_pv rfl rfl rfl (List.cons_ne_nil _ _) | exact ⟨_, rfl, frzC_map _⟩ | exact tl_ints rfl rfl rfl (by simp) | exact tl_txts rfl rfl rfl (by simp) | exact tl_nds rfl rfl rfl (by simp) | ((conv => whnf); first | exact trivial | exact rfl | exact .inr rfl | exact .inl ⟨rfl, rfl⟩ | apply And.intro) | refine tl_int ?_ | refine tl_bool ?_ | refine tl_str ?_ | refine tl_row rfl ?_ | exact cl_ints _ | exact cl_txts _ | exact cl_nds _ | exact cl_mp _ | exact Nat.succ_pos _ | exact pl_ints _ | exact pl_txts _ | exact pl_nds _ | with_reducible refine tl_f ?_)
  · (repeat' first | exact trivial | exact rfl | exact tl_pv rfl rfl rfl (List.cons_ne_nil _ _) | exact ⟨_, rfl, frzC_map _⟩ | exact tl_ints rfl rfl rfl (by simp) | exact tl_txts rfl rfl rfl (by simp) | exact tl_nds rfl rfl rfl (by simp) | ((conv => whnf); first | exact trivial | exact rfl | exact .inr rfl | exact .inl ⟨rfl, rfl⟩ | apply And.intro) | refine tl_int ?_ | refine tl_bool ?_ | refine tl_str ?_ | refine tl_row rfl ?_ | exact cl_ints _ | exact cl_txts _ | exact cl_nds _ | exact cl_mp _ | exact Nat.succ_pos _ | exact pl_ints _ | exact pl_txts _ | exact pl_nds _ | with_reducible refine tl_f ?_)
  · (repeat' first | exact trivial | exact rfl | exact tl_pv rfl rfl rfl (List.cons_ne_nil _ _) | exact ⟨_, rfl, frzC_map _⟩ | exact tl_ints rfl rfl rfl (by simp) | exact tl_txts rfl rfl rfl (by simp) | exact tl_nds rfl rfl rfl (by simp) | ((conv => whnf); first | exact trivial | exact rfl | exact .inr rfl | exact .inl ⟨rfl, rfl⟩ | apply And.intro) | refine tl_int ?_ | refine tl_bool ?_ | refine tl_str ?_ | refine tl_row rfl ?_ | exact cl_ints _ | exact cl_txts _ | exact cl_nds _ | exact cl_mp _ | exact Nat.succ_pos _ | exact pl_ints _ | exact pl_txts _ | exact pl_nds _ | with_reducible refine tl_f ?_)
  (conv => whnf)
  refine ⟨[], [], ?_⟩
  (repeat' first | exact trivial | exact rfl | exact tl_pv rfl rfl rfl (List.cons_ne_nil _ _) | exact ⟨_, rfl, frzC_map _⟩ | exact tl_ints rfl rfl rfl (by simp) | exact tl_txts rfl rfl rfl (by simp) | exact tl_nds rfl rfl rfl (by simp) | ((conv => whnf); first | exact trivial | exact rfl | exact .inr rfl | exact .inl ⟨rfl, rfl⟩ | apply And.intro) | refine tl_int ?_ | refine tl_bool ?_ | refine tl_str ?_ | refine tl_row rfl ?_ | exact cl_ints _ | exact cl_txts _ | exact cl_nds _ | exact cl_mp _ | exact Nat.succ_pos _ | exact pl_ints _ | exact pl_txts _ | exact pl_nds _ | with_reducible refine tl_f ?_)
  simp
end Go.Proofs.YtchfpgpboifbeaaGreat.Ac
