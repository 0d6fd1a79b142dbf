/- Several of our texts, one behind the other, without what this claim does not need: Wl, Wm, AcZ, Ma, Wb, Wc, Tr, We, Wf, Ts, Wg, ShSrt. -/
import Derived.Test.YtfafehhallbjiaaZd11b1bc5
import Derived.Shelf.Sort.Plain
import Derived.Ground.Names2Prog
import Derived.Shelf.Slices.In.SortNone
import Derived.Ground.SlgnProg
import Derived.Test.YtfafehhallbjiaaProg
set_option linter.unusedVariables false
set_option linter.unusedSimpArgs false
set_option maxRecDepth 20000
set_option maxHeartbeats 2000000
namespace Go.Proofs.Ytfafehhallbjiaa.Ac
open Go.RowKit
theorem eqIntS_refl (x : List Int) (hx : x.length < 2 ^ 62) : FC Try.prog 22 [(false, [ints x]), (false, [ints x])] [] [(false, [.f (bL true)])] := by
  refine gcalls_of tbl_ok mixed Try.func22 rfl Try.ntmps22 (by kernel_rfl) (Nat.le_of_ble_eq_true rfl) rfl rfl trivial ?_
  conv => whnf
  refine ⟨fun h => absurd rfl h, fun h => ?_⟩
  conv => whnf
  refine ⟨fun (m : Nat) (es : Es) (hs : Hs) => ∃ i : Nat, m + i = x.length ∧ es = [(5, .val false [.f (iL i)]), (1, .val false [.f (ints x)]), (0, .val false [.f (ints x)])] ∧ hs = [],
    ⟨x.length, [], [], _, _, ⟨?_, ?_, ?_⟩, 0, rfl, rfl, rfl⟩, ?_⟩
  · rfl
  · (repeat' first | exact trivial | exact rfl | exact tl_pv rfl rfl rfl (List.cons_ne_nil _ _) | exact tl_ints rfl rfl rfl (by simp) | exact tl_txts rfl rfl rfl (by simp) | exact tl_nds rfl rfl rfl (by simp) | ((conv => whnf); first | exact trivial | exact rfl | exact .inr rfl | exact .inl ⟨rfl, rfl⟩ | apply And.intro) | refine tl_int ?_ | refine tl_bool ?_ | refine tl_str ?_ | refine tl_row rfl ?_ | exact cl_ints _ | exact cl_txts _ | exact cl_nds _ | exact cl_mp _ | exact Nat.succ_pos _ | exact pl_ints _ | exact pl_txts _ | exact pl_nds _ | with_reducible refine tl_f ?_)
  · (repeat' first | exact trivial | exact rfl | exact tl_pv rfl rfl rfl (List.cons_ne_nil _ _) | exact tl_ints rfl rfl rfl (by simp) | exact tl_txts rfl rfl rfl (by simp) | exact tl_nds rfl rfl rfl (by simp) | ((conv => whnf); first | exact trivial | exact rfl | exact .inr rfl | exact .inl ⟨rfl, rfl⟩ | apply And.intro) | refine tl_int ?_ | refine tl_bool ?_ | refine tl_str ?_ | refine tl_row rfl ?_ | exact cl_ints _ | exact cl_txts _ | exact cl_nds _ | exact cl_mp _ | exact Nat.succ_pos _ | exact pl_ints _ | exact pl_txts _ | exact pl_nds _ | with_reducible refine tl_f ?_)
  rintro m es hs ⟨i, hm, rfl, rfl⟩
  conv => whnf
  refine ⟨fun h => ?_, fun h => ?_⟩
  · have hi : i < x.length := by simpa using h
    conv => whnf
    refine ⟨by kernel_rfl, ?_⟩
    conv => whnf
    refine ⟨(i, intE x[i]), ⟨rfl, by simp [hi]⟩, ?_⟩
    conv => whnf
    refine ⟨(i, intE x[i]), ⟨rfl, by simp [hi]⟩, ?_⟩
    conv => whnf
    refine ⟨fun k => absurd rfl k, fun k => ?_⟩
    conv => whnf
    refine ⟨by kernel_rfl, ?_⟩
    conv => whnf
    refine ⟨m - 1, [], [], [(5, .val false [.f (iL (i + 1 : Nat))]), (1, .val false [.f (ints x)]), (0, .val false [.f (ints x)])], [], by omega, ⟨?_, ?_, ?_⟩, i + 1, by omega, rfl, rfl⟩
    · rfl
    · (repeat' first | exact trivial | exact rfl | exact tl_pv rfl rfl rfl (List.cons_ne_nil _ _) | exact tl_ints rfl rfl rfl (by simp) | exact tl_txts rfl rfl rfl (by simp) | exact tl_nds rfl rfl rfl (by simp) | ((conv => whnf); first | exact trivial | exact rfl | exact .inr rfl | exact .inl ⟨rfl, rfl⟩ | apply And.intro) | refine tl_int ?_ | refine tl_bool ?_ | refine tl_str ?_ | refine tl_row rfl ?_ | exact cl_ints _ | exact cl_txts _ | exact cl_nds _ | exact cl_mp _ | exact Nat.succ_pos _ | exact pl_ints _ | exact pl_txts _ | exact pl_nds _ | with_reducible refine tl_f ?_)
      exact wrap_suc (by omega)
    · (repeat' first | exact trivial | exact rfl | exact tl_pv rfl rfl rfl (List.cons_ne_nil _ _) | exact tl_ints rfl rfl rfl (by simp) | exact tl_txts rfl rfl rfl (by simp) | exact tl_nds rfl rfl rfl (by simp) | ((conv => whnf); first | exact trivial | exact rfl | exact .inr rfl | exact .inl ⟨rfl, rfl⟩ | apply And.intro) | refine tl_int ?_ | refine tl_bool ?_ | refine tl_str ?_ | refine tl_row rfl ?_ | exact cl_ints _ | exact cl_txts _ | exact cl_nds _ | exact cl_mp _ | exact Nat.succ_pos _ | exact pl_ints _ | exact pl_txts _ | exact pl_nds _ | with_reducible refine tl_f ?_)
  · conv => whnf
    refine ⟨[], [], ?_⟩
    (repeat' first | exact trivial | exact rfl | exact tl_pv rfl rfl rfl (List.cons_ne_nil _ _) | exact tl_ints rfl rfl rfl (by simp) | exact tl_txts rfl rfl rfl (by simp) | exact tl_nds rfl rfl rfl (by simp) | ((conv => whnf); first | exact trivial | exact rfl | exact .inr rfl | exact .inl ⟨rfl, rfl⟩ | apply And.intro) | refine tl_int ?_ | refine tl_bool ?_ | refine tl_str ?_ | refine tl_row rfl ?_ | exact cl_ints _ | exact cl_txts _ | exact cl_nds _ | exact cl_mp _ | exact Nat.succ_pos _ | exact pl_ints _ | exact pl_txts _ | exact pl_nds _ | with_reducible refine tl_f ?_)
theorem eqNode_refl (n : Nd) (hk : n.kids.length < 2 ^ 62) : FC Try.prog 68 [(true, ndL n), (true, ndL n)] [] [(false, [.f (bL true)])] := by
  refine gcalls_of tbl_ok mixed Try.func68 rfl Try.ntmps68 (by kernel_rfl) (Nat.le_of_ble_eq_true rfl) rfl rfl trivial ?_
  conv => whnf
  refine ⟨fun h => absurd rfl h, fun h => ?_⟩
  conv => whnf
  refine ⟨fun h => absurd rfl h, fun h => ?_⟩
  conv => whnf
  refine ⟨fun h => absurd rfl h, fun h => ?_⟩
  conv => whnf
  refine ⟨fun h => absurd rfl h, fun h => ?_⟩
  conv => whnf
  refine ⟨([], _), eqIntS_refl n.kids hk, ?_⟩
  conv => whnf
  refine ⟨[], [], ?_⟩
  (repeat' first | exact trivial | exact rfl | exact tl_pv rfl rfl rfl (List.cons_ne_nil _ _) | exact tl_ints rfl rfl rfl (by simp) | exact tl_txts rfl rfl rfl (by simp) | exact tl_nds rfl rfl rfl (by simp) | ((conv => whnf); first | exact trivial | exact rfl | exact .inr rfl | exact .inl ⟨rfl, rfl⟩ | apply And.intro) | refine tl_int ?_ | refine tl_bool ?_ | refine tl_str ?_ | refine tl_row rfl ?_ | exact cl_ints _ | exact cl_txts _ | exact cl_nds _ | exact cl_mp _ | exact Nat.succ_pos _ | exact pl_ints _ | exact pl_txts _ | exact pl_nds _ | with_reducible refine tl_f ?_)
theorem eqNodeS_refl (x : List Nd) (hx : x.length < 2 ^ 62) (hk : ∀ n ∈ x, n.kids.length < 2 ^ 62) : FC Try.prog 37 [(false, [nds x]), (false, [nds x])] [] [(false, [.f (bL true)])] := by
  refine gcalls_of tbl_ok mixed Try.func37 rfl Try.ntmps37 (by kernel_rfl) (Nat.le_of_ble_eq_true rfl) rfl rfl trivial ?_
  conv => whnf
  refine ⟨fun h => absurd rfl h, fun h => ?_⟩
  conv => whnf
  refine ⟨fun (m : Nat) (es : Es) (hs : Hs) => ∃ i : Nat, m + i = x.length ∧ es = [(5, .val false [.f (iL i)]), (1, .val false [.f (nds x)]), (0, .val false [.f (nds x)])] ∧ hs = [],
    ⟨x.length, [], [], _, _, ⟨?_, ?_, ?_⟩, 0, rfl, rfl, rfl⟩, ?_⟩
  · rfl
  · (repeat' first | exact trivial | exact rfl | exact tl_pv rfl rfl rfl (List.cons_ne_nil _ _) | exact tl_ints rfl rfl rfl (by simp) | exact tl_txts rfl rfl rfl (by simp) | exact tl_nds rfl rfl rfl (by simp) | ((conv => whnf); first | exact trivial | exact rfl | exact .inr rfl | exact .inl ⟨rfl, rfl⟩ | apply And.intro) | refine tl_int ?_ | refine tl_bool ?_ | refine tl_str ?_ | refine tl_row rfl ?_ | exact cl_ints _ | exact cl_txts _ | exact cl_nds _ | exact cl_mp _ | exact Nat.succ_pos _ | exact pl_ints _ | exact pl_txts _ | exact pl_nds _ | with_reducible refine tl_f ?_)
  · (repeat' first | exact trivial | exact rfl | exact tl_pv rfl rfl rfl (List.cons_ne_nil _ _) | exact tl_ints rfl rfl rfl (by simp) | exact tl_txts rfl rfl rfl (by simp) | exact tl_nds rfl rfl rfl (by simp) | ((conv => whnf); first | exact trivial | exact rfl | exact .inr rfl | exact .inl ⟨rfl, rfl⟩ | apply And.intro) | refine tl_int ?_ | refine tl_bool ?_ | refine tl_str ?_ | refine tl_row rfl ?_ | exact cl_ints _ | exact cl_txts _ | exact cl_nds _ | exact cl_mp _ | exact Nat.succ_pos _ | exact pl_ints _ | exact pl_txts _ | exact pl_nds _ | with_reducible refine tl_f ?_)
  rintro m es hs ⟨i, hm, rfl, rfl⟩
  conv => whnf
  refine ⟨fun h => ?_, fun h => ?_⟩
  · have hi : i < x.length := by simpa using h
    conv => whnf
    refine ⟨by kernel_rfl, ?_⟩
    conv => whnf
    refine ⟨(i, ndL x[i]), ⟨rfl, by simp [hi]⟩, ?_⟩
    conv => whnf
    refine ⟨(i, ndL x[i]), ⟨rfl, by simp [hi]⟩, ?_⟩
    conv => whnf
    refine ⟨([], _), eqNode_refl x[i] (hk _ (List.getElem_mem _)), ?_⟩
    conv => whnf
    refine ⟨by kernel_rfl, ?_⟩
    conv => whnf
    refine ⟨m - 1, [], [], [(5, .val false [.f (iL (i + 1 : Nat))]), (1, .val false [.f (nds x)]), (0, .val false [.f (nds x)])], [], by omega, ⟨?_, ?_, ?_⟩, i + 1, by omega, rfl, rfl⟩
    · rfl
    · (repeat' first | exact trivial | exact rfl | exact tl_pv rfl rfl rfl (List.cons_ne_nil _ _) | exact tl_ints rfl rfl rfl (by simp) | exact tl_txts rfl rfl rfl (by simp) | exact tl_nds rfl rfl rfl (by simp) | ((conv => whnf); first | exact trivial | exact rfl | exact .inr rfl | exact .inl ⟨rfl, rfl⟩ | apply And.intro) | refine tl_int ?_ | refine tl_bool ?_ | refine tl_str ?_ | refine tl_row rfl ?_ | exact cl_ints _ | exact cl_txts _ | exact cl_nds _ | exact cl_mp _ | exact Nat.succ_pos _ | exact pl_ints _ | exact pl_txts _ | exact pl_nds _ | with_reducible refine tl_f ?_)
      exact wrap_suc (by omega)
    · (repeat' first | exact trivial | exact rfl | exact tl_pv rfl rfl rfl (List.cons_ne_nil _ _) | exact tl_ints rfl rfl rfl (by simp) | exact tl_txts rfl rfl rfl (by simp) | exact tl_nds rfl rfl rfl (by simp) | ((conv => whnf); first | exact trivial | exact rfl | exact .inr rfl | exact .inl ⟨rfl, rfl⟩ | apply And.intro) | refine tl_int ?_ | refine tl_bool ?_ | refine tl_str ?_ | refine tl_row rfl ?_ | exact cl_ints _ | exact cl_txts _ | exact cl_nds _ | exact cl_mp _ | exact Nat.succ_pos _ | exact pl_ints _ | exact pl_txts _ | exact pl_nds _ | with_reducible refine tl_f ?_)
  · conv => whnf
    refine ⟨[], [], ?_⟩
    (repeat' first | exact trivial | exact rfl | exact tl_pv rfl rfl rfl (List.cons_ne_nil _ _) | exact tl_ints rfl rfl rfl (by simp) | exact tl_txts rfl rfl rfl (by simp) | exact tl_nds rfl rfl rfl (by simp) | ((conv => whnf); first | exact trivial | exact rfl | exact .inr rfl | exact .inl ⟨rfl, rfl⟩ | apply And.intro) | refine tl_int ?_ | refine tl_bool ?_ | refine tl_str ?_ | refine tl_row rfl ?_ | exact cl_ints _ | exact cl_txts _ | exact cl_nds _ | exact cl_mp _ | exact Nat.succ_pos _ | exact pl_ints _ | exact pl_txts _ | exact pl_nds _ | with_reducible refine tl_f ?_)
theorem eqDoc_refl (d : Dc) (hx : d.nodes.length < 2 ^ 62) (hk : ∀ n ∈ d.nodes, n.kids.length < 2 ^ 62) : FC Try.prog 10 [(true, dcL d), (true, dcL d)] [] [(false, [.f (bL true)])] := by
  refine gcalls_of tbl_ok mixed Try.func10 rfl Try.ntmps10 (by kernel_rfl) (Nat.le_of_ble_eq_true rfl) rfl rfl trivial ?_
  conv => whnf
  refine ⟨fun h => absurd rfl h, fun h => ?_⟩
  conv => whnf
  refine ⟨fun h => absurd rfl h, fun h => ?_⟩
  conv => whnf
  refine ⟨([], _), eqNodeS_refl d.nodes hx hk, ?_⟩
  conv => whnf
  refine ⟨[], [], ?_⟩
  (repeat' first | exact trivial | exact rfl | exact tl_pv rfl rfl rfl (List.cons_ne_nil _ _) | exact tl_ints rfl rfl rfl (by simp) | exact tl_txts rfl rfl rfl (by simp) | exact tl_nds rfl rfl rfl (by simp) | ((conv => whnf); first | exact trivial | exact rfl | exact .inr rfl | exact .inl ⟨rfl, rfl⟩ | apply And.intro) | refine tl_int ?_ | refine tl_bool ?_ | refine tl_str ?_ | refine tl_row rfl ?_ | exact cl_ints _ | exact cl_txts _ | exact cl_nds _ | exact cl_mp _ | exact Nat.succ_pos _ | exact pl_ints _ | exact pl_txts _ | exact pl_nds _ | with_reducible refine tl_f ?_)
def szL (s : Nat) (left : Int) : Int := if (s : Int) ≤ left then left - s else -1
theorem szIntS_ok (x : List Int) (left : Int) (h0 : 0 ≤ left ∧ left ≤ 2 ^ 20) (hx : x.length < 2 ^ 63) : FC Try.prog 116 [(false, [ints x]), (false, [iL left])] [] [(false, [.f (iL (szL x.length left))])] := by
  have hw : IntKind.i64.wrap (left - ((x.map intE).length : Int)) = left - x.length := by rw [IntKind.wrap_i64]; simp; omega
  refine gcalls_of tbl_ok mixed Try.func116 rfl Try.ntmps116 (by kernel_rfl) (Nat.le_of_ble_eq_true rfl) rfl rfl trivial ?_
  conv => whnf
  rw [hw]
  refine ⟨fun h => ?_, fun h => ?_⟩
  · conv => whnf
    refine ⟨[], [], ?_⟩
    (repeat' first | exact trivial | exact rfl | exact tl_pv rfl rfl rfl (List.cons_ne_nil _ _) | exact tl_ints rfl rfl rfl (by simp) | exact tl_txts rfl rfl rfl (by simp) | exact tl_nds rfl rfl rfl (by simp) | ((conv => whnf); first | exact trivial | exact rfl | exact .inr rfl | exact .inl ⟨rfl, rfl⟩ | apply And.intro) | refine tl_int ?_ | refine tl_bool ?_ | refine tl_str ?_ | refine tl_row rfl ?_ | exact cl_ints _ | exact cl_txts _ | exact cl_nds _ | exact cl_mp _ | exact Nat.succ_pos _ | exact pl_ints _ | exact pl_txts _ | exact pl_nds _ | with_reducible refine tl_f ?_)
    unfold szL; rw [if_neg (by omega)]
  · conv => whnf
    refine ⟨[], [], ?_⟩
    (repeat' first | exact trivial | exact rfl | exact tl_pv rfl rfl rfl (List.cons_ne_nil _ _) | exact tl_ints rfl rfl rfl (by simp) | exact tl_txts rfl rfl rfl (by simp) | exact tl_nds rfl rfl rfl (by simp) | ((conv => whnf); first | exact trivial | exact rfl | exact .inr rfl | exact .inl ⟨rfl, rfl⟩ | apply And.intro) | refine tl_int ?_ | refine tl_bool ?_ | refine tl_str ?_ | refine tl_row rfl ?_ | exact cl_ints _ | exact cl_txts _ | exact cl_nds _ | exact cl_mp _ | exact Nat.succ_pos _ | exact pl_ints _ | exact pl_txts _ | exact pl_nds _ | with_reducible refine tl_f ?_)
    unfold szL; rw [if_pos (by omega)]
def szN (n : Nd) : Nat := n.text.size + n.kids.length
theorem szNode_ok (n : Nd) (left : Int) (h0 : 0 ≤ left ∧ left ≤ 2 ^ 20) (hs : n.text.size < 2 ^ 63) (hk : n.kids.length < 2 ^ 63) : FC Try.prog 81 [(true, ndL n), (false, [iL left])] [] [(false, [.f (iL (szL (szN n) left))])] := by
  have hw : IntKind.i64.wrap (left - (n.text.size : Int)) = left - n.text.size := by rw [IntKind.wrap_i64]; omega
  refine gcalls_of tbl_ok mixed Try.func81 rfl Try.ntmps81 (by kernel_rfl) (Nat.le_of_ble_eq_true rfl) rfl rfl trivial ?_
  conv => whnf
  rw [hw]
  refine ⟨fun h => ?_, fun h => ?_⟩
  · conv => whnf
    refine ⟨[], [], ?_⟩
    (repeat' first | exact trivial | exact rfl | exact tl_pv rfl rfl rfl (List.cons_ne_nil _ _) | exact tl_ints rfl rfl rfl (by simp) | exact tl_txts rfl rfl rfl (by simp) | exact tl_nds rfl rfl rfl (by simp) | ((conv => whnf); first | exact trivial | exact rfl | exact .inr rfl | exact .inl ⟨rfl, rfl⟩ | apply And.intro) | refine tl_int ?_ | refine tl_bool ?_ | refine tl_str ?_ | refine tl_row rfl ?_ | exact cl_ints _ | exact cl_txts _ | exact cl_nds _ | exact cl_mp _ | exact Nat.succ_pos _ | exact pl_ints _ | exact pl_txts _ | exact pl_nds _ | with_reducible refine tl_f ?_)
    unfold szL szN; rw [if_neg (by omega)]
  · conv => whnf
    have hc := szIntS_ok n.kids (left - n.text.size) (by omega) hk
    refine ⟨([], _), hc, ?_⟩
    conv => whnf
    refine ⟨fun h => ?_, fun h => ?_⟩
    · conv => whnf
      refine ⟨[], [], ?_⟩
      (repeat' first | exact trivial | exact rfl | exact tl_pv rfl rfl rfl (List.cons_ne_nil _ _) | exact tl_ints rfl rfl rfl (by simp) | exact tl_txts rfl rfl rfl (by simp) | exact tl_nds rfl rfl rfl (by simp) | ((conv => whnf); first | exact trivial | exact rfl | exact .inr rfl | exact .inl ⟨rfl, rfl⟩ | apply And.intro) | refine tl_int ?_ | refine tl_bool ?_ | refine tl_str ?_ | refine tl_row rfl ?_ | exact cl_ints _ | exact cl_txts _ | exact cl_nds _ | exact cl_mp _ | exact Nat.succ_pos _ | exact pl_ints _ | exact pl_txts _ | exact pl_nds _ | with_reducible refine tl_f ?_)
      unfold szL at h ⊢
      unfold szN
      split at h <;> omega
    · conv => whnf
      refine ⟨[], [], ?_⟩
      (repeat' first | exact trivial | exact rfl | exact tl_pv rfl rfl rfl (List.cons_ne_nil _ _) | exact tl_ints rfl rfl rfl (by simp) | exact tl_txts rfl rfl rfl (by simp) | exact tl_nds rfl rfl rfl (by simp) | ((conv => whnf); first | exact trivial | exact rfl | exact .inr rfl | exact .inl ⟨rfl, rfl⟩ | apply And.intro) | refine tl_int ?_ | refine tl_bool ?_ | refine tl_str ?_ | refine tl_row rfl ?_ | exact cl_ints _ | exact cl_txts _ | exact cl_nds _ | exact cl_mp _ | exact Nat.succ_pos _ | exact pl_ints _ | exact pl_txts _ | exact pl_nds _ | with_reducible refine tl_f ?_)
      unfold szL at h ⊢
      unfold szN
      split at h <;> omega
def szNs (l : List Nd) : Nat := (l.map szN).sum
theorem szNs_cons (n : Nd) (l : List Nd) : szNs (n :: l) = szN n + szNs l := by simp [szNs]
theorem szNodeS_ok (x : List Nd) (left : Int) (h0 : 0 ≤ left ∧ left ≤ 2 ^ 20) (hx : x.length < 2 ^ 63) (hs : ∀ n ∈ x, n.text.size < 2 ^ 63) (hk : ∀ n ∈ x, n.kids.length < 2 ^ 63) : FC Try.prog 44 [(false, [nds x]), (false, [iL left])] [] [(false, [.f (iL (szL (x.length + szNs x) left))])] := by
  have hw : IntKind.i64.wrap (left - ((x.map ndL).length : Int)) = left - x.length := by rw [IntKind.wrap_i64]; simp; omega
  refine gcalls_of tbl_ok mixed Try.func44 rfl Try.ntmps44 (by kernel_rfl) (Nat.le_of_ble_eq_true rfl) rfl rfl trivial ?_
  conv => whnf
  rw [hw]
  refine ⟨fun h => ?_, fun h => ?_⟩
  · conv => whnf
    refine ⟨[], [], ?_⟩
    (repeat' first | exact trivial | exact rfl | exact tl_pv rfl rfl rfl (List.cons_ne_nil _ _) | exact tl_ints rfl rfl rfl (by simp) | exact tl_txts rfl rfl rfl (by simp) | exact tl_nds rfl rfl rfl (by simp) | ((conv => whnf); first | exact trivial | exact rfl | exact .inr rfl | exact .inl ⟨rfl, rfl⟩ | apply And.intro) | refine tl_int ?_ | refine tl_bool ?_ | refine tl_str ?_ | refine tl_row rfl ?_ | exact cl_ints _ | exact cl_txts _ | exact cl_nds _ | exact cl_mp _ | exact Nat.succ_pos _ | exact pl_ints _ | exact pl_txts _ | exact pl_nds _ | with_reducible refine tl_f ?_)
    unfold szL; rw [if_neg (by omega)]
  · have h1 := h
    conv => whnf
    refine ⟨fun (m : Nat) (es : Es) (hs : Hs) => ∃ (i : Nat) (lf : Int), m + i = x.length ∧ 0 ≤ lf ∧ lf ≤ 2 ^ 20 ∧ szL (szNs (x.drop i)) lf = szL (x.length + szNs x) left ∧ es = [(5, .val false [.f (iL i)]), (1, .val false [.f (iL lf)]), (0, .val false [.f (nds x)])] ∧ hs = [],
      ⟨x.length, [], [], _, _, ⟨?_, ?_, ?_⟩, 0, left - x.length, rfl, by omega, by omega, ?_, rfl, rfl⟩, ?_⟩
    · rfl
    · (repeat' first | exact trivial | exact rfl | exact tl_pv rfl rfl rfl (List.cons_ne_nil _ _) | exact tl_ints rfl rfl rfl (by simp) | exact tl_txts rfl rfl rfl (by simp) | exact tl_nds rfl rfl rfl (by simp) | ((conv => whnf); first | exact trivial | exact rfl | exact .inr rfl | exact .inl ⟨rfl, rfl⟩ | apply And.intro) | refine tl_int ?_ | refine tl_bool ?_ | refine tl_str ?_ | refine tl_row rfl ?_ | exact cl_ints _ | exact cl_txts _ | exact cl_nds _ | exact cl_mp _ | exact Nat.succ_pos _ | exact pl_ints _ | exact pl_txts _ | exact pl_nds _ | with_reducible refine tl_f ?_)
    · (repeat' first | exact trivial | exact rfl | exact tl_pv rfl rfl rfl (List.cons_ne_nil _ _) | exact tl_ints rfl rfl rfl (by simp) | exact tl_txts rfl rfl rfl (by simp) | exact tl_nds rfl rfl rfl (by simp) | ((conv => whnf); first | exact trivial | exact rfl | exact .inr rfl | exact .inl ⟨rfl, rfl⟩ | apply And.intro) | refine tl_int ?_ | refine tl_bool ?_ | refine tl_str ?_ | refine tl_row rfl ?_ | exact cl_ints _ | exact cl_txts _ | exact cl_nds _ | exact cl_mp _ | exact Nat.succ_pos _ | exact pl_ints _ | exact pl_txts _ | exact pl_nds _ | with_reducible refine tl_f ?_)
    · rw [List.drop_zero]; unfold szL; split <;> split <;> omega
    rintro m es hs' ⟨i, lf, hm, hl0, hl1, hsz, rfl, rfl⟩
    conv => whnf
    refine ⟨fun h => ?_, fun h => ?_⟩
    · have hi : i < x.length := by simpa using h
      rw [List.drop_eq_getElem_cons hi, szNs_cons] at hsz
      have hc := szNode_ok x[i] lf ⟨hl0, hl1⟩ (hs _ (List.getElem_mem _)) (hk _ (List.getElem_mem _))
      conv => whnf
      refine ⟨(i, ndL x[i]), ⟨rfl, by simp [hi]⟩, ?_⟩
      conv => whnf
      refine ⟨([], _), hc, ?_⟩
      conv => whnf
      refine ⟨fun h => ?_, fun h => ?_⟩
      · conv => whnf
        refine ⟨[], [], ?_⟩
        (repeat' first | exact trivial | exact rfl | exact tl_pv rfl rfl rfl (List.cons_ne_nil _ _) | exact tl_ints rfl rfl rfl (by simp) | exact tl_txts rfl rfl rfl (by simp) | exact tl_nds rfl rfl rfl (by simp) | ((conv => whnf); first | exact trivial | exact rfl | exact .inr rfl | exact .inl ⟨rfl, rfl⟩ | apply And.intro) | refine tl_int ?_ | refine tl_bool ?_ | refine tl_str ?_ | refine tl_row rfl ?_ | exact cl_ints _ | exact cl_txts _ | exact cl_nds _ | exact cl_mp _ | exact Nat.succ_pos _ | exact pl_ints _ | exact pl_txts _ | exact pl_nds _ | with_reducible refine tl_f ?_)
        rw [← hsz]
        unfold szL at h ⊢
        split at h <;> omega
      · conv => whnf
        refine ⟨m - 1, [], [], [(5, .val false [.f (iL (i + 1 : Nat))]), (1, .val false [.f (iL (szL (szN x[i]) lf))]), (0, .val false [.f (nds x)])], [], by omega, ⟨?_, ?_, ?_⟩, i + 1, szL (szN x[i]) lf, by omega, by omega, ?_, ?_, rfl, rfl⟩
        · rfl
        · (repeat' first | exact trivial | exact rfl | exact tl_pv rfl rfl rfl (List.cons_ne_nil _ _) | exact tl_ints rfl rfl rfl (by simp) | exact tl_txts rfl rfl rfl (by simp) | exact tl_nds rfl rfl rfl (by simp) | ((conv => whnf); first | exact trivial | exact rfl | exact .inr rfl | exact .inl ⟨rfl, rfl⟩ | apply And.intro) | refine tl_int ?_ | refine tl_bool ?_ | refine tl_str ?_ | refine tl_row rfl ?_ | exact cl_ints _ | exact cl_txts _ | exact cl_nds _ | exact cl_mp _ | exact Nat.succ_pos _ | exact pl_ints _ | exact pl_txts _ | exact pl_nds _ | with_reducible refine tl_f ?_)
          exact wrap_suc (by have := Int.not_lt.1 h1; omega)
        · (repeat' first | exact trivial | exact rfl | exact tl_pv rfl rfl rfl (List.cons_ne_nil _ _) | exact tl_ints rfl rfl rfl (by simp) | exact tl_txts rfl rfl rfl (by simp) | exact tl_nds rfl rfl rfl (by simp) | ((conv => whnf); first | exact trivial | exact rfl | exact .inr rfl | exact .inl ⟨rfl, rfl⟩ | apply And.intro) | refine tl_int ?_ | refine tl_bool ?_ | refine tl_str ?_ | refine tl_row rfl ?_ | exact cl_ints _ | exact cl_txts _ | exact cl_nds _ | exact cl_mp _ | exact Nat.succ_pos _ | exact pl_ints _ | exact pl_txts _ | exact pl_nds _ | with_reducible refine tl_f ?_)
        · unfold szL; split <;> omega
        · rw [← hsz]
          unfold szL at h ⊢
          split at h <;> split <;> split <;> omega
    · have hi : x.length ≤ i := by simpa using h
      conv => whnf
      refine ⟨[], [], ?_⟩
      (repeat' first | exact trivial | exact rfl | exact tl_pv rfl rfl rfl (List.cons_ne_nil _ _) | exact tl_ints rfl rfl rfl (by simp) | exact tl_txts rfl rfl rfl (by simp) | exact tl_nds rfl rfl rfl (by simp) | ((conv => whnf); first | exact trivial | exact rfl | exact .inr rfl | exact .inl ⟨rfl, rfl⟩ | apply And.intro) | refine tl_int ?_ | refine tl_bool ?_ | refine tl_str ?_ | refine tl_row rfl ?_ | exact cl_ints _ | exact cl_txts _ | exact cl_nds _ | exact cl_mp _ | exact Nat.succ_pos _ | exact pl_ints _ | exact pl_txts _ | exact pl_nds _ | with_reducible refine tl_f ?_)
      rw [← hsz, List.drop_eq_nil_of_le hi]
      unfold szL szNs
      simp; omega
def szD (d : Dc) : Nat := d.nodes.length + szNs d.nodes
theorem szDoc_ok (d : Dc) (left : Int) (h0 : 0 ≤ left ∧ left ≤ 2 ^ 20) (hx : d.nodes.length < 2 ^ 63) (hs : ∀ n ∈ d.nodes, n.text.size < 2 ^ 63) (hk : ∀ n ∈ d.nodes, n.kids.length < 2 ^ 63) : FC Try.prog 18 [(true, dcL d), (false, [iL left])] [] [(false, [.f (iL (szL (szD d) left))])] := by
  refine gcalls_of tbl_ok mixed Try.func18 rfl Try.ntmps18 (by kernel_rfl) (Nat.le_of_ble_eq_true rfl) rfl rfl trivial ?_
  conv => whnf
  refine ⟨([], _), szNodeS_ok d.nodes left h0 hx hs hk, ?_⟩
  conv => whnf
  refine ⟨fun h => ?_, fun h => ?_⟩
  · conv => whnf
    refine ⟨[], [], ?_⟩
    (repeat' first | exact trivial | exact rfl | exact tl_pv rfl rfl rfl (List.cons_ne_nil _ _) | exact tl_ints rfl rfl rfl (by simp) | exact tl_txts rfl rfl rfl (by simp) | exact tl_nds rfl rfl rfl (by simp) | ((conv => whnf); first | exact trivial | exact rfl | exact .inr rfl | exact .inl ⟨rfl, rfl⟩ | apply And.intro) | refine tl_int ?_ | refine tl_bool ?_ | refine tl_str ?_ | refine tl_row rfl ?_ | exact cl_ints _ | exact cl_txts _ | exact cl_nds _ | exact cl_mp _ | exact Nat.succ_pos _ | exact pl_ints _ | exact pl_txts _ | exact pl_nds _ | with_reducible refine tl_f ?_)
    unfold szL at h ⊢
    unfold szD
    split at h <;> omega
  · conv => whnf
    refine ⟨[], [], ?_⟩
    (repeat' first | exact trivial | exact rfl | exact tl_pv rfl rfl rfl (List.cons_ne_nil _ _) | exact tl_ints rfl rfl rfl (by simp) | exact tl_txts rfl rfl rfl (by simp) | exact tl_nds rfl rfl rfl (by simp) | ((conv => whnf); first | exact trivial | exact rfl | exact .inr rfl | exact .inl ⟨rfl, rfl⟩ | apply And.intro) | refine tl_int ?_ | refine tl_bool ?_ | refine tl_str ?_ | refine tl_row rfl ?_ | exact cl_ints _ | exact cl_txts _ | exact cl_nds _ | exact cl_mp _ | exact Nat.succ_pos _ | exact pl_ints _ | exact pl_txts _ | exact pl_nds _ | with_reducible refine tl_f ?_)
end Go.Proofs.Ytfafehhallbjiaa.Ac
set_option linter.unusedVariables false
set_option linter.unusedSimpArgs false
set_option maxRecDepth 20000
set_option maxHeartbeats 2000000
namespace Go.Proofs.Ytfafehhallbjiaa.Ac
open Go.RowKit
theorem fill_set {α : Type} {f : α → List A} {z : List A} {x : List α} {i : Nat} (hi : i < x.length) : (((x.take i).map f) ++ List.replicate (x.length - i) z).set i (f x[i]) = (x.take (i + 1)).map f ++ List.replicate (x.length - (i + 1)) z := by
  have h1 : ((x.take i).map f).length = i := by simp; omega
  rw [List.set_append_right _ _ (by omega), h1, Nat.sub_self, show x.length - i = (x.length - (i + 1)) + 1 by omega, List.replicate_succ, List.set_cons_zero, List.take_succ_eq_append_getElem hi, List.map_append, List.append_assoc]
  rfl
theorem fill_get {α : Type} {f : α → List A} {z : List A} {x : List α} {i : Nat} (hi : i < x.length) : (((x.take i).map f) ++ List.replicate (x.length - i) z)[i]? = some z := by
  have h1 : ((x.take i).map f).length = i := by simp; omega
  rw [List.getElem?_append_right (by omega), h1, Nat.sub_self, show x.length - i = (x.length - (i + 1)) + 1 by omega, List.replicate_succ]
  rfl
theorem cl_rep {e : List A} (n : Nat) (h : clC e) : clR (List.replicate n e) := by
  induction n with
  | zero => trivial
  | succ n ih => exact ⟨h, ih⟩
theorem toIntS_ok (x : List Int) (hx : x.length < 2 ^ 28) : FC Try.prog 120 [(false, [ints x])] [(1000, some ⟨0, 1, x.map intW⟩)] [(false, [.row 1000 0 x.length])] := by
  refine gcalls_of tbl_ok mixed Try.func120 rfl Try.ntmps120 (by kernel_rfl) (Nat.le_of_ble_eq_true rfl) rfl rfl (⟨cl_ints _, trivial⟩) ?_
  conv => whnf
  refine ⟨(x.length, x.length), ⟨by simp, by simp, Nat.le_refl _, by dsimp only; omega⟩, ?_⟩
  conv => whnf
  refine ⟨fun (m : Nat) (es : Es) (hs : Hs) => ∃ i : Nat, m + i = x.length ∧ es = [(4, .val false [.f (iL i)]), (3, .val false [.row 3 0 x.length]), (0, .val false [.f (ints x)])] ∧ hs = [(3, some ⟨0, 1, (x.take i).map intW ++ List.replicate (x.length - i) (intW 0)⟩)],
    ⟨x.length, [], [(3, 128)], _, _, ⟨?_, ?_, ?_⟩, 0, rfl, rfl, rfl⟩, ?_⟩
  · rfl
  · (repeat' first | exact trivial | exact rfl | exact tl_pv rfl rfl rfl (List.cons_ne_nil _ _) | exact tl_ints rfl rfl rfl (by simp) | exact tl_txts rfl rfl rfl (by simp) | exact tl_nds rfl rfl rfl (by simp) | ((conv => whnf); first | exact trivial | exact rfl | exact .inr rfl | exact .inl ⟨rfl, rfl⟩ | apply And.intro) | refine tl_int ?_ | refine tl_bool ?_ | refine tl_str ?_ | refine tl_row rfl ?_ | exact cl_ints _ | exact cl_txts _ | exact cl_nds _ | exact cl_mp _ | exact Nat.succ_pos _ | exact pl_ints _ | exact pl_txts _ | exact pl_nds _ | with_reducible refine tl_f ?_)
  · (repeat' first | exact trivial | exact rfl | exact tl_pv rfl rfl rfl (List.cons_ne_nil _ _) | exact tl_ints rfl rfl rfl (by simp) | exact tl_txts rfl rfl rfl (by simp) | exact tl_nds rfl rfl rfl (by simp) | ((conv => whnf); first | exact trivial | exact rfl | exact .inr rfl | exact .inl ⟨rfl, rfl⟩ | apply And.intro) | refine tl_int ?_ | refine tl_bool ?_ | refine tl_str ?_ | refine tl_row rfl ?_ | exact cl_ints _ | exact cl_txts _ | exact cl_nds _ | exact cl_mp _ | exact Nat.succ_pos _ | exact pl_ints _ | exact pl_txts _ | exact pl_nds _ | with_reducible refine tl_f ?_)
    exact cl_app (cl_ints _) (cl_rep x.length ⟨trivial, trivial⟩)
  rintro m es hs ⟨i, hm, rfl, rfl⟩
  conv => whnf
  refine ⟨fun h => ?_, fun h => ?_⟩
  · have hi : i < x.length := by simpa using h
    conv => whnf
    refine ⟨(i, intE x[i]), ⟨rfl, by simp [hi]⟩, ?_⟩
    conv => whnf
    refine ⟨i, ⟨rfl, hi⟩, ?_⟩
    conv => whnf
    refine ⟨intW 0, fill_get hi, ?_⟩
    conv => whnf
    refine ⟨m - 1, [], [], [(4, .val false [.f (iL (i + 1 : Nat))]), (3, .val false [.row 3 0 x.length]), (0, .val false [.f (ints x)])], [(3, some ⟨0, 1, (x.take (i + 1)).map intW ++ List.replicate (x.length - (i + 1)) (intW 0)⟩)], by omega, ⟨?_, ?_, ?_⟩, i + 1, by omega, rfl, rfl⟩
    · rfl
    · (repeat' first | exact trivial | exact rfl | exact tl_pv rfl rfl rfl (List.cons_ne_nil _ _) | exact tl_ints rfl rfl rfl (by simp) | exact tl_txts rfl rfl rfl (by simp) | exact tl_nds rfl rfl rfl (by simp) | ((conv => whnf); first | exact trivial | exact rfl | exact .inr rfl | exact .inl ⟨rfl, rfl⟩ | apply And.intro) | refine tl_int ?_ | refine tl_bool ?_ | refine tl_str ?_ | refine tl_row rfl ?_ | exact cl_ints _ | exact cl_txts _ | exact cl_nds _ | exact cl_mp _ | exact Nat.succ_pos _ | exact pl_ints _ | exact pl_txts _ | exact pl_nds _ | with_reducible refine tl_f ?_)
      exact wrap_suc (by omega)
    · (repeat' first | exact trivial | exact rfl | exact tl_pv rfl rfl rfl (List.cons_ne_nil _ _) | exact tl_ints rfl rfl rfl (by simp) | exact tl_txts rfl rfl rfl (by simp) | exact tl_nds rfl rfl rfl (by simp) | ((conv => whnf); first | exact trivial | exact rfl | exact .inr rfl | exact .inl ⟨rfl, rfl⟩ | apply And.intro) | refine tl_int ?_ | refine tl_bool ?_ | refine tl_str ?_ | refine tl_row rfl ?_ | exact cl_ints _ | exact cl_txts _ | exact cl_nds _ | exact cl_mp _ | exact Nat.succ_pos _ | exact pl_ints _ | exact pl_txts _ | exact pl_nds _ | with_reducible refine tl_f ?_)
      · exact fill_set (f := intW) hi
      · exact cl_app (cl_ints _) (cl_rep _ ⟨trivial, trivial⟩)
  · have hi : x.length ≤ i := by simpa using h
    have e : (x.take i).map intW ++ List.replicate (x.length - i) (intW 0) = x.map intW := by rw [List.take_of_length_le hi, show x.length - i = 0 by omega]; simp
    rw [e]
    conv => whnf
    refine ⟨[], [(1000, 3)], ?_⟩
    (repeat' first | exact trivial | exact rfl | exact tl_pv rfl rfl rfl (List.cons_ne_nil _ _) | exact tl_ints rfl rfl rfl (by simp) | exact tl_txts rfl rfl rfl (by simp) | exact tl_nds rfl rfl rfl (by simp) | ((conv => whnf); first | exact trivial | exact rfl | exact .inr rfl | exact .inl ⟨rfl, rfl⟩ | apply And.intro) | refine tl_int ?_ | refine tl_bool ?_ | refine tl_str ?_ | refine tl_row rfl ?_ | exact cl_ints _ | exact cl_txts _ | exact cl_nds _ | exact cl_mp _ | exact Nat.succ_pos _ | exact pl_ints _ | exact pl_txts _ | exact pl_nds _ | with_reducible refine tl_f ?_)
theorem toNode_ok (n : Nd) (hk : n.kids.length < 2 ^ 28) : FC Try.prog 88 [(true, ndL n)] [(1000, some ⟨0, 1, n.kids.map intW⟩)] [(true, [.f (iL n.id), .f (iL n.kind), .f (iL n.attr), .f (sL n.text), .row 1000 0 n.kids.length])] := by
  refine gcalls_of tbl_ok mixed Try.func88 rfl Try.ntmps88 (by kernel_rfl) (Nat.le_of_ble_eq_true rfl) rfl rfl (⟨cl_ints _, trivial⟩) ?_
  conv => whnf
  refine ⟨(_, _), toIntS_ok n.kids hk, ?_⟩
  conv => whnf
  refine ⟨[], [(1000, 304)], ?_⟩
  (repeat' first | exact trivial | exact rfl | exact tl_pv rfl rfl rfl (List.cons_ne_nil _ _) | exact tl_ints rfl rfl rfl (by simp) | exact tl_txts rfl rfl rfl (by simp) | exact tl_nds rfl rfl rfl (by simp) | ((conv => whnf); first | exact trivial | exact rfl | exact .inr rfl | exact .inl ⟨rfl, rfl⟩ | apply And.intro) | refine tl_int ?_ | refine tl_bool ?_ | refine tl_str ?_ | refine tl_row rfl ?_ | exact cl_ints _ | exact cl_txts _ | exact cl_nds _ | exact cl_mp _ | exact Nat.succ_pos _ | exact pl_ints _ | exact pl_txts _ | exact pl_nds _ | with_reducible refine tl_f ?_)
@[reducible] def zNd : List A := [.f (iL 0), .f (iL 0), .f (iL 0), .f (sL ⟨#[]⟩), .nl]
theorem toNodeS_ok (x : List Nd) (hx : x.length < 2 ^ 28) (hk : ∀ n ∈ x, n.kids.length < 2 ^ 28) : FC Try.prog 47 [(false, [nds x])] [(1000, some ⟨0, 5, x.map ndW⟩)] [(false, [.row 1000 0 x.length])] := by
  refine gcalls_of tbl_ok mixed Try.func47 rfl Try.ntmps47 (by kernel_rfl) (Nat.le_of_ble_eq_true rfl) rfl rfl (⟨cl_nds _, trivial⟩) ?_
  conv => whnf
  refine ⟨(x.length, x.length), ⟨by simp, by simp, Nat.le_refl _, by dsimp only; omega⟩, ?_⟩
  conv => whnf
  refine ⟨fun (m : Nat) (es : Es) (hs : Hs) => ∃ i : Nat, m + i = x.length ∧ es = [(4, .val false [.f (iL i)]), (3, .val false [.row 3 0 x.length]), (0, .val false [.f (nds x)])] ∧ hs = [(3, some ⟨0, 5, (x.take i).map ndW ++ List.replicate (x.length - i) zNd⟩)],
    ⟨x.length, [], [(3, 128)], _, _, ⟨?_, ?_, ?_⟩, 0, rfl, rfl, rfl⟩, ?_⟩
  · rfl
  · (repeat' first | exact trivial | exact rfl | exact tl_pv rfl rfl rfl (List.cons_ne_nil _ _) | exact tl_ints rfl rfl rfl (by simp) | exact tl_txts rfl rfl rfl (by simp) | exact tl_nds rfl rfl rfl (by simp) | ((conv => whnf); first | exact trivial | exact rfl | exact .inr rfl | exact .inl ⟨rfl, rfl⟩ | apply And.intro) | refine tl_int ?_ | refine tl_bool ?_ | refine tl_str ?_ | refine tl_row rfl ?_ | exact cl_ints _ | exact cl_txts _ | exact cl_nds _ | exact cl_mp _ | exact Nat.succ_pos _ | exact pl_ints _ | exact pl_txts _ | exact pl_nds _ | with_reducible refine tl_f ?_)
  · (repeat' first | exact trivial | exact rfl | exact tl_pv rfl rfl rfl (List.cons_ne_nil _ _) | exact tl_ints rfl rfl rfl (by simp) | exact tl_txts rfl rfl rfl (by simp) | exact tl_nds rfl rfl rfl (by simp) | ((conv => whnf); first | exact trivial | exact rfl | exact .inr rfl | exact .inl ⟨rfl, rfl⟩ | apply And.intro) | refine tl_int ?_ | refine tl_bool ?_ | refine tl_str ?_ | refine tl_row rfl ?_ | exact cl_ints _ | exact cl_txts _ | exact cl_nds _ | exact cl_mp _ | exact Nat.succ_pos _ | exact pl_ints _ | exact pl_txts _ | exact pl_nds _ | with_reducible refine tl_f ?_)
    exact cl_app (cl_nds _) (cl_rep x.length ⟨trivial, trivial, trivial, trivial, trivial, trivial⟩)
  rintro m es hs ⟨i, hm, rfl, rfl⟩
  conv => whnf
  refine ⟨fun h => ?_, fun h => ?_⟩
  · have hi : i < x.length := by simpa using h
    conv => whnf
    refine ⟨(i, ndL x[i]), ⟨rfl, by simp [hi]⟩, ?_⟩
    conv => whnf
    refine ⟨(_, _), toNode_ok x[i] (hk _ (List.getElem_mem _)), ?_⟩
    conv => whnf
    refine ⟨i, ⟨rfl, hi⟩, ?_⟩
    conv => whnf
    refine ⟨zNd, fill_get hi, ?_⟩
    conv => whnf
    refine ⟨m - 1, [(336, 3, i, 4)], [], [(4, .val false [.f (iL (i + 1 : Nat))]), (3, .val false [.row 3 0 x.length]), (0, .val false [.f (nds x)])], [(3, some ⟨0, 5, (x.take (i + 1)).map ndW ++ List.replicate (x.length - (i + 1)) zNd⟩)], by omega, ?_, i + 1, by omega, rfl, rfl⟩
    conv => whnf
    refine ⟨_, List.getElem?_set_self (by simp; omega), ?_⟩
    conv => whnf
    refine ⟨x[i].kids.map intW, by rw [List.take_of_length_le (by simp)], ?_⟩
    conv => whnf
    refine ⟨?_, ?_, ?_⟩
    · rfl
    · (repeat' first | exact trivial | exact rfl | exact tl_pv rfl rfl rfl (List.cons_ne_nil _ _) | exact tl_ints rfl rfl rfl (by simp) | exact tl_txts rfl rfl rfl (by simp) | exact tl_nds rfl rfl rfl (by simp) | ((conv => whnf); first | exact trivial | exact rfl | exact .inr rfl | exact .inl ⟨rfl, rfl⟩ | apply And.intro) | refine tl_int ?_ | refine tl_bool ?_ | refine tl_str ?_ | refine tl_row rfl ?_ | exact cl_ints _ | exact cl_txts _ | exact cl_nds _ | exact cl_mp _ | exact Nat.succ_pos _ | exact pl_ints _ | exact pl_txts _ | exact pl_nds _ | with_reducible refine tl_f ?_)
      exact wrap_suc (by omega)
    · (repeat' first | exact trivial | exact rfl | exact tl_pv rfl rfl rfl (List.cons_ne_nil _ _) | exact tl_ints rfl rfl rfl (by simp) | exact tl_txts rfl rfl rfl (by simp) | exact tl_nds rfl rfl rfl (by simp) | ((conv => whnf); first | exact trivial | exact rfl | exact .inr rfl | exact .inl ⟨rfl, rfl⟩ | apply And.intro) | refine tl_int ?_ | refine tl_bool ?_ | refine tl_str ?_ | refine tl_row rfl ?_ | exact cl_ints _ | exact cl_txts _ | exact cl_nds _ | exact cl_mp _ | exact Nat.succ_pos _ | exact pl_ints _ | exact pl_txts _ | exact pl_nds _ | with_reducible refine tl_f ?_)
      · rw [List.set_set]
        exact fill_set (f := ndW) hi
      · exact cl_app (cl_nds _) (cl_rep _ ⟨trivial, trivial, trivial, trivial, trivial, trivial⟩)
  · have hi : x.length ≤ i := by simpa using h
    have e : (x.take i).map ndW ++ List.replicate (x.length - i) zNd = x.map ndW := by rw [List.take_of_length_le hi, show x.length - i = 0 by omega]; simp
    rw [e]
    conv => whnf
    refine ⟨[], [(1000, 3)], ?_⟩
    (repeat' first | exact trivial | exact rfl | exact tl_pv rfl rfl rfl (List.cons_ne_nil _ _) | exact tl_ints rfl rfl rfl (by simp) | exact tl_txts rfl rfl rfl (by simp) | exact tl_nds rfl rfl rfl (by simp) | ((conv => whnf); first | exact trivial | exact rfl | exact .inr rfl | exact .inl ⟨rfl, rfl⟩ | apply And.intro) | refine tl_int ?_ | refine tl_bool ?_ | refine tl_str ?_ | refine tl_row rfl ?_ | exact cl_ints _ | exact cl_txts _ | exact cl_nds _ | exact cl_mp _ | exact Nat.succ_pos _ | exact pl_ints _ | exact pl_txts _ | exact pl_nds _ | with_reducible refine tl_f ?_)
theorem toDoc_ok (d : Dc) (hx : d.nodes.length < 2 ^ 28) (hk : ∀ n ∈ d.nodes, n.kids.length < 2 ^ 28) : FC Try.prog 20 [(true, dcL d)] [(1000, some ⟨0, 5, d.nodes.map ndW⟩)] [(true, [.f (iL d.root), .f (iL d.next), .row 1000 0 d.nodes.length])] := by
  refine gcalls_of tbl_ok mixed Try.func20 rfl Try.ntmps20 (by kernel_rfl) (Nat.le_of_ble_eq_true rfl) rfl rfl (⟨cl_nds _, trivial⟩) ?_
  conv => whnf
  refine ⟨(_, _), toNodeS_ok d.nodes hx hk, ?_⟩
  conv => whnf
  refine ⟨[], [(1000, 208)], ?_⟩
  (repeat' first | exact trivial | exact rfl | exact tl_pv rfl rfl rfl (List.cons_ne_nil _ _) | exact tl_ints rfl rfl rfl (by simp) | exact tl_txts rfl rfl rfl (by simp) | exact tl_nds rfl rfl rfl (by simp) | ((conv => whnf); first | exact trivial | exact rfl | exact .inr rfl | exact .inl ⟨rfl, rfl⟩ | apply And.intro) | refine tl_int ?_ | refine tl_bool ?_ | refine tl_str ?_ | refine tl_row rfl ?_ | exact cl_ints _ | exact cl_txts _ | exact cl_nds _ | exact cl_mp _ | exact Nat.succ_pos _ | exact pl_ints _ | exact pl_txts _ | exact pl_nds _ | with_reducible refine tl_f ?_)
end Go.Proofs.Ytfafehhallbjiaa.Ac
set_option linter.unusedVariables false
set_option linter.unusedSimpArgs false
namespace Go.Proofs.Ytfafehhallbjiaa.Ac
open Go.RowKit
inductive Fr where
  | sq (y : Code)
  | bl (id : Nat)
  | lp (n : Nat) (I : Nat → Es → Hs → Prop)
inductive St : Type 1 where
  | cd (c : Code)
  | ex (e : Exit)
  | os (sq : Bool) (a : Array Oper) (l : List Oper) (acc : List Eff)
  | op (sq : Bool) (a : Array Oper) (l : List Oper) (acc : List Eff) (d : Option Tmp) (o : Out) (rs : List Nat)
section
variable (P : Program) (tb : Tab) (N : Nat) (fp : List Nat) (Q : Post)
def stp (ih : St → List Fr → Es → Hs → Prop) (st : St) (F : List Fr) (es : Es) (hs : Hs) : Prop := match st with
  | .cd c => match c with
    | .skip => ih (.ex .normal) F es hs
    | .region _ ops draw => match draw with
      | false => ih (.os true ops ops.toList []) F es hs
      | true => okB (Region.before ops) 0 ops.toList = true ∧ ih (.os false ops ops.toList []) F es hs
    | .seq x y => ih (.cd x) (.sq y :: F) es hs
    | .cond c x y => match evT (get es) c with
      | .val false [.f (.v (.bool true))] => ih (.cd x) F es hs
      | .val false [.f (.v (.bool false))] => ih (.cd y) F es hs
      | _ => False
    | .block id x => ih (.cd x) (.bl id :: F) es hs
    | .loop x => ∃ (I : Nat → Es → Hs → Prop), (∃ n gl r es' hs', Tell fp gl r es' hs' es hs ∧ I n es' hs') ∧ ∀ n es hs, I n es hs → ih (.cd x) (.lp n I :: F) es hs
    | .exit id => ih (.ex (.exit id)) F es hs
    | .ret => ih (.ex .ret) F es hs
    | _ => False
  | .ex e => match F with
    | [] => Q e es hs
    | .sq y :: F => match e with
      | .normal => ih (.cd y) F es hs
      | e => ih (.ex e) F es hs
    | .bl id :: F => match e with
      | .exit i => cond (Nat.beq i id) (ih (.ex .normal) F es hs) (ih (.ex (.exit i)) F es hs)
      | e => ih (.ex e) F es hs
    | .lp n I :: F => match e with
      | .normal => ∃ m gl r es' hs', m < n ∧ Tell fp gl r es' hs' es hs ∧ I m es' hs'
      | e => ih (.ex e) F es hs
  | .os sq a l acc => match l with
    | [] => match sq with
      | true => ih (.ex .normal) F es hs
      | false => pairsOK a (Region.before a) (nums 0 acc.reverse) = true ∧ ih (.ex .normal) F es hs
    | o :: l => cond (operOK' N o) (match gate a o (get es) with
      | some true => ih (.op sq a l acc o.dst (actO P tb o.op (o.dst.getD 0) (evT (get es))) []) F es hs
      | some false => ih (.op sq a l acc o.dst (.ok (.tu []) []) []) F es hs
      | none => False) False
  | .op sq a l acc d o rs => match o with
    | .no => False
    | .ok v u => match d, u with
      | some d, [] => ih (.os sq a l (⟨v, rs, []⟩ :: acc)) F ((d, v) :: es) hs
      | some d, x :: u => ih (.os sq a l (⟨v, rs, x :: u⟩ :: acc)) F ((d, v) :: es) (x :: u ++ hs)
      | none, u => ih (.os sq a l (⟨v, rs, u⟩ :: acc)) F es (u ++ hs)
    | .rd n f => ih (.op sq a l acc d (f (get hs n)) (n :: rs)) F es hs
    | .spl c x y => (c → ih (.op sq a l acc d x rs) F es hs) ∧ (¬ c → ih (.op sq a l acc d y rs) F es hs)
    | .con c x => c ∧ ih (.op sq a l acc d x rs) F es hs
    | .ex p f => ∃ x, p x ∧ ih (.op sq a l acc d (f x) rs) F es hs
    | .all p f => match sq with
      | true => ∀ x, p x → ih (.op sq a l acc d (f x) rs) F es hs
      | false => False
noncomputable def run (fuel : Nat) : St → List Fr → Es → Hs → Prop := Nat.rec (motive := fun _ => St → List Fr → Es → Hs → Prop) (fun _ _ _ _ => False) (fun _ ih => stp P tb N fp Q ih) fuel
noncomputable def den : List Fr → Post
  | [] => Q
  | .sq y :: F => fun e es hs => match e with
    | .normal => awp P tb N fp y (den F) es hs
    | e => den F e es hs
  | .bl id :: F => fun e es hs => match e with
    | .exit i => cond (Nat.beq i id) (den F .normal es hs) (den F (.exit i) es hs)
    | e => den F e es hs
  | .lp n I :: F => fun e es hs => match e with
    | .normal => ∃ m gl r es' hs', m < n ∧ Tell fp gl r es' hs' es hs ∧ I m es' hs'
    | e => den F e es hs
noncomputable def endK (sq : Bool) (a : Array Oper) (F : List Fr) : Es → Hs → List Eff → Prop := fun es hs acc => match sq with
  | true => den P tb N fp Q F .normal es hs
  | false => pairsOK a (Region.before a) (nums 0 acc.reverse) = true ∧ den P tb N fp Q F .normal es hs
noncomputable def opK (sq : Bool) (a : Array Oper) (l : List Oper) (acc : List Eff) (d : Option Tmp) (F : List Fr) (es : Es) (hs : Hs) : Eff → Prop := fun ε => match ε with
  | ⟨v, rd, u⟩ => match d, u with
    | some d, [] => regK P tb N a sq l ((d, v) :: es) hs (⟨v, rd, []⟩ :: acc) (endK P tb N fp Q sq a F)
    | some d, x :: u => regK P tb N a sq l ((d, v) :: es) (x :: u ++ hs) (⟨v, rd, x :: u⟩ :: acc) (endK P tb N fp Q sq a F)
    | none, u => regK P tb N a sq l es (u ++ hs) (⟨v, rd, u⟩ :: acc) (endK P tb N fp Q sq a F)
def stOK (F : List Fr) (es : Es) (hs : Hs) : St → Prop
  | .cd c => awp P tb N fp c (den P tb N fp Q F) es hs
  | .ex e => den P tb N fp Q F e es hs
  | .os sq a l acc => regK P tb N a sq l es hs acc (endK P tb N fp Q sq a F)
  | .op sq a l acc d o rs => o.K sq (get hs) rs (opK P tb N fp Q sq a l acc d F es hs)
end
section
variable {P : Program} {tb : Tab} {N : Nat} {fp : List Nat} {Q : Post}
theorem run_awp : ∀ (fuel : Nat) (st : St) (F : List Fr) (es : Es) (hs : Hs), run P tb N fp Q fuel st F es hs → stOK P tb N fp Q F es hs st
  | 0, _, _, _, _, h => h.elim
  | n + 1, .cd c, F, es, hs, h => by
    cases c with
    | skip => exact run_awp n (.ex .normal) F es hs h
    | region id ops draw =>
      cases draw with
      | false => exact run_awp n (.os true ops ops.toList []) F es hs h
      | true => exact ⟨h.1, run_awp n (.os false ops ops.toList []) F es hs h.2⟩
    | seq x y => exact run_awp n (.cd x) (.sq y :: F) es hs h
    | cond c x y =>
      change (match evT (get es) c with
        | .val false [.f (.v (.bool true))] => run P tb N fp Q n (.cd x) F es hs
        | .val false [.f (.v (.bool false))] => run P tb N fp Q n (.cd y) F es hs
        | _ => False) at h
      show (match evT (get es) c with
        | .val false [.f (.v (.bool true))] => awp P tb N fp x (den P tb N fp Q F) es hs
        | .val false [.f (.v (.bool false))] => awp P tb N fp y (den P tb N fp Q F) es hs
        | _ => False)
      split at h
      · exact run_awp n (.cd x) F es hs h
      · exact run_awp n (.cd y) F es hs h
      · exact h.elim
    | block id x => exact run_awp n (.cd x) (.bl id :: F) es hs h
    | loop x =>
      obtain ⟨I, h1, h2⟩ := h
      exact ⟨I, h1, fun m es hs hI => run_awp n (.cd x) (.lp m I :: F) es hs (h2 m es hs hI)⟩
    | exit id => exact run_awp n (.ex (.exit id)) F es hs h
    | ret => exact run_awp n (.ex .ret) F es hs h
    | _ => exact h.elim
  | n + 1, .ex e, F, es, hs, h => by
    cases F with
    | nil => exact h
    | cons f F =>
      cases f with
      | sq y => cases e with
        | normal => exact run_awp n (.cd y) F es hs h
        | _ => exact run_awp n (.ex _) F es hs h
      | bl id => cases e with
        | exit i =>
          change cond (Nat.beq i id) (run P tb N fp Q n (.ex .normal) F es hs) (run P tb N fp Q n (.ex (.exit i)) F es hs) at h
          show cond (Nat.beq i id) (den P tb N fp Q F .normal es hs) (den P tb N fp Q F (.exit i) es hs)
          cases hb : Nat.beq i id <;> rw [hb] at h
          · exact run_awp n (.ex (.exit i)) F es hs h
          · exact run_awp n (.ex .normal) F es hs h
        | _ => exact run_awp n (.ex _) F es hs h
      | lp m I => cases e with
        | normal => exact h
        | _ => exact run_awp n (.ex _) F es hs h
  | n + 1, .os sq a l acc, F, es, hs, h => by
    cases l with
    | nil => cases sq with
      | true => exact run_awp n (.ex .normal) F es hs h
      | false => exact ⟨h.1, run_awp n (.ex .normal) F es hs h.2⟩
    | cons o l =>
      obtain ⟨h0, h⟩ := cond_elim' h
      show cond (operOK' N o) (match gate a o (get es) with
        | some true => (actO P tb o.op (o.dst.getD 0) (evT (get es))).K sq (get hs) [] (opK P tb N fp Q sq a l acc o.dst F es hs)
        | some false => opK P tb N fp Q sq a l acc o.dst F es hs ⟨.tu [], [], []⟩
        | none => False) False
      rw [h0]
      show (match gate a o (get es) with
        | some true => (actO P tb o.op (o.dst.getD 0) (evT (get es))).K sq (get hs) [] (opK P tb N fp Q sq a l acc o.dst F es hs)
        | some false => opK P tb N fp Q sq a l acc o.dst F es hs ⟨.tu [], [], []⟩
        | none => False)
      split at h
      · rename_i hg; exact run_awp n (.op sq a l acc o.dst _ []) F es hs h
      · rename_i hg; exact run_awp n (.op sq a l acc o.dst (.ok (.tu []) []) []) F es hs h
      · exact h.elim
  | n + 1, .op sq a l acc d o rs, F, es, hs, h => by
    cases o with
    | no => exact h.elim
    | ok v u =>
      cases d with
      | none => exact run_awp n (.os sq a l _) F es _ h
      | some d => cases u with
        | nil => exact run_awp n (.os sq a l _) F _ hs h
        | cons x u => exact run_awp n (.os sq a l _) F _ _ h
    | rd m f => exact run_awp n (.op sq a l acc d (f (get hs m)) (m :: rs)) F es hs h
    | spl c x y => exact ⟨fun hc => run_awp n (.op sq a l acc d x rs) F es hs (h.1 hc), fun hc => run_awp n (.op sq a l acc d y rs) F es hs (h.2 hc)⟩
    | con c x => exact ⟨h.1, run_awp n (.op sq a l acc d x rs) F es hs h.2⟩
    | ex p f =>
      obtain ⟨x, hx, h⟩ := h
      exact ⟨x, hx, run_awp n (.op sq a l acc d (f x) rs) F es hs h⟩
    | all p f => cases sq with
      | true => exact fun x hx => run_awp n (.op true a l acc d (f x) rs) F es hs (h x hx)
      | false => exact h.elim
theorem gcalls_run (hT : TabOK P tb) (hm : P.follows .mixedOrders = true) {f : FuncId} {fn : Func} {c : Code} {H0 H1 : Hs} {args res : List (Bool × List A)} (hf : P.funcs[f]? = some fn) (hb : fn.body = some c) (hN : fn.ntmps = N) (hname : (fn.name == "runtime.NumGoroutine") = false)
    (hlen : args.length ≤ N) {vs : List ResultVar} (hres : fn.results.toList = vs) (hB : (inP H1 res && H1.all (fun x => inO H1 x.2) && H0.all (fun x => hasN H1 x.1)) = true) (hcl : clHs H1)
    (h : run P tb N (H0.map (·.1)) (finK tb (H0.map (·.1)) vs H1 res) 1000000 (.cd c) [] (entry 0 args) H0) : GCalls P f H0 args H1 res :=
  gcalls_of hT hm hf hb hN hname hlen hres hB hcl (run_awp _ _ _ _ _ h)
end
end Go.Proofs.Ytfafehhallbjiaa.Ac
set_option linter.unusedVariables false
set_option linter.unusedSimpArgs false
set_option maxRecDepth 20000
set_option maxHeartbeats 2000000
namespace Go.Proofs.Ytfafehhallbjiaa.Ac
open Go.RowKit
def mkI (k : Int) (n : Nat) : List Int := (List.range n).map fun j => k + (j : Nat)
theorem mkI_len (k : Int) (n : Nat) : (mkI k n).length = n := by simp [mkI]
theorem set_take {α β : Type} {f : α → β} {a b : List α} {i : Nat} (hi : i < b.length) (hab : a.length = b.length) : (((a.take i) ++ b.drop i).map f).set i (f a[i]) = ((a.take (i + 1)) ++ b.drop (i + 1)).map f := by
  have h1 : (a.take i).length = i := by simp; omega
  rw [← List.map_set, List.set_append_right _ _ (by omega), h1, Nat.sub_self, List.drop_eq_getElem_cons hi, List.set_cons_zero, List.take_succ_eq_append_getElem (by omega), List.append_assoc]
  rfl
theorem get_take {α β : Type} {f : α → β} {a b : List α} {i : Nat} (hi : i < b.length) (hab : a.length = b.length) : (((a.take i) ++ b.drop i).map f)[i]? = some (f b[i]) := by
  have h1 : (a.take i).length = i := by simp; omega
  rw [List.getElem?_map, List.getElem?_append_right (by omega), h1, Nat.sub_self, List.drop_eq_getElem_cons hi]; rfl
theorem mkI_get {k : Int} {n i : Nat} (h : i < n) : (mkI k n)[i]'(by rw [mkI_len]; exact h) = k + i := by simp [mkI]
theorem set_take' {α β : Type} {f : α → β} {a b : List α} {i : Nat} {y : β} (hi : i < b.length) (hab : a.length = b.length) (hy : y = f a[i]) : (((a.take i) ++ b.drop i).map f).set i y = ((a.take (i + 1)) ++ b.drop (i + 1)).map f := hy ▸ set_take hi hab
theorem take_end {α : Type} {a b : List α} {i : Nat} (hi : i = b.length) (hab : a.length = b.length) : a.take i ++ b.drop i = a := by
  rw [List.take_of_length_le (by omega), List.drop_eq_nil_of_le (by omega), List.append_nil]
theorem markIntS_ok (x : List Int) (k : Int) (hk : 0 ≤ k ∧ k + x.length < 2 ^ 62) : GCalls Try.prog 23 [(1, some ⟨0, 1, x.map intW⟩)] [(false, [.row 1 0 x.length]), (false, [.f (iL k)])] [(1, some ⟨0, 1, (mkI k x.length).map intW⟩)] [(false, [.f (iL (k + x.length))])] := by
  have hl := mkI_len k x.length
  refine gcalls_run tbl_ok mixed Try.func23 rfl Try.ntmps23 (by kernel_rfl) (Nat.le_of_ble_eq_true rfl) rfl rfl (⟨cl_ints _, trivial⟩) ?_; (conv => whnf)
  (refine ⟨fun (m : Nat) (es : Es) (hs : Hs) => ∃ (i : Nat), (m + i = x.length) ∧ es = [(5, .val false [.f (iL i)]), (0, .val false [.row 1 0 x.length]), (1, .val false [.f (iL (k + i))])] ∧ hs = [(1, some ⟨0, 1, ((mkI k x.length).take i ++ x.drop i).map intW⟩)], ⟨x.length, [], [], _, _, ⟨rfl, ?_, ?_⟩, 0, ?_, rfl, rfl⟩, ?_⟩; rotate_left 3; rintro m es hs ⟨i, hA0, rfl, rfl⟩; (conv => whnf))
  (refine ⟨fun h => ?_, fun h => ?_⟩ <;> (conv => whnf))
  have hi : i < x.length := by simpa using h
  (refine ⟨i, ⟨rfl, hi⟩, ?_⟩; (conv => whnf))
  (refine ⟨intW x[i], get_take hi hl, ?_⟩; (conv => whnf))
  (refine ⟨m - 1, [], [], [(5, .val false [.f (iL (i + 1))]), (0, .val false [.row 1 0 x.length]), (1, .val false [.f (iL (k + (i + 1)))])], [(1, some ⟨0, 1, ((mkI k x.length).take (i + 1) ++ x.drop (i + 1)).map intW⟩)], by omega, ⟨rfl, ?_, ?_⟩, (i + 1), ?_, rfl, rfl⟩; rotate_left 3)
  have hi : i = x.length := by have := Int.not_lt.1 h; omega
  subst hi
  (refine ⟨[], [], ?_⟩; rotate_left)
  all_goals (try (repeat' first | exact trivial | exact rfl | exact tl_pv rfl rfl rfl (List.cons_ne_nil _ _) | exact tl_ints rfl rfl rfl (by simp) | exact tl_txts rfl rfl rfl (by simp) | exact tl_nds rfl rfl rfl (by simp) | ((conv => whnf); first | exact trivial | exact rfl | exact .inr rfl | exact .inl ⟨rfl, rfl⟩ | apply And.intro) | refine tl_int ?_ | refine tl_bool ?_ | refine tl_str ?_ | refine tl_row rfl ?_ | exact cl_ints _ | exact cl_txts _ | exact cl_nds _ | exact cl_mp _ | exact Nat.succ_pos _ | exact pl_ints _ | exact pl_txts _ | exact pl_nds _ | with_reducible refine tl_f ?_)); all_goals (try first | rfl | omega | (rw [IntKind.wrap_i64]; omega) | (simp; done) | (simp; omega))
  · dsimp only
    exact set_take' hi hl (by rw [mkI_get hi])
  · dsimp only
    rw [take_end rfl hl]
def mtF : Nat → Nat → ByteArray → ByteArray
  | 0, _, out => out
  | f + 1, k, out => if k = 0 then out else mtF f (k / 10) (⟨#[UInt8.ofNat (48 + k % 10)]⟩ ++ out)
def mT (k : Int) : ByteArray := if k ≤ 0 then ⟨#[109, 48]⟩ else ⟨#[109]⟩ ++ mtF 20 k.toNat ⟨#[]⟩
theorem mx {n : Nat} (h : n < 2 ^ 62) : n ≤ maxLen := by unfold maxLen; omega
theorem dig1 (q : Nat) (out : ByteArray) : (⟨#[UInt8.ofNat (48 + q % 10)]⟩ : ByteArray).size + out.size = 1 + out.size := rfl
theorem digE (q : Nat) : (([[A.f (.v (.int .u8 (IntKind.u8.wrap (IntKind.i64.wrap (48 + (q : Int).tmod 10)))))]] : List (List A)).take 1).drop 0 = (⟨#[UInt8.ofNat (48 + q % 10)]⟩ : ByteArray).data.toList.map byteL := by
  have h1 : IntKind.i64.wrap (48 + (q : Int).tmod 10) = 48 + ((q % 10 : Nat) : Int) := by
    rw [Int.tmod_eq_emod_of_nonneg (by omega), IntKind.wrap_i64]; omega
  have h2 : IntKind.u8.wrap (48 + ((q % 10 : Nat) : Int)) = ((UInt8.ofNat (48 + q % 10)).toNat : Int) := by
    have : (UInt8.ofNat (48 + q % 10)).toNat = 48 + q % 10 := by simp; omega
    rw [this, IntKind.wrap_u8]; omega
  rw [h1, h2]; rfl
theorem markText_ok (k : Int) (hk : k < 2 ^ 62) : FC Try.prog 69 [(false, [iL k])] [] [(false, [.f (sL (mT k))])] := by
  refine gcalls_run tbl_ok mixed Try.func69 rfl Try.ntmps69 (by kernel_rfl) (Nat.le_of_ble_eq_true rfl) rfl rfl trivial ?_; (conv => whnf)
  (refine ⟨fun h => ?_, fun h => ?_⟩ <;> (conv => whnf))
  (refine ⟨[], [], ?_⟩; rotate_left)
  (refine ⟨fun (m : Nat) (es : Es) (hs : Hs) => ∃ (f : Nat) (q : Nat) (out : ByteArray), (f ≤ 19 ∧ m = f) ∧ (q < 10 ^ f ∧ q < 2 ^ 62) ∧ (mtF (f + 1) q out = mtF 20 k.toNat ⟨#[]⟩) ∧ (out.size + f ≤ 19) ∧ es = [(0, .val false [.f (iL q)]), (3, .val false [.f (sL out)])] ∧ hs = [], ⟨19, [], [], _, _, ⟨rfl, ?_, ?_⟩, 19, k.toNat, (⟨#[]⟩), ?_, ?_, ?_, ?_, rfl, rfl⟩, ?_⟩; rotate_left 6; rintro m es hs ⟨f, q, out, hB0, hB1, hB2, hB3, rfl, rfl⟩; (conv => whnf))
  (refine ⟨fun h => ?_, fun h => ?_⟩ <;> (conv => whnf))
  have hq : 0 < q := by omega
  have hf : 0 < f := by
    rcases Nat.eq_zero_or_pos f with rfl | hf
    · simp at hB1; omega
    · exact hf
  have hp : 10 ^ f = 10 * 10 ^ (f - 1) := by rw [← Nat.pow_succ', show (f - 1).succ = f by omega]
  (refine ⟨by decide, ?_⟩; (conv => whnf))
  (refine ⟨⟨#[UInt8.ofNat (48 + q % 10)]⟩, digE q, ?_⟩; (conv => whnf))
  (refine ⟨by rw [dig1]; exact mx (by omega), ?_⟩; (conv => whnf))
  (refine ⟨by decide, ?_⟩; (conv => whnf))
  (refine ⟨m - 1, [], [], [(0, .val false [.f (iL (q / 10))]), (3, .val false [.f (sL (⟨#[UInt8.ofNat (48 + q % 10)]⟩ ++ out))])], [], by omega, ⟨rfl, ?_, ?_⟩, (f - 1), (q / 10), (⟨#[UInt8.ofNat (48 + q % 10)]⟩ ++ out), ?_, ?_, ?_, ?_, rfl, rfl⟩; rotate_left 6)
  (refine ⟨by exact mx (by show 1 + out.size < 2 ^ 62; omega), ?_⟩; (conv => whnf))
  (refine ⟨[], [], ?_⟩; rotate_left)
  all_goals (try (repeat' first | exact trivial | exact rfl | exact tl_pv rfl rfl rfl (List.cons_ne_nil _ _) | exact tl_ints rfl rfl rfl (by simp) | exact tl_txts rfl rfl rfl (by simp) | exact tl_nds rfl rfl rfl (by simp) | ((conv => whnf); first | exact trivial | exact rfl | exact .inr rfl | exact .inl ⟨rfl, rfl⟩ | apply And.intro) | refine tl_int ?_ | refine tl_bool ?_ | refine tl_str ?_ | refine tl_row rfl ?_ | exact cl_ints _ | exact cl_txts _ | exact cl_nds _ | exact cl_mp _ | exact Nat.succ_pos _ | exact pl_ints _ | exact pl_txts _ | exact pl_nds _ | with_reducible refine tl_f ?_)); all_goals (try first | rfl | omega | (rw [IntKind.wrap_i64]; omega) | (simp; done) | (simp; omega))
  · unfold mT; rw [if_pos h]
  · exact Nat.le_refl _
  · have : (q : Int).tdiv 10 = ((q / 10 : Nat) : Int) := by rw [Int.tdiv_eq_ediv_of_nonneg (by omega)]; rfl
    rw [this, wrap_nat (by omega)]; rfl
  · rw [← hB2, Nat.sub_add_cancel hf]
    conv => rhs; unfold mtF
    rw [if_neg (by omega)]
  · rw [ByteArray.size_append]
    show 1 + out.size + (f - 1) ≤ 19
    omega
  · have hq : q = 0 := by omega
    subst hq
    have e0 : mtF (f + 1) 0 out = out := by unfold mtF; rw [if_pos rfl]
    rw [e0] at hB2
    unfold mT
    rw [if_neg (by assumption), ← hB2]
def mkN (k : Int) (n : Nd) : Nd := ⟨k, k + 1, k + 2, mT (k + 3), mkI (k + 4) n.kids.length⟩
def mkNs : Int → List Nd → List Nd
  | _, [] => []
  | k, n :: l => mkN k n :: mkNs (k + 4 + n.kids.length) l
def mkZ (l : List Nd) : Nat := (l.map fun n => 4 + n.kids.length).sum
theorem mkNs_len : ∀ (k : Int) (l : List Nd), (mkNs k l).length = l.length
  | _, [] => rfl
  | k, n :: l => congrArg (· + 1) (mkNs_len _ l)
theorem mkZ_cons (n : Nd) (l : List Nd) : mkZ (n :: l) = 4 + n.kids.length + mkZ l := by simp [mkZ]
theorem mkZ_take {l : List Nd} {i : Nat} (hi : i < l.length) : mkZ (l.take (i + 1)) = mkZ (l.take i) + (4 + l[i].kids.length) := by
  unfold mkZ
  rw [List.take_succ_eq_append_getElem hi, List.map_append, List.sum_append]; simp
theorem mkZ_le (l : List Nd) (i : Nat) : mkZ (l.take i) ≤ mkZ l := by
  conv => rhs; rw [← List.take_append_drop i l]
  unfold mkZ
  rw [List.map_append, List.sum_append]; omega
theorem mkZ_ge : ∀ l : List Nd, l.length ≤ mkZ l
  | [] => Nat.le_refl _
  | n :: l => by have := mkZ_ge l; rw [mkZ_cons, List.length_cons]; omega
theorem mkNs_get : ∀ (k : Int) (l : List Nd) (i : Nat) (hi : i < l.length), (mkNs k l)[i]'(by rw [mkNs_len]; exact hi) = mkN (k + mkZ (l.take i)) l[i]
  | k, [], _, hi => by simp at hi
  | k, n :: l, 0, _ => by simp [mkNs, mkZ]
  | k, n :: l, i + 1, hi => by
    have := mkNs_get (k + 4 + n.kids.length) l i (by simpa using hi)
    simp only [mkNs, List.getElem_cons_succ, this, List.take_succ_cons, mkZ_cons]
    congr 1
    omega
theorem markNodeS_ok (x : List Nd) (k : Int) (hk : 0 ≤ k ∧ k + mkZ x < 2 ^ 62) : GCalls Try.prog 38 [(1, some ⟨0, 5, x.map ndW⟩)] [(false, [.row 1 0 x.length]), (false, [.f (iL k)])] [(1, some ⟨0, 5, (mkNs k x).map ndW⟩)] [(false, [.f (iL (k + mkZ x))])] := by
  have hl := mkNs_len k x
  have hzl := mkZ_ge x
  refine gcalls_run tbl_ok mixed Try.func38 rfl Try.ntmps38 (by kernel_rfl) (Nat.le_of_ble_eq_true rfl) rfl rfl (⟨cl_nds _, trivial⟩) ?_; (conv => whnf)
  (refine ⟨fun (m : Nat) (es : Es) (hs : Hs) => ∃ (i : Nat) (K : Int), (m + i = x.length) ∧ (K = k + mkZ (x.take i)) ∧ es = [(5, .val false [.f (iL i)]), (0, .val false [.row 1 0 x.length]), (1, .val false [.f (iL K)])] ∧ hs = [(1, some ⟨0, 5, ((mkNs k x).take i ++ x.drop i).map ndW⟩)], ⟨x.length, [], [], _, _, ⟨rfl, ?_, ?_⟩, 0, k, ?_, ?_, rfl, rfl⟩, ?_⟩; rotate_left 4; rintro m es hs ⟨i, K, hC0, hC1, rfl, rfl⟩; (conv => whnf))
  (refine ⟨fun h => ?_, fun h => ?_⟩ <;> (conv => whnf))
  have hi : i < x.length := by simpa using h
  have hz := mkZ_take hi
  have hz2 := mkZ_le x (i + 1)
  have hK : 0 ≤ K ∧ K + 4 + x[i].kids.length < 2 ^ 62 := by omega
  have w1 : IntKind.i64.wrap (K + 1) = K + 1 := wrap_id (by omega)
  have w2 : IntKind.i64.wrap (K + 1 + 1) = K + 2 := by rw [wrap_id (by omega)]; omega
  have w3 : IntKind.i64.wrap (K + 2 + 1) = K + 3 := by rw [wrap_id (by omega)]; omega
  have w4 : IntKind.i64.wrap (K + 3 + 1) = K + 4 := by rw [wrap_id (by omega)]; omega
  have mt := markText_ok (K + 3) (by omega)
  have mi := markIntS_ok x[i].kids (K + 4) (by omega)
  (refine ⟨i, ⟨rfl, hi⟩, ?_⟩; (conv => whnf))
  (refine ⟨ndW x[i], get_take hi hl, ?_⟩; (conv => whnf))
  rw [w1]
  (refine ⟨i, ⟨rfl, hi⟩, ?_⟩; (conv => whnf))
  (refine ⟨_, List.getElem?_set_self (by simp; omega), ?_⟩; (conv => whnf))
  rw [w2]
  (refine ⟨i, ⟨rfl, hi⟩, ?_⟩; (conv => whnf))
  (refine ⟨_, List.getElem?_set_self (by simp; omega), ?_⟩; (conv => whnf))
  rw [w3]
  (refine ⟨([], _), mt, ?_⟩; (conv => whnf))
  (refine ⟨i, ⟨rfl, hi⟩, ?_⟩; (conv => whnf))
  (refine ⟨_, List.getElem?_set_self (by simp; omega), ?_⟩; (conv => whnf))
  rw [w4]
  (refine ⟨i, ⟨rfl, hi⟩, ?_⟩; (conv => whnf))
  (refine ⟨_, List.getElem?_set_self (by simp; omega), ?_⟩; (conv => whnf))
  (refine ⟨⟨false, [(1, 736)], _, _, _, _⟩, mi, ?_⟩; (conv => whnf); refine ⟨⟨?_, ?_, ?_⟩, ?_⟩; rotate_left 3; (conv => whnf))
  (refine ⟨m - 1, [(736, 1, i, 4)], [], [(5, .val false [.f (iL (i + 1))]), (0, .val false [.row 1 0 x.length]), (1, .val false [.f (iL (K + 4 + x[i].kids.length))])], [(1, some ⟨0, 5, ((mkNs k x).take (i + 1) ++ x.drop (i + 1)).map ndW⟩)], by omega, ?_, (i + 1), (K + 4 + x[i].kids.length), ?_, ?_, rfl, rfl⟩; (conv => whnf))
  (refine ⟨_, List.getElem?_set_self (by simp; omega), ?_⟩; (conv => whnf))
  (refine ⟨(mkI (K + 4) x[i].kids.length).map intW, by rw [List.take_of_length_le (by simp [mkI_len])], ?_⟩; (conv => whnf))
  (refine ⟨rfl, ?_, ?_⟩; rotate_left 4)
  have hi : i = x.length := by have := Int.not_lt.1 h; omega
  subst hi
  rw [List.take_length] at hC1
  (refine ⟨[], [], ?_⟩; rotate_left)
  all_goals (try (repeat' first | exact trivial | exact rfl | exact tl_pv rfl rfl rfl (List.cons_ne_nil _ _) | exact tl_ints rfl rfl rfl (by simp) | exact tl_txts rfl rfl rfl (by simp) | exact tl_nds rfl rfl rfl (by simp) | ((conv => whnf); first | exact trivial | exact rfl | exact .inr rfl | exact .inl ⟨rfl, rfl⟩ | apply And.intro) | refine tl_int ?_ | refine tl_bool ?_ | refine tl_str ?_ | refine tl_row rfl ?_ | exact cl_ints _ | exact cl_txts _ | exact cl_nds _ | exact cl_mp _ | exact Nat.succ_pos _ | exact pl_ints _ | exact pl_txts _ | exact pl_nds _ | with_reducible refine tl_f ?_)); all_goals (try first | rfl | omega | (rw [IntKind.wrap_i64]; omega) | (simp; done) | (simp; omega))
  · simp [mkZ]
  · dsimp only
    simp only [List.set_set]
    refine set_take' hi hl ?_
    have e := mkNs_get k x i hi
    rw [← hC1] at e
    rw [e]; rfl
  · dsimp only
    rw [take_end rfl hl]
theorem markDoc_ok (d : Dc) (k : Int) (hk : 0 ≤ k ∧ k + mkZ d.nodes < 2 ^ 62) : GCalls Try.prog 11 [(1, some ⟨0, 5, d.nodes.map ndW⟩)] [(true, [.f (iL d.root), .f (iL d.next), .row 1 0 d.nodes.length]), (false, [.f (iL k)])] [(1, some ⟨0, 5, (mkNs k d.nodes).map ndW⟩)] [(false, [.f (iL (k + mkZ d.nodes))])] := by
  have mi := markNodeS_ok d.nodes k hk
  refine gcalls_run tbl_ok mixed Try.func11 rfl Try.ntmps11 (by kernel_rfl) (Nat.le_of_ble_eq_true rfl) rfl rfl (⟨cl_nds _, trivial⟩) ?_; (conv => whnf)
  (refine ⟨⟨false, [(1, 1)], _, _, _, _⟩, mi, ?_⟩; (conv => whnf); refine ⟨⟨?_, ?_, ?_⟩, ?_⟩; rotate_left 3; (conv => whnf))
  (refine ⟨[], [], ?_⟩; rotate_left)
  all_goals (try (repeat' first | exact trivial | exact rfl | exact tl_pv rfl rfl rfl (List.cons_ne_nil _ _) | exact tl_ints rfl rfl rfl (by simp) | exact tl_txts rfl rfl rfl (by simp) | exact tl_nds rfl rfl rfl (by simp) | ((conv => whnf); first | exact trivial | exact rfl | exact .inr rfl | exact .inl ⟨rfl, rfl⟩ | apply And.intro) | refine tl_int ?_ | refine tl_bool ?_ | refine tl_str ?_ | refine tl_row rfl ?_ | exact cl_ints _ | exact cl_txts _ | exact cl_nds _ | exact cl_mp _ | exact Nat.succ_pos _ | exact pl_ints _ | exact pl_txts _ | exact pl_nds _ | with_reducible refine tl_f ?_)); all_goals (try first | rfl | omega | (rw [IntKind.wrap_i64]; omega) | (simp; done) | (simp; omega))
theorem heldIntS_ok (k : Int) (n : Nat) (hk : 0 ≤ k ∧ k + n < 2 ^ 62) : FC Try.prog 24 [(false, [ints (mkI k n)]), (false, [iL k])] [] [(false, [.f (iL (k + n))])] := by
  have hl := mkI_len k n
  refine gcalls_run tbl_ok mixed Try.func24 rfl Try.ntmps24 (by kernel_rfl) (Nat.le_of_ble_eq_true rfl) rfl rfl trivial ?_; (conv => whnf)
  (refine ⟨fun (m : Nat) (es : Es) (hs : Hs) => ∃ (i : Nat), (m + i = n) ∧ es = [(5, .val false [.f (iL i)]), (0, .val false [.f (ints (mkI k n))]), (1, .val false [.f (iL (k + i))])] ∧ hs = [], ⟨n, [], [], _, _, ⟨rfl, ?_, ?_⟩, 0, ?_, rfl, rfl⟩, ?_⟩; rotate_left 3; rintro m es hs ⟨i, hD0, rfl, rfl⟩; (conv => whnf))
  (refine ⟨fun h => ?_, fun h => ?_⟩ <;> (conv => whnf))
  have hi : i < n := by rw [List.length_map, hl] at h; omega
  have he := mkI_get (k := k) hi
  have hi' : i < (mkI k n).length := by omega
  (refine ⟨(i, intE (k + i)), ⟨rfl, by rw [List.getElem?_map, List.getElem?_eq_getElem hi', he]; rfl⟩, ?_⟩; (conv => whnf))
  (refine ⟨fun h => absurd rfl h, fun h => ?_⟩; (conv => whnf))
  (refine ⟨m - 1, [], [], [(5, .val false [.f (iL (i + 1))]), (0, .val false [.f (ints (mkI k n))]), (1, .val false [.f (iL (k + (i + 1)))])], [], by omega, ⟨rfl, ?_, ?_⟩, (i + 1), ?_, rfl, rfl⟩; rotate_left 3)
  have hi : i = n := by rw [List.length_map, hl] at h; omega
  subst hi
  (refine ⟨[], [], ?_⟩; rotate_left)
  all_goals (try (repeat' first | exact trivial | exact rfl | exact tl_pv rfl rfl rfl (List.cons_ne_nil _ _) | exact tl_ints rfl rfl rfl (by simp) | exact tl_txts rfl rfl rfl (by simp) | exact tl_nds rfl rfl rfl (by simp) | ((conv => whnf); first | exact trivial | exact rfl | exact .inr rfl | exact .inl ⟨rfl, rfl⟩ | apply And.intro) | refine tl_int ?_ | refine tl_bool ?_ | refine tl_str ?_ | refine tl_row rfl ?_ | exact cl_ints _ | exact cl_txts _ | exact cl_nds _ | exact cl_mp _ | exact Nat.succ_pos _ | exact pl_ints _ | exact pl_txts _ | exact pl_nds _ | with_reducible refine tl_f ?_)); all_goals (try first | rfl | omega | (rw [IntKind.wrap_i64]; omega) | (simp; done) | (simp; omega))
end Go.Proofs.Ytfafehhallbjiaa.Ac
set_option linter.unusedVariables false
set_option linter.unusedSimpArgs false
namespace Go.Proofs.Ytfafehhallbjiaa.Ac
open Go.RowKit
def bsAt (c : Nat → Bool) (i j : Nat) : Nat := if h : i < j then (if c ((i + j) / 2) then bsAt c ((i + j) / 2 + 1) j else bsAt c i ((i + j) / 2)) else i
  termination_by j - i
  decreasing_by all_goals omega
theorem bsAt_yes {c : Nat → Bool} {i j : Nat} (h : i < j) (hc : c ((i + j) / 2) = true) : bsAt c ((i + j) / 2 + 1) j = bsAt c i j := by
  conv => rhs; rw [bsAt]
  rw [dif_pos h, if_pos hc]
theorem bsAt_no {c : Nat → Bool} {i j : Nat} (h : i < j) (hc : c ((i + j) / 2) = false) : bsAt c i ((i + j) / 2) = bsAt c i j := by
  conv => rhs; rw [bsAt]
  rw [dif_pos h, if_neg (by simp [hc])]
theorem bsAt_end {c : Nat → Bool} (i : Nat) : bsAt c i i = i := by rw [bsAt, dif_neg (Nat.lt_irrefl _)]
def idD (l : List Nd) (id : Int) (i : Nat) : Int := IntKind.i64.wrap ((l[i]?.getD ⟨0, 0, 0, .empty, []⟩).id - id)
def bsIx (l : List Nd) (id : Int) : Nat := bsAt (fun i => decide (idD l id i < 0)) 0 l.length
theorem find1_ok (n : Nd) (id : Int) : FC Try.prog 122 [(true, ndL n), (false, [iL id])] [] [(false, [.f (iL (IntKind.i64.wrap (n.id - id)))])] := by
  refine gcalls_of tbl_ok mixed Try.func122 rfl Try.ntmps122 (by kernel_rfl) (Nat.le_of_ble_eq_true rfl) rfl rfl trivial ?_
  conv => whnf
  refine ⟨[], [], ?_⟩
  (repeat' first | exact trivial | exact rfl | exact tl_pv rfl rfl rfl (List.cons_ne_nil _ _) | exact tl_ints rfl rfl rfl (by simp) | exact tl_txts rfl rfl rfl (by simp) | exact tl_nds rfl rfl rfl (by simp) | ((conv => whnf); first | exact trivial | exact rfl | exact .inr rfl | exact .inl ⟨rfl, rfl⟩ | apply And.intro) | refine tl_int ?_ | refine tl_bool ?_ | refine tl_str ?_ | refine tl_row rfl ?_ | exact cl_ints _ | exact cl_txts _ | exact cl_nds _ | exact cl_mp _ | exact Nat.succ_pos _ | exact pl_ints _ | exact pl_txts _ | exact pl_nds _ | with_reducible refine tl_f ?_)
theorem half {i j n : Nat} (hi : i ≤ n) (hj : j ≤ n) (hn : n < 2 ^ 62) : IntKind.i64.wrap ((IntKind.u64.wrap (IntKind.i64.wrap ((i : Int) + j))).fdiv (2 ^ min (Int.toNat 1) IntKind.u64.bits)) = (((i + j) / 2 : Nat) : Int) := by
  have h1 : IntKind.i64.wrap ((i : Int) + j) = ((i + j : Nat) : Int) := by rw [IntKind.wrap_i64]; omega
  have h2 : IntKind.u64.wrap ((i + j : Nat) : Int) = ((i + j : Nat) : Int) := by simp [IntKind.wrap, IntKind.bits, IntKind.signed]; omega
  have h3 : (2 : Int) ^ min (Int.toNat 1) IntKind.u64.bits = 2 := rfl
  rw [h1, h2, h3, Int.fdiv_eq_ediv_of_nonneg _ (by omega), IntKind.wrap_i64]
  omega
theorem bsearch_ok (l : List Nd) (id : Int) (hlen : l.length < 2 ^ 62) : FC Try.prog 121 [(false, [nds l]), (false, [iL id]), (false, [.cl 122 []])] []
    [(false, [.f (iL (bsIx l id))]), (false, [.f (bL (decide (bsIx l id < l.length ∧ idD l id (bsIx l id) = 0)))])] := by
  refine gcalls_of tbl_ok mixed Try.func121 rfl Try.ntmps121 (by kernel_rfl) (Nat.le_of_ble_eq_true rfl) rfl rfl trivial ?_
  conv => whnf
  refine ⟨fun (n : Nat) (es : Es) (hs : Hs) => ∃ i j : Nat, n = j - i ∧ i ≤ j ∧ j ≤ l.length ∧ bsAt (fun i => decide (idD l id i < 0)) i j = bsIx l id ∧ es = [(10, .val false [.f (iL j)]), (9, .val false [.f (iL i)]), (8, .val false [.f (iL l.length)]), (2, .val false [.f (.cl 122 [])]), (1, .val false [.f (iL id)]), (0, .val false [.f (nds l)])] ∧ hs = [],
    ⟨l.length, [], [], _, _, ⟨?_, ?_, ?_⟩, 0, l.length, rfl, Nat.zero_le _, Nat.le_refl _, rfl, rfl, rfl⟩, ?_⟩
  · rfl
  · (repeat' first | exact trivial | exact rfl | exact tl_pv rfl rfl rfl (List.cons_ne_nil _ _) | exact tl_ints rfl rfl rfl (by simp) | exact tl_txts rfl rfl rfl (by simp) | exact tl_nds rfl rfl rfl (by simp) | ((conv => whnf); first | exact trivial | exact rfl | exact .inr rfl | exact .inl ⟨rfl, rfl⟩ | apply And.intro) | refine tl_int ?_ | refine tl_bool ?_ | refine tl_str ?_ | refine tl_row rfl ?_ | exact cl_ints _ | exact cl_txts _ | exact cl_nds _ | exact cl_mp _ | exact Nat.succ_pos _ | exact pl_ints _ | exact pl_txts _ | exact pl_nds _ | with_reducible refine tl_f ?_)
    all_goals simp
  · (repeat' first | exact trivial | exact rfl | exact tl_pv rfl rfl rfl (List.cons_ne_nil _ _) | exact tl_ints rfl rfl rfl (by simp) | exact tl_txts rfl rfl rfl (by simp) | exact tl_nds rfl rfl rfl (by simp) | ((conv => whnf); first | exact trivial | exact rfl | exact .inr rfl | exact .inl ⟨rfl, rfl⟩ | apply And.intro) | refine tl_int ?_ | refine tl_bool ?_ | refine tl_str ?_ | refine tl_row rfl ?_ | exact cl_ints _ | exact cl_txts _ | exact cl_nds _ | exact cl_mp _ | exact Nat.succ_pos _ | exact pl_ints _ | exact pl_txts _ | exact pl_nds _ | with_reducible refine tl_f ?_)
  rintro n es hs ⟨i, j, rfl, hij, hj, hb, rfl, rfl⟩
  conv => whnf
  refine ⟨fun h => ?_, fun h => ?_⟩
  · have h' : i < j := by omega
    have hm : (i + j) / 2 < l.length := by omega
    have hh := half (n := l.length) (by omega : i ≤ l.length) hj hlen
    conv => whnf
    refine ⟨by decide, ?_⟩
    conv => whnf
    refine ⟨((i + j) / 2, ndL l[(i + j) / 2]), ⟨hh, by simp [hm]⟩, ?_⟩
    conv => whnf
    refine ⟨([], [(false, [.f (iL (idD l id ((i + j) / 2)))])]), ?_, ?_⟩
    · rw [show idD l id ((i + j) / 2) = IntKind.i64.wrap (l[(i + j) / 2].id - id) by simp [idD, hm]]
      exact find1_ok l[(i + j) / 2] id
    conv => whnf
    refine ⟨fun h => ?_, fun h => ?_⟩
    · conv => whnf
      refine ⟨j - ((i + j) / 2 + 1), [], [], [(10, .val false [.f (iL j)]), (9, .val false [.f (iL ((i + j) / 2 + 1 : Nat))]), (8, .val false [.f (iL l.length)]), (2, .val false [.f (.cl 122 [])]), (1, .val false [.f (iL id)]), (0, .val false [.f (nds l)])], [], by omega, ⟨?_, ?_, ?_⟩, (i + j) / 2 + 1, j, rfl, by omega, hj, ?_, rfl, rfl⟩
      · rfl
      · (repeat' first | exact trivial | exact rfl | exact tl_pv rfl rfl rfl (List.cons_ne_nil _ _) | exact tl_ints rfl rfl rfl (by simp) | exact tl_txts rfl rfl rfl (by simp) | exact tl_nds rfl rfl rfl (by simp) | ((conv => whnf); first | exact trivial | exact rfl | exact .inr rfl | exact .inl ⟨rfl, rfl⟩ | apply And.intro) | refine tl_int ?_ | refine tl_bool ?_ | refine tl_str ?_ | refine tl_row rfl ?_ | exact cl_ints _ | exact cl_txts _ | exact cl_nds _ | exact cl_mp _ | exact Nat.succ_pos _ | exact pl_ints _ | exact pl_txts _ | exact pl_nds _ | with_reducible refine tl_f ?_)
        rw [hh]; exact wrap_suc (by omega)
      · (repeat' first | exact trivial | exact rfl | exact tl_pv rfl rfl rfl (List.cons_ne_nil _ _) | exact tl_ints rfl rfl rfl (by simp) | exact tl_txts rfl rfl rfl (by simp) | exact tl_nds rfl rfl rfl (by simp) | ((conv => whnf); first | exact trivial | exact rfl | exact .inr rfl | exact .inl ⟨rfl, rfl⟩ | apply And.intro) | refine tl_int ?_ | refine tl_bool ?_ | refine tl_str ?_ | refine tl_row rfl ?_ | exact cl_ints _ | exact cl_txts _ | exact cl_nds _ | exact cl_mp _ | exact Nat.succ_pos _ | exact pl_ints _ | exact pl_txts _ | exact pl_nds _ | with_reducible refine tl_f ?_)
      · exact (bsAt_yes h' (by simpa using h)).trans hb
    · conv => whnf
      refine ⟨(i + j) / 2 - i, [], [], [(10, .val false [.f (iL ((i + j) / 2 : Nat))]), (9, .val false [.f (iL i)]), (8, .val false [.f (iL l.length)]), (2, .val false [.f (.cl 122 [])]), (1, .val false [.f (iL id)]), (0, .val false [.f (nds l)])], [], by omega, ⟨?_, ?_, ?_⟩, i, (i + j) / 2, rfl, by omega, by omega, ?_, rfl, rfl⟩
      · rfl
      · (repeat' first | exact trivial | exact rfl | exact tl_pv rfl rfl rfl (List.cons_ne_nil _ _) | exact tl_ints rfl rfl rfl (by simp) | exact tl_txts rfl rfl rfl (by simp) | exact tl_nds rfl rfl rfl (by simp) | ((conv => whnf); first | exact trivial | exact rfl | exact .inr rfl | exact .inl ⟨rfl, rfl⟩ | apply And.intro) | refine tl_int ?_ | refine tl_bool ?_ | refine tl_str ?_ | refine tl_row rfl ?_ | exact cl_ints _ | exact cl_txts _ | exact cl_nds _ | exact cl_mp _ | exact Nat.succ_pos _ | exact pl_ints _ | exact pl_txts _ | exact pl_nds _ | with_reducible refine tl_f ?_)
        exact hh
      · (repeat' first | exact trivial | exact rfl | exact tl_pv rfl rfl rfl (List.cons_ne_nil _ _) | exact tl_ints rfl rfl rfl (by simp) | exact tl_txts rfl rfl rfl (by simp) | exact tl_nds rfl rfl rfl (by simp) | ((conv => whnf); first | exact trivial | exact rfl | exact .inr rfl | exact .inl ⟨rfl, rfl⟩ | apply And.intro) | refine tl_int ?_ | refine tl_bool ?_ | refine tl_str ?_ | refine tl_row rfl ?_ | exact cl_ints _ | exact cl_txts _ | exact cl_nds _ | exact cl_mp _ | exact Nat.succ_pos _ | exact pl_ints _ | exact pl_txts _ | exact pl_nds _ | with_reducible refine tl_f ?_)
      · exact (bsAt_no h' (by simpa using h)).trans hb
  · have h' : i = j := by omega
    subst h'
    have hx : i = bsIx l id := by rw [← hb, bsAt_end]
    conv => whnf
    refine ⟨fun h => ?_, fun h => ?_⟩
    · have hm : i < l.length := by omega
      conv => whnf
      refine ⟨(i, ndL l[i]), ⟨rfl, by simp [hm]⟩, ?_⟩
      conv => whnf
      refine ⟨([], [(false, [.f (iL (idD l id i))])]), ?_, ?_⟩
      · rw [show idD l id i = IntKind.i64.wrap (l[i].id - id) by simp [idD, hm]]
        exact find1_ok l[i] id
      conv => whnf
      refine ⟨fun h => ?_, fun h => ?_⟩
      · conv => whnf
        refine ⟨[], [], ?_⟩
        (repeat' first | exact trivial | exact rfl | exact tl_pv rfl rfl rfl (List.cons_ne_nil _ _) | exact tl_ints rfl rfl rfl (by simp) | exact tl_txts rfl rfl rfl (by simp) | exact tl_nds rfl rfl rfl (by simp) | ((conv => whnf); first | exact trivial | exact rfl | exact .inr rfl | exact .inl ⟨rfl, rfl⟩ | apply And.intro) | refine tl_int ?_ | refine tl_bool ?_ | refine tl_str ?_ | refine tl_row rfl ?_ | exact cl_ints _ | exact cl_txts _ | exact cl_nds _ | exact cl_mp _ | exact Nat.succ_pos _ | exact pl_ints _ | exact pl_txts _ | exact pl_nds _ | with_reducible refine tl_f ?_)
        · rw [hx]
        · exact b_true ⟨hx ▸ hm, hx ▸ h⟩
      · conv => whnf
        refine ⟨[], [], ?_⟩
        (repeat' first | exact trivial | exact rfl | exact tl_pv rfl rfl rfl (List.cons_ne_nil _ _) | exact tl_ints rfl rfl rfl (by simp) | exact tl_txts rfl rfl rfl (by simp) | exact tl_nds rfl rfl rfl (by simp) | ((conv => whnf); first | exact trivial | exact rfl | exact .inr rfl | exact .inl ⟨rfl, rfl⟩ | apply And.intro) | refine tl_int ?_ | refine tl_bool ?_ | refine tl_str ?_ | refine tl_row rfl ?_ | exact cl_ints _ | exact cl_txts _ | exact cl_nds _ | exact cl_mp _ | exact Nat.succ_pos _ | exact pl_ints _ | exact pl_txts _ | exact pl_nds _ | with_reducible refine tl_f ?_)
        · rw [hx]
        · exact b_false fun e => h (hx.symm ▸ e.2)
    · conv => whnf
      refine ⟨[], [], ?_⟩
      (repeat' first | exact trivial | exact rfl | exact tl_pv rfl rfl rfl (List.cons_ne_nil _ _) | exact tl_ints rfl rfl rfl (by simp) | exact tl_txts rfl rfl rfl (by simp) | exact tl_nds rfl rfl rfl (by simp) | ((conv => whnf); first | exact trivial | exact rfl | exact .inr rfl | exact .inl ⟨rfl, rfl⟩ | apply And.intro) | refine tl_int ?_ | refine tl_bool ?_ | refine tl_str ?_ | refine tl_row rfl ?_ | exact cl_ints _ | exact cl_txts _ | exact cl_nds _ | exact cl_mp _ | exact Nat.succ_pos _ | exact pl_ints _ | exact pl_txts _ | exact pl_nds _ | with_reducible refine tl_f ?_)
      · rw [hx]
      · exact b_false fun e => h (by rw [hx]; exact_mod_cast e.1)
end Go.Proofs.Ytfafehhallbjiaa.Ac
set_option linter.unusedVariables false
set_option linter.unusedSimpArgs false
set_option maxRecDepth 20000
namespace Go.Proofs.Ytfafehhallbjiaa.Ac
open Go.RowKit
def Rise (l : List Nd) : Prop := (∀ n ∈ l, 1 ≤ n.id ∧ n.id < 1000000) ∧ l.Pairwise (fun a b => a.id < b.id)
def ndAt (l : List Nd) (id : Int) : Option Nd := l.find? (fun n => n.id == id)
def findL (l : List Nd) (id : Int) : L := match ndAt l id with
  | some n => .pv (ndL n)
  | none => .v (.pointer none)
theorem Rise.lt {l : List Nd} (h : Rise l) {i j : Nat} (hij : i < j) (hj : j < l.length) : l[i].id < l[j].id := List.pairwise_iff_getElem.1 h.2 i j (by omega) hj hij
theorem Rise.at {l : List Nd} (h : Rise l) {i : Nat} (hi : i < l.length) : ndAt l l[i].id = some l[i] := by
  unfold ndAt
  rw [List.find?_eq_some_iff_getElem]
  refine ⟨by simp, i, hi, rfl, fun j hj => ?_⟩
  have := h.lt hj hi
  simp; omega
theorem idD_zero {l : List Nd} (h : Rise l) {id : Int} (h64 : I64 id) {i : Nat} (hi : i < l.length) : idD l id i = 0 ↔ l[i].id = id := by
  have := h.1 l[i] (List.getElem_mem _)
  obtain ⟨h1, h2⟩ := h64
  simp only [idD, List.getElem?_eq_getElem hi, Option.getD_some, IntKind.wrap_i64]
  omega
theorem bsAt_mono {c : Nat → Bool} {k : Nat} : ∀ (n i j : Nat), n = j - i → i ≤ k → k ≤ j → (∀ m, i ≤ m → m < j → (c m = true ↔ m < k)) → bsAt c i j = k
  | n, i, j, hn, hik, hkj, hc => by
    by_cases h : i < j
    · by_cases hm : (i + j) / 2 < k
      · rw [← bsAt_yes h ((hc _ (by omega) (by omega)).2 hm)]
        exact bsAt_mono (j - ((i + j) / 2 + 1)) _ _ rfl (by omega) hkj fun m h1 h2 => hc m (by omega) h2
      · have : c ((i + j) / 2) = false := by
          cases hb : c ((i + j) / 2) with
          | false => rfl
          | true => exact absurd ((hc _ (by omega) (by omega)).1 hb) hm
        rw [← bsAt_no h this]
        exact bsAt_mono ((i + j) / 2 - i) _ _ rfl hik (by omega) fun m h1 h2 => hc m h1 (by omega)
    · have : i = j := by omega
      subst this
      rw [bsAt_end]; omega
  termination_by n => n
theorem bsIx_at {l : List Nd} (h : Rise l) {i : Nat} (hi : i < l.length) : bsIx l l[i].id = i := by
  refine bsAt_mono _ _ _ rfl (Nat.zero_le _) (Nat.le_of_lt hi) fun m _ hm => ?_
  have h1 := h.1 l[m] (List.getElem_mem _)
  have h2 := h.1 l[i] (List.getElem_mem _)
  have e1 : idD l l[i].id m = l[m].id - l[i].id := by
    simp only [idD, List.getElem?_eq_getElem hm, Option.getD_some, IntKind.wrap_i64]
    omega
  rw [e1]
  rcases Nat.lt_trichotomy m i with h3 | h3 | h3
  · have := h.lt h3 hi; simp; omega
  · subst h3; simp
  · have := h.lt h3 hm; simp; omega
theorem bs_found {l : List Nd} (h : Rise l) {id : Int} (h64 : I64 id) : ndAt l id = if bsIx l id < l.length ∧ idD l id (bsIx l id) = 0 then l[bsIx l id]? else none := by
  split
  · rename_i hc
    have e := (idD_zero h h64 hc.1).1 hc.2
    have := h.at hc.1
    rw [e] at this
    rw [this, List.getElem?_eq_getElem hc.1]
  · rename_i hc
    unfold ndAt
    rw [List.find?_eq_none]
    intro n hn
    obtain ⟨i, hi, rfl⟩ := List.mem_iff_getElem.1 hn
    simp only [beq_iff_eq]
    rintro rfl
    apply hc
    rw [bsIx_at h hi]
    exact ⟨hi, (idD_zero h h64 hi).2 rfl⟩
theorem find_ok (d : Dc) (id : Int) (h : Rise d.nodes) (h64 : I64 id) (hlen : d.nodes.length < 2 ^ 62) : FC Try.prog 89 [(false, [.pv (dcL d)]), (false, [iL id])] [] [(false, [.f (findL d.nodes id)])] := by
  have hb := bs_found h h64
  have hs := bsearch_ok d.nodes id hlen
  by_cases hc : bsIx d.nodes id < d.nodes.length ∧ idD d.nodes id (bsIx d.nodes id) = 0
  · rw [decide_eq_true hc] at hs
    rw [if_pos hc, List.getElem?_eq_getElem hc.1] at hb
    refine gcalls_of tbl_ok mixed Try.func89 rfl Try.ntmps89 (by kernel_rfl) (Nat.le_of_ble_eq_true rfl) rfl rfl trivial ?_
    conv => whnf
    refine ⟨([], _), hs, ?_⟩
    conv => whnf
    refine ⟨(bsIx d.nodes id, ndL d.nodes[bsIx d.nodes id]), ⟨rfl, by simp [hc.1]⟩, ?_⟩
    conv => whnf
    refine ⟨[], [], ?_⟩
    (repeat' first | exact trivial | exact rfl | exact tl_pv rfl rfl rfl (List.cons_ne_nil _ _) | exact tl_ints rfl rfl rfl (by simp) | exact tl_txts rfl rfl rfl (by simp) | exact tl_nds rfl rfl rfl (by simp) | ((conv => whnf); first | exact trivial | exact rfl | exact .inr rfl | exact .inl ⟨rfl, rfl⟩ | apply And.intro) | refine tl_int ?_ | refine tl_bool ?_ | refine tl_str ?_ | refine tl_row rfl ?_ | exact cl_ints _ | exact cl_txts _ | exact cl_nds _ | exact cl_mp _ | exact Nat.succ_pos _ | exact pl_ints _ | exact pl_txts _ | exact pl_nds _ | with_reducible refine tl_f ?_)
    simp only [findL, hb]
  · rw [decide_eq_false hc] at hs
    rw [if_neg hc] at hb
    refine gcalls_of tbl_ok mixed Try.func89 rfl Try.ntmps89 (by kernel_rfl) (Nat.le_of_ble_eq_true rfl) rfl rfl trivial ?_
    conv => whnf
    refine ⟨([], _), hs, ?_⟩
    conv => whnf
    refine ⟨[], [], ?_⟩
    (repeat' first | exact trivial | exact rfl | exact tl_pv rfl rfl rfl (List.cons_ne_nil _ _) | exact tl_ints rfl rfl rfl (by simp) | exact tl_txts rfl rfl rfl (by simp) | exact tl_nds rfl rfl rfl (by simp) | ((conv => whnf); first | exact trivial | exact rfl | exact .inr rfl | exact .inl ⟨rfl, rfl⟩ | apply And.intro) | refine tl_int ?_ | refine tl_bool ?_ | refine tl_str ?_ | refine tl_row rfl ?_ | exact cl_ints _ | exact cl_txts _ | exact cl_nds _ | exact cl_mp _ | exact Nat.succ_pos _ | exact pl_ints _ | exact pl_txts _ | exact pl_nds _ | with_reducible refine tl_f ?_)
    exact tl_f (a := .v (.pointer none)) (by simp only [findL, hb])
theorem has_ok (d : Dc) (id : Int) (h : Rise d.nodes) (h64 : I64 id) (hlen : d.nodes.length < 2 ^ 62) : FC Try.prog 52 [(false, [.pv (dcL d)]), (false, [iL id])] [] [(false, [.f (bL (ndAt d.nodes id).isSome)])] := by
  have hf := find_ok d id h h64 hlen
  unfold findL at hf
  cases hq : ndAt d.nodes id with
  | none =>
    rw [hq] at hf
    refine gcalls_of tbl_ok mixed Try.func52 rfl Try.ntmps52 (by kernel_rfl) (Nat.le_of_ble_eq_true rfl) rfl rfl trivial ?_
    conv => whnf
    refine ⟨([], _), hf, ?_⟩
    conv => whnf
    refine ⟨[], [], ?_⟩
    (repeat' first | exact trivial | exact rfl | exact tl_pv rfl rfl rfl (List.cons_ne_nil _ _) | exact tl_ints rfl rfl rfl (by simp) | exact tl_txts rfl rfl rfl (by simp) | exact tl_nds rfl rfl rfl (by simp) | ((conv => whnf); first | exact trivial | exact rfl | exact .inr rfl | exact .inl ⟨rfl, rfl⟩ | apply And.intro) | refine tl_int ?_ | refine tl_bool ?_ | refine tl_str ?_ | refine tl_row rfl ?_ | exact cl_ints _ | exact cl_txts _ | exact cl_nds _ | exact cl_mp _ | exact Nat.succ_pos _ | exact pl_ints _ | exact pl_txts _ | exact pl_nds _ | with_reducible refine tl_f ?_)
  | some n =>
    rw [hq] at hf
    refine gcalls_of tbl_ok mixed Try.func52 rfl Try.ntmps52 (by kernel_rfl) (Nat.le_of_ble_eq_true rfl) rfl rfl trivial ?_
    conv => whnf
    refine ⟨([], _), hf, ?_⟩
    conv => whnf
    refine ⟨[], [], ?_⟩
    (repeat' first | exact trivial | exact rfl | exact tl_pv rfl rfl rfl (List.cons_ne_nil _ _) | exact tl_ints rfl rfl rfl (by simp) | exact tl_txts rfl rfl rfl (by simp) | exact tl_nds rfl rfl rfl (by simp) | ((conv => whnf); first | exact trivial | exact rfl | exact .inr rfl | exact .inl ⟨rfl, rfl⟩ | apply And.intro) | refine tl_int ?_ | refine tl_bool ?_ | refine tl_str ?_ | refine tl_row rfl ?_ | exact cl_ints _ | exact cl_txts _ | exact cl_nds _ | exact cl_mp _ | exact Nat.succ_pos _ | exact pl_ints _ | exact pl_txts _ | exact pl_nds _ | with_reducible refine tl_f ?_)
def Fits (l : List Nd) : Nat → Int → Prop
  | 0, _ => False
  | k + 1, id => ∃ n, ndAt l id = some n ∧ ∀ c ∈ n.kids, Fits l k c
def Kids (l : List Nd) : Prop := ∀ n ∈ l, ∀ c ∈ n.kids, ∃ m, ndAt l c = some m
def kidsAt (l : List Nd) (id : Int) : List Int := ((ndAt l id).map (·.kids)).getD []
def depthF (l : List Nd) : Nat → Int → Nat
  | 0, _ => 0
  | k + 1, id => (kidsAt l id).foldl (fun m c => max m (depthF l k c)) 0 + 1
theorem ndAt_mem {l : List Nd} {id : Int} {n : Nd} (h : ndAt l id = some n) : n ∈ l ∧ n.id = id := ⟨List.mem_of_find?_eq_some h, by simpa using List.find?_some h⟩
theorem Rise.i64 {l : List Nd} (h : Rise l) {id : Int} {n : Nd} (hn : ndAt l id = some n) : I64 id := by
  obtain ⟨h1, rfl⟩ := ndAt_mem hn
  have := h.1 n h1
  unfold I64; omega
theorem findL_some {l : List Nd} {id : Int} {n : Nd} (hn : ndAt l id = some n) : findL l id = .pv (ndL n) := by simp only [findL, hn]
theorem foldl_take {f : Nat → Int → Nat} {ks : List Int} {i : Nat} (hi : i < ks.length) (z : Nat) : (ks.take (i + 1)).foldl f z = f ((ks.take i).foldl f z) ks[i] := by
  rw [List.take_succ_eq_append_getElem hi, List.foldl_append]; rfl
theorem depthF_le {l : List Nd} (hk : ∀ n ∈ l, n.kids.length < 2 ^ 62) : ∀ (k : Nat) (id : Int), depthF l k id ≤ k
  | 0, _ => Nat.le_refl _
  | k + 1, id => by
    have : ∀ (ks : List Int) (m : Nat), m ≤ k → ks.foldl (fun m c => max m (depthF l k c)) m ≤ k := by
      intro ks
      induction ks with
      | nil => exact fun m hm => hm
      | cons c ks ih => exact fun m hm => ih _ (Nat.max_le.2 ⟨hm, depthF_le hk k c⟩)
    have := this (kidsAt l id) 0 (Nat.zero_le _)
    simp only [depthF]; omega
theorem depth_ok (d : Dc) (h : Rise d.nodes) (hk : Kids d.nodes) (hlen : d.nodes.length < 2 ^ 62) (hks : ∀ n ∈ d.nodes, n.kids.length < 2 ^ 62) : ∀ (k : Nat), k ≤ 7 → ∀ (id : Int) (n : Nd), ndAt d.nodes id = some n →
    FC Try.prog 108 [(false, [.pv (dcL d)]), (false, [iL id]), (false, [iL ((7 - k : Nat) : Int)])] [] [(false, [.f (iL (depthF d.nodes k id))])]
  | 0, _, id, n, hn => by
    refine gcalls_of tbl_ok mixed Try.func108 rfl Try.ntmps108 (by kernel_rfl) (Nat.le_of_ble_eq_true rfl) rfl rfl trivial ?_
    conv => whnf
    refine ⟨fun h => ?_, fun h => by omega⟩
    conv => whnf
    refine ⟨[], [], ?_⟩
    (repeat' first | exact trivial | exact rfl | exact tl_pv rfl rfl rfl (List.cons_ne_nil _ _) | exact tl_ints rfl rfl rfl (by simp) | exact tl_txts rfl rfl rfl (by simp) | exact tl_nds rfl rfl rfl (by simp) | ((conv => whnf); first | exact trivial | exact rfl | exact .inr rfl | exact .inl ⟨rfl, rfl⟩ | apply And.intro) | refine tl_int ?_ | refine tl_bool ?_ | refine tl_str ?_ | refine tl_row rfl ?_ | exact cl_ints _ | exact cl_txts _ | exact cl_nds _ | exact cl_mp _ | exact Nat.succ_pos _ | exact pl_ints _ | exact pl_txts _ | exact pl_nds _ | with_reducible refine tl_f ?_)
  | k + 1, hle, id, n, hn => by
    have ih := depth_ok d h hk hlen hks k (by omega)
    have hf := find_ok d id h (h.i64 hn) hlen
    rw [findL_some hn] at hf
    refine gcalls_of tbl_ok mixed Try.func108 rfl Try.ntmps108 (by kernel_rfl) (Nat.le_of_ble_eq_true rfl) rfl rfl trivial ?_
    conv => whnf
    refine ⟨fun h => by omega, fun h' => ?_⟩
    clear h'
    conv => whnf
    refine ⟨([], _), hf, ?_⟩
    conv => whnf
    refine ⟨fun (m : Nat) (es : Es) (hs : Hs) => ∃ i : Nat, m + i = n.kids.length ∧ es = [(19, .val false [.f (iL i)]), (18, .val false [.f (iL n.kids.length)]), (17, .val false [.f (ints n.kids)]), (7, .val false [.f (iL ((n.kids.take i).foldl (fun m c => max m (depthF d.nodes k c)) 0 : Nat))]), (2, .val false [.f (iL ((7 - (k + 1) : Nat) : Int))]), (0, .val false [.f (.pv (dcL d))])] ∧ hs = [],
      ⟨n.kids.length, [], [], _, _, ⟨?_, ?_, ?_⟩, 0, rfl, rfl, rfl⟩, ?_⟩
    · rfl
    · (repeat' first | exact trivial | exact rfl | exact tl_pv rfl rfl rfl (List.cons_ne_nil _ _) | exact tl_ints rfl rfl rfl (by simp) | exact tl_txts rfl rfl rfl (by simp) | exact tl_nds rfl rfl rfl (by simp) | ((conv => whnf); first | exact trivial | exact rfl | exact .inr rfl | exact .inl ⟨rfl, rfl⟩ | apply And.intro) | refine tl_int ?_ | refine tl_bool ?_ | refine tl_str ?_ | refine tl_row rfl ?_ | exact cl_ints _ | exact cl_txts _ | exact cl_nds _ | exact cl_mp _ | exact Nat.succ_pos _ | exact pl_ints _ | exact pl_txts _ | exact pl_nds _ | with_reducible refine tl_f ?_)
      simp
    · (repeat' first | exact trivial | exact rfl | exact tl_pv rfl rfl rfl (List.cons_ne_nil _ _) | exact tl_ints rfl rfl rfl (by simp) | exact tl_txts rfl rfl rfl (by simp) | exact tl_nds rfl rfl rfl (by simp) | ((conv => whnf); first | exact trivial | exact rfl | exact .inr rfl | exact .inl ⟨rfl, rfl⟩ | apply And.intro) | refine tl_int ?_ | refine tl_bool ?_ | refine tl_str ?_ | refine tl_row rfl ?_ | exact cl_ints _ | exact cl_txts _ | exact cl_nds _ | exact cl_mp _ | exact Nat.succ_pos _ | exact pl_ints _ | exact pl_txts _ | exact pl_nds _ | with_reducible refine tl_f ?_)
    rintro m es hs ⟨i, hm, rfl, rfl⟩
    conv => whnf
    refine ⟨fun h => ?_, fun h => ?_⟩
    · have hi : i < n.kids.length := by omega
      obtain ⟨c, hc⟩ := hk n (ndAt_mem hn).1 n.kids[i] (List.getElem_mem _)
      have ih := ih n.kids[i] c hc
      conv => whnf
      refine ⟨(i, intE n.kids[i]), ⟨rfl, by simp [hi]⟩, ?_⟩
      conv => whnf
      refine ⟨([], [(false, [.f (iL (depthF d.nodes k n.kids[i]))])]), ?_, ?_⟩
      · have e : IntKind.i64.wrap (((7 - (k + 1) : Nat) : Int) + 1) = ((7 - k : Nat) : Int) := by rw [IntKind.wrap_i64]; omega
        rw [← e] at ih
        exact ih
      conv => whnf
      refine ⟨m - 1, [], [], [(19, .val false [.f (iL (i + 1 : Nat))]), (18, .val false [.f (iL n.kids.length)]), (17, .val false [.f (ints n.kids)]), (7, .val false [.f (iL ((n.kids.take (i + 1)).foldl (fun m c => max m (depthF d.nodes k c)) 0 : Nat))]), (2, .val false [.f (iL ((7 - (k + 1) : Nat) : Int))]), (0, .val false [.f (.pv (dcL d))])], [], by omega, ⟨?_, ?_, ?_⟩, i + 1, by omega, rfl, rfl⟩
      · rfl
      · (repeat' first | exact trivial | exact rfl | exact tl_pv rfl rfl rfl (List.cons_ne_nil _ _) | exact tl_ints rfl rfl rfl (by simp) | exact tl_txts rfl rfl rfl (by simp) | exact tl_nds rfl rfl rfl (by simp) | ((conv => whnf); first | exact trivial | exact rfl | exact .inr rfl | exact .inl ⟨rfl, rfl⟩ | apply And.intro) | refine tl_int ?_ | refine tl_bool ?_ | refine tl_str ?_ | refine tl_row rfl ?_ | exact cl_ints _ | exact cl_txts _ | exact cl_nds _ | exact cl_mp _ | exact Nat.succ_pos _ | exact pl_ints _ | exact pl_txts _ | exact pl_nds _ | with_reducible refine tl_f ?_)
        · exact wrap_suc (by have := hks n (ndAt_mem hn).1; omega)
        · rw [foldl_take hi]
          split <;> omega
      · (repeat' first | exact trivial | exact rfl | exact tl_pv rfl rfl rfl (List.cons_ne_nil _ _) | exact tl_ints rfl rfl rfl (by simp) | exact tl_txts rfl rfl rfl (by simp) | exact tl_nds rfl rfl rfl (by simp) | ((conv => whnf); first | exact trivial | exact rfl | exact .inr rfl | exact .inl ⟨rfl, rfl⟩ | apply And.intro) | refine tl_int ?_ | refine tl_bool ?_ | refine tl_str ?_ | refine tl_row rfl ?_ | exact cl_ints _ | exact cl_txts _ | exact cl_nds _ | exact cl_mp _ | exact Nat.succ_pos _ | exact pl_ints _ | exact pl_txts _ | exact pl_nds _ | with_reducible refine tl_f ?_)
    · have hi : n.kids.length = i := by omega
      conv => whnf
      refine ⟨[], [], ?_⟩
      (repeat' first | exact trivial | exact rfl | exact tl_pv rfl rfl rfl (List.cons_ne_nil _ _) | exact tl_ints rfl rfl rfl (by simp) | exact tl_txts rfl rfl rfl (by simp) | exact tl_nds rfl rfl rfl (by simp) | ((conv => whnf); first | exact trivial | exact rfl | exact .inr rfl | exact .inl ⟨rfl, rfl⟩ | apply And.intro) | refine tl_int ?_ | refine tl_bool ?_ | refine tl_str ?_ | refine tl_row rfl ?_ | exact cl_ints _ | exact cl_txts _ | exact cl_nds _ | exact cl_mp _ | exact Nat.succ_pos _ | exact pl_ints _ | exact pl_txts _ | exact pl_nds _ | with_reducible refine tl_f ?_)
      subst hi
      have hd := depthF_le hks (k + 1) id
      have he : depthF d.nodes (k + 1) id = n.kids.foldl (fun m c => max m (depthF d.nodes k c)) 0 + 1 := by simp only [depthF, kidsAt, hn, Option.map_some, Option.getD_some]
      rw [List.take_length, he]
      exact wrap_suc (by omega)
theorem isDeep_ok (d : Dc) (h : Rise d.nodes) (hk : Kids d.nodes) (hlen : d.nodes.length < 2 ^ 62) (hks : ∀ n ∈ d.nodes, n.kids.length < 2 ^ 62) {n : Nd} (hn : ndAt d.nodes d.root = some n) :
    FC Try.prog 66 [(false, [.pv (dcL d)])] [] [(false, [.f (bL (decide (6 < depthF d.nodes 7 d.root)))])] := by
  refine gcalls_of tbl_ok mixed Try.func66 rfl Try.ntmps66 (by kernel_rfl) (Nat.le_of_ble_eq_true rfl) rfl rfl trivial ?_
  conv => whnf
  refine ⟨([], _), depth_ok d h hk hlen hks 7 (by omega) d.root n hn, ?_⟩
  conv => whnf
  refine ⟨fun h => ?_, fun h => ?_⟩
  · conv => whnf
    refine ⟨[], [], ?_⟩
    (repeat' first | exact trivial | exact rfl | exact tl_pv rfl rfl rfl (List.cons_ne_nil _ _) | exact tl_ints rfl rfl rfl (by simp) | exact tl_txts rfl rfl rfl (by simp) | exact tl_nds rfl rfl rfl (by simp) | ((conv => whnf); first | exact trivial | exact rfl | exact .inr rfl | exact .inl ⟨rfl, rfl⟩ | apply And.intro) | refine tl_int ?_ | refine tl_bool ?_ | refine tl_str ?_ | refine tl_row rfl ?_ | exact cl_ints _ | exact cl_txts _ | exact cl_nds _ | exact cl_mp _ | exact Nat.succ_pos _ | exact pl_ints _ | exact pl_txts _ | exact pl_nds _ | with_reducible refine tl_f ?_)
    exact b_true (by omega)
  · conv => whnf
    refine ⟨[], [], ?_⟩
    (repeat' first | exact trivial | exact rfl | exact tl_pv rfl rfl rfl (List.cons_ne_nil _ _) | exact tl_ints rfl rfl rfl (by simp) | exact tl_txts rfl rfl rfl (by simp) | exact tl_nds rfl rfl rfl (by simp) | ((conv => whnf); first | exact trivial | exact rfl | exact .inr rfl | exact .inl ⟨rfl, rfl⟩ | apply And.intro) | refine tl_int ?_ | refine tl_bool ?_ | refine tl_str ?_ | refine tl_row rfl ?_ | exact cl_ints _ | exact cl_txts _ | exact cl_nds _ | exact cl_mp _ | exact Nat.succ_pos _ | exact pl_ints _ | exact pl_txts _ | exact pl_nds _ | with_reducible refine tl_f ?_)
    exact b_false (by omega)
def orderF (l : List Nd) : Nat → Int → List Int
  | 0, _ => []
  | k + 1, id => id :: (kidsAt l id).flatMap (orderF l k)
theorem order_ok (d : Dc) (h : Rise d.nodes) (hlen : d.nodes.length < 2 ^ 62) (hks : ∀ n ∈ d.nodes, n.kids.length < 2 ^ 62) : ∀ (k : Nat) (id : Int), Fits d.nodes k id → ∀ out : List Int, out.length + (orderF d.nodes k id).length < 2 ^ 30 →
    GCalls Try.prog 67 [(1, some ⟨0, 1, out.map intW⟩)] [(false, [.f (.pv (dcL d))]), (false, [.row 1 0 out.length]), (false, [.f (iL id)])] [(1, none), (1000, some ⟨0, 1, (out ++ orderF d.nodes k id).map intW⟩)] [(false, [.row 1000 0 (out ++ orderF d.nodes k id).length])]
  | 0, id, hf, _, _ => hf.elim
  | k + 1, id, hf, out, hb => by
    obtain ⟨n, hn, hfk⟩ := hf
    have ih := order_ok d h hlen hks k
    have hf := find_ok d id h (h.i64 hn) hlen
    rw [findL_some hn] at hf
    have ho : orderF d.nodes (k + 1) id = id :: n.kids.flatMap (orderF d.nodes k) := by simp only [orderF, kidsAt, hn, Option.map_some, Option.getD_some]
    rw [ho] at hb ⊢
    refine gcalls_of tbl_ok mixed Try.func67 rfl Try.ntmps67 (by kernel_rfl) (Nat.le_of_ble_eq_true rfl) rfl rfl (⟨cl_ints _, trivial⟩) ?_
    conv => whnf
    refine ⟨(out ++ [id]).map intW, ⟨app_one intW out id, by simp at hb ⊢; omega⟩, ?_⟩
    conv => whnf
    refine ⟨([], _), hf, ?_⟩
    conv => whnf
    refine ⟨fun (m : Nat) (es : Es) (hs : Hs) => ∃ i : Nat, m + i = n.kids.length ∧ es = [(20, .val false [.f (iL i)]), (19, .val false [.f (iL n.kids.length)]), (18, .val false [.f (ints n.kids)]), (1, .val false [.row 208 0 (out ++ id :: (n.kids.take i).flatMap (orderF d.nodes k)).length]), (0, .val false [.f (.pv (dcL d))])] ∧ hs = [(208, some ⟨0, 1, (out ++ id :: (n.kids.take i).flatMap (orderF d.nodes k)).map intW⟩), (1, none)],
      ⟨n.kids.length, [], [], _, _, ⟨?_, ?_, ?_⟩, 0, rfl, rfl, rfl⟩, ?_⟩
    · rfl
    · (repeat' first | exact trivial | exact rfl | exact tl_pv rfl rfl rfl (List.cons_ne_nil _ _) | exact tl_ints rfl rfl rfl (by simp) | exact tl_txts rfl rfl rfl (by simp) | exact tl_nds rfl rfl rfl (by simp) | ((conv => whnf); first | exact trivial | exact rfl | exact .inr rfl | exact .inl ⟨rfl, rfl⟩ | apply And.intro) | refine tl_int ?_ | refine tl_bool ?_ | refine tl_str ?_ | refine tl_row rfl ?_ | exact cl_ints _ | exact cl_txts _ | exact cl_nds _ | exact cl_mp _ | exact Nat.succ_pos _ | exact pl_ints _ | exact pl_txts _ | exact pl_nds _ | with_reducible refine tl_f ?_)
      all_goals simp
    · (repeat' first | exact trivial | exact rfl | exact tl_pv rfl rfl rfl (List.cons_ne_nil _ _) | exact tl_ints rfl rfl rfl (by simp) | exact tl_txts rfl rfl rfl (by simp) | exact tl_nds rfl rfl rfl (by simp) | ((conv => whnf); first | exact trivial | exact rfl | exact .inr rfl | exact .inl ⟨rfl, rfl⟩ | apply And.intro) | refine tl_int ?_ | refine tl_bool ?_ | refine tl_str ?_ | refine tl_row rfl ?_ | exact cl_ints _ | exact cl_txts _ | exact cl_nds _ | exact cl_mp _ | exact Nat.succ_pos _ | exact pl_ints _ | exact pl_txts _ | exact pl_nds _ | with_reducible refine tl_f ?_)
      all_goals simp
    rintro m es hs ⟨i, hm, rfl, rfl⟩
    conv => whnf
    refine ⟨fun h => ?_, fun h => ?_⟩
    · have hi : i < n.kids.length := by omega
      conv => whnf
      refine ⟨(i, intE n.kids[i]), ⟨rfl, by simp [hi]⟩, ?_⟩
      conv => whnf
      have hsp : n.kids.flatMap (orderF d.nodes k) = (n.kids.take i).flatMap (orderF d.nodes k) ++ (orderF d.nodes k n.kids[i] ++ (n.kids.drop (i + 1)).flatMap (orderF d.nodes k)) := by
        conv => lhs; rw [← List.take_append_drop i n.kids, List.drop_eq_getElem_cons hi]
        rw [List.flatMap_append, List.flatMap_cons]
      have hst : out ++ id :: (n.kids.take (i + 1)).flatMap (orderF d.nodes k) = out ++ id :: (n.kids.take i).flatMap (orderF d.nodes k) ++ orderF d.nodes k n.kids[i] := by
        rw [List.take_succ_eq_append_getElem hi, List.flatMap_append]; simp
      refine ⟨⟨false, [(1, 208)], _, _, _, _⟩, ih n.kids[i] (hfk _ (List.getElem_mem _)) (out ++ id :: (n.kids.take i).flatMap (orderF d.nodes k)) ?_, ?_⟩
      · rw [hsp] at hb
        simp only [List.length_append, List.length_cons] at hb ⊢
        omega
      conv => whnf
      refine ⟨⟨?_, ?_, trivial⟩, ?_⟩
      · (repeat' first | exact trivial | exact rfl | exact tl_pv rfl rfl rfl (List.cons_ne_nil _ _) | exact tl_ints rfl rfl rfl (by simp) | exact tl_txts rfl rfl rfl (by simp) | exact tl_nds rfl rfl rfl (by simp) | ((conv => whnf); first | exact trivial | exact rfl | exact .inr rfl | exact .inl ⟨rfl, rfl⟩ | apply And.intro) | refine tl_int ?_ | refine tl_bool ?_ | refine tl_str ?_ | refine tl_row rfl ?_ | exact cl_ints _ | exact cl_txts _ | exact cl_nds _ | exact cl_mp _ | exact Nat.succ_pos _ | exact pl_ints _ | exact pl_txts _ | exact pl_nds _ | with_reducible refine tl_f ?_)
      · (repeat' first | exact trivial | exact rfl | exact tl_pv rfl rfl rfl (List.cons_ne_nil _ _) | exact tl_ints rfl rfl rfl (by simp) | exact tl_txts rfl rfl rfl (by simp) | exact tl_nds rfl rfl rfl (by simp) | ((conv => whnf); first | exact trivial | exact rfl | exact .inr rfl | exact .inl ⟨rfl, rfl⟩ | apply And.intro) | refine tl_int ?_ | refine tl_bool ?_ | refine tl_str ?_ | refine tl_row rfl ?_ | exact cl_ints _ | exact cl_txts _ | exact cl_nds _ | exact cl_mp _ | exact Nat.succ_pos _ | exact pl_ints _ | exact pl_txts _ | exact pl_nds _ | with_reducible refine tl_f ?_)
      conv => whnf
      refine ⟨m - 1, [], [(208, 448)], [(20, .val false [.f (iL (i + 1 : Nat))]), (19, .val false [.f (iL n.kids.length)]), (18, .val false [.f (ints n.kids)]), (1, .val false [.row 208 0 (out ++ id :: (n.kids.take (i + 1)).flatMap (orderF d.nodes k)).length]), (0, .val false [.f (.pv (dcL d))])], [(208, some ⟨0, 1, (out ++ id :: (n.kids.take (i + 1)).flatMap (orderF d.nodes k)).map intW⟩), (1, none)], by omega, ⟨?_, ?_, ?_⟩, i + 1, by omega, rfl, rfl⟩
      · rfl
      · (repeat' first | exact trivial | exact rfl | exact tl_pv rfl rfl rfl (List.cons_ne_nil _ _) | exact tl_ints rfl rfl rfl (by simp) | exact tl_txts rfl rfl rfl (by simp) | exact tl_nds rfl rfl rfl (by simp) | ((conv => whnf); first | exact trivial | exact rfl | exact .inr rfl | exact .inl ⟨rfl, rfl⟩ | apply And.intro) | refine tl_int ?_ | refine tl_bool ?_ | refine tl_str ?_ | refine tl_row rfl ?_ | exact cl_ints _ | exact cl_txts _ | exact cl_nds _ | exact cl_mp _ | exact Nat.succ_pos _ | exact pl_ints _ | exact pl_txts _ | exact pl_nds _ | with_reducible refine tl_f ?_)
        · exact wrap_suc (by have := hks n (ndAt_mem hn).1; omega)
        · rw [hst]
      · (repeat' first | exact trivial | exact rfl | exact tl_pv rfl rfl rfl (List.cons_ne_nil _ _) | exact tl_ints rfl rfl rfl (by simp) | exact tl_txts rfl rfl rfl (by simp) | exact tl_nds rfl rfl rfl (by simp) | ((conv => whnf); first | exact trivial | exact rfl | exact .inr rfl | exact .inl ⟨rfl, rfl⟩ | apply And.intro) | refine tl_int ?_ | refine tl_bool ?_ | refine tl_str ?_ | refine tl_row rfl ?_ | exact cl_ints _ | exact cl_txts _ | exact cl_nds _ | exact cl_mp _ | exact Nat.succ_pos _ | exact pl_ints _ | exact pl_txts _ | exact pl_nds _ | with_reducible refine tl_f ?_)
        dsimp only
        rw [hst]
    · have hi : n.kids.length = i := by omega
      have hst : (n.kids.take i) = n.kids := by rw [← hi, List.take_length]
      conv => whnf
      refine ⟨[], [(1000, 208)], ?_⟩
      (repeat' first | exact trivial | exact rfl | exact tl_pv rfl rfl rfl (List.cons_ne_nil _ _) | exact tl_ints rfl rfl rfl (by simp) | exact tl_txts rfl rfl rfl (by simp) | exact tl_nds rfl rfl rfl (by simp) | ((conv => whnf); first | exact trivial | exact rfl | exact .inr rfl | exact .inl ⟨rfl, rfl⟩ | apply And.intro) | refine tl_int ?_ | refine tl_bool ?_ | refine tl_str ?_ | refine tl_row rfl ?_ | exact cl_ints _ | exact cl_txts _ | exact cl_nds _ | exact cl_mp _ | exact Nat.succ_pos _ | exact pl_ints _ | exact pl_txts _ | exact pl_nds _ | with_reducible refine tl_f ?_)
      · rw [hst]
      · dsimp only; rw [hst]
end Go.Proofs.Ytfafehhallbjiaa.Ac
set_option linter.unusedVariables false
set_option linter.unusedSimpArgs false
namespace Go.Proofs.Ytfafehhallbjiaa.Ac
def NodeOK (next : Int) (x : Nd) : Prop := (1 ≤ x.id ∧ x.id ≤ next - 1) ∧ (1 ≤ x.kind ∧ x.kind ≤ 8) ∧ (0 ≤ x.attr ∧ x.attr ≤ 99) ∧ x.text.size ≤ 20 ∧ x.kids.length ≤ 12
def StepOK (next : Int) (l : List Nd) (i : Nat) (h : i < l.length) : Prop := NodeOK next l[i] ∧ ∀ j (hj : j + 1 = i), l[j].id < l[i].id
def kidsAll (l : List Nd) : List Int := l.flatMap (·.kids)
def SetOK (root : Int) (l : List Nd) (ks : List Int) : Prop := ks.Nodup ∧ ∀ k ∈ ks, k ≠ root ∧ (ndAt l k).isSome
def DOK (d : Dc) : Prop :=
  (1 ≤ d.nodes.length ∧ d.nodes.length ≤ 40) ∧ (2 ≤ d.next ∧ d.next ≤ 999999) ∧ (∀ i (h : i < d.nodes.length), StepOK d.next d.nodes i h) ∧ SetOK d.root d.nodes (kidsAll d.nodes) ∧
    ((ndAt d.nodes d.root).isSome ∧ (kidsAll d.nodes).length + 1 = d.nodes.length ∧ depthF d.nodes 7 d.root ≤ 6) ∧ (orderF d.nodes 6 d.root).length = d.nodes.length
noncomputable def dokB (d : Dc) : Bool := @decide (DOK d) (Classical.propDecidable _)
theorem dokB_iff {d : Dc} : dokB d = true ↔ DOK d := by unfold dokB; exact @decide_eq_true_iff _ (Classical.propDecidable _)
theorem dokB_yes {d : Dc} (h : DOK d) : dokB d = true := dokB_iff.2 h
theorem dokB_no {d : Dc} (h : ¬ DOK d) : dokB d = false := by
  cases e : dokB d with
  | false => rfl
  | true => exact absurd (dokB_iff.1 e) h
def Dc64 (d : Dc) : Prop := I64 d.root ∧ ∀ n ∈ d.nodes, ∀ k ∈ n.kids, I64 k
theorem prev_lt {l : List Nd} {t j : Nat} (hj : j + 1 = t) (ht : t < l.length) (h1 : t - 1 < l.length) (h : ¬ l[t - 1].id ≥ l[t].id) : l[j].id < l[t].id := by
  subst hj
  simpa using Int.not_le.1 h
theorem rise_of {next : Int} {l : List Nd} (hn : next ≤ 999999) (h : ∀ i (h : i < l.length), StepOK next l i h) : Rise l := by
  refine ⟨fun n hm => ?_, List.pairwise_iff_getElem.2 fun i j hi hj hij => ?_⟩
  · obtain ⟨i, hi, rfl⟩ := List.mem_iff_getElem.1 hm
    have := (h i hi).1.1; omega
  · induction j with
    | zero => omega
    | succ j ih =>
      have h1 := (h (j + 1) hj).2 j rfl
      by_cases q : i = j
      · subst q; exact h1
      · exact Int.lt_trans (ih (by omega) (by omega)) h1
def kidsTo (l : List Nd) (j : Nat) : List Int := (l.take j).flatMap (·.kids)
theorem kidsTo_all (l : List Nd) : kidsTo l l.length = kidsAll l := by unfold kidsTo kidsAll; rw [List.take_length]
theorem kidsTo_step {l : List Nd} {j : Nat} (h : j < l.length) : kidsTo l (j + 1) = kidsTo l j ++ l[j].kids := by
  unfold kidsTo
  rw [List.take_succ_eq_append_getElem h, List.flatMap_append]; simp
theorem kids_split {l : List Nd} {j i : Nat} (h : j < l.length) (hi : i < l[j].kids.length) : ∃ rest, kidsAll l = (kidsTo l j ++ l[j].kids.take i) ++ l[j].kids[i] :: rest := by
  refine ⟨l[j].kids.drop (i + 1) ++ (l.drop (j + 1)).flatMap (·.kids), ?_⟩
  have e1 : kidsAll l = kidsTo l (j + 1) ++ (l.drop (j + 1)).flatMap (·.kids) := by
    unfold kidsTo kidsAll
    rw [← List.flatMap_append, List.take_append_drop]
  rw [e1, kidsTo_step h, List.append_assoc, List.append_assoc, ← List.cons_append, ← List.drop_eq_getElem_cons hi, ← List.append_assoc (List.take i _), List.take_append_drop]
theorem set_bad {root : Int} {l : List Nd} {acc rest : List Int} {k : Int} (h : SetOK root l (acc ++ k :: rest)) : k ∉ acc ∧ k ≠ root ∧ (ndAt l k).isSome := by
  refine ⟨fun hk => ?_, h.2 k (by simp)⟩
  have := (List.nodup_append.1 h.1).2.2 k hk k (by simp)
  exact this rfl
theorem set_step {root : Int} {l : List Nd} {acc : List Int} {k : Int} (h : SetOK root l acc) (h1 : k ∉ acc) (h2 : k ≠ root) (h3 : (ndAt l k).isSome) : SetOK root l (acc ++ [k]) := by
  refine ⟨List.nodup_append.2 ⟨h.1, by simp, fun a ha b hb => ?_⟩, fun x hx => ?_⟩
  · obtain rfl : b = k := by simpa using hb
    exact fun e => h1 (e ▸ ha)
  · rcases List.mem_append.1 hx with hx | hx
    · exact h.2 x hx
    · obtain rfl : x = k := by simpa using hx
      exact ⟨h2, h3⟩
def setM (acc : List Int) : List (Int × Value) := acc.map fun k => (k, .bool true)
theorem setM_get (acc : List Int) (k : Int) : (mget (setM acc) k).getD (.bool false) = .bool (decide (k ∈ acc)) := by
  induction acc with
  | nil => rfl
  | cons a acc ih =>
    simp only [setM, List.map_cons, mget]
    by_cases h : a = k
    · simp [h]
    · rw [if_neg h]
      have h' : ¬ k = a := fun e => h e.symm
      simpa [setM, h'] using ih
theorem setM_put {acc : List Int} {k : Int} (h : k ∉ acc) : mput (setM acc) k (.bool true) = setM (acc ++ [k]) := by
  induction acc with
  | nil => rfl
  | cons a acc ih =>
    simp only [List.mem_cons, not_or] at h
    have h' : ¬ a = k := fun e => h.1 e.symm
    simp only [setM, List.map_cons, mput, if_neg h', List.cons_append]
    rw [show acc.map (fun k => (k, Value.bool true)) = setM acc from rfl, ih h.2]; rfl
theorem depthF_fits {l : List Nd} (hk : Kids l) : ∀ (k : Nat) (id : Int), (ndAt l id).isSome → depthF l (k + 1) id ≤ k → Fits l k id
  | 0, id, h, hd => by simp [depthF] at hd
  | k + 1, id, h, hd => by
    obtain ⟨n, hn⟩ := Option.isSome_iff_exists.1 h
    refine ⟨n, hn, fun c hc => depthF_fits hk k c (Option.isSome_iff_exists.2 (hk n (ndAt_mem hn).1 c hc)) ?_⟩
    have he : depthF l (k + 1 + 1) id = n.kids.foldl (fun m c => max m (depthF l (k + 1) c)) 0 + 1 := by simp only [depthF, kidsAt, hn, Option.map_some, Option.getD_some]
    have key : ∀ (ks : List Int) (m : Nat), c ∈ ks ∨ depthF l (k + 1) c ≤ m → depthF l (k + 1) c ≤ ks.foldl (fun m c => max m (depthF l (k + 1) c)) m := by
      intro ks
      induction ks with
      | nil => intro m h; rcases h with h | h
               · cases h
               · exact h
      | cons a ks ih =>
        intro m h
        refine ih _ ?_
        rcases h with h | h
        · rcases List.mem_cons.1 h with rfl | h
          · exact .inr (Nat.le_max_right _ _)
          · exact .inl h
        · exact .inr (Nat.le_trans h (Nat.le_max_left _ _))
    have := key n.kids 0 (.inl hc)
    omega
theorem flat_len {f : Int → List Int} {b : Nat} : ∀ (ks : List Int), (∀ k ∈ ks, (f k).length ≤ b) → (ks.flatMap f).length ≤ ks.length * b
  | [], _ => by simp
  | k :: ks, h => by
    have h1 := h k (by simp)
    have h2 := flat_len ks fun c hc => h c (by simp [hc])
    rw [List.flatMap_cons, List.length_append, List.length_cons, Nat.succ_mul]
    omega
theorem orderF_len {l : List Nd} (hk : ∀ n ∈ l, n.kids.length ≤ 12) : ∀ (k : Nat) (id : Int), (orderF l k id).length ≤ 13 ^ k
  | 0, _ => by simp [orderF]
  | k + 1, id => by
    have h0 : (kidsAt l id).length ≤ 12 := by
      unfold kidsAt
      cases hn : ndAt l id with
      | none => simp
      | some n => exact hk n (ndAt_mem hn).1
    have h1 := flat_len (f := orderF l k) (b := 13 ^ k) (kidsAt l id) fun c _ => orderF_len hk k c
    have h2 : (kidsAt l id).length * 13 ^ k ≤ 12 * 13 ^ k := Nat.mul_le_mul_right _ h0
    have h3 : 1 ≤ 13 ^ k := Nat.one_le_pow _ _ (by omega)
    simp only [orderF, List.length_cons]
    rw [Nat.pow_succ]
    omega
theorem DOK.rise {d : Dc} (h : DOK d) : Rise d.nodes := rise_of h.2.1.2 h.2.2.1
theorem DOK.kids {d : Dc} (h : DOK d) : Kids d.nodes := fun n hn c hc => Option.isSome_iff_exists.1 (h.2.2.2.1.2 c (List.mem_flatMap.2 ⟨n, hn, hc⟩)).2
end Go.Proofs.Ytfafehhallbjiaa.Ac
set_option linter.unusedVariables false
set_option linter.unusedSimpArgs false
set_option maxRecDepth 20000
set_option maxHeartbeats 400000
namespace Go.Proofs.Ytfafehhallbjiaa.Ac
open Go.RowKit
theorem l01In_ok (n lo hi : Int) : FC Try.prog 82 [(false, [iL n]), (false, [iL lo]), (false, [iL hi])] [] [(false, [.f (bL (decide (lo ≤ n ∧ n ≤ hi)))])] := by
  refine gcalls_of tbl_ok mixed Try.func82 rfl Try.ntmps82 (by kernel_rfl) (Nat.le_of_ble_eq_true rfl) rfl rfl trivial ?_
  conv => whnf
  refine ⟨fun h => ?_, fun h => ?_⟩
  · conv => whnf
    refine ⟨fun h => ?_, fun h => ?_⟩
    · conv => whnf
      refine ⟨[], [], ?_⟩
      (repeat' first | exact trivial | exact rfl | exact tl_pv rfl rfl rfl (List.cons_ne_nil _ _) | exact tl_ints rfl rfl rfl (by simp) | exact tl_txts rfl rfl rfl (by simp) | exact tl_nds rfl rfl rfl (by simp) | ((conv => whnf); first | exact trivial | exact rfl | exact .inr rfl | exact .inl ⟨rfl, rfl⟩ | apply And.intro) | refine tl_int ?_ | refine tl_bool ?_ | refine tl_str ?_ | refine tl_row rfl ?_ | exact cl_ints _ | exact cl_txts _ | exact cl_nds _ | exact cl_mp _ | exact Nat.succ_pos _ | exact pl_ints _ | exact pl_txts _ | exact pl_nds _ | with_reducible refine tl_f ?_)
      exact b_true (by omega)
    · conv => whnf
      refine ⟨[], [], ?_⟩
      (repeat' first | exact trivial | exact rfl | exact tl_pv rfl rfl rfl (List.cons_ne_nil _ _) | exact tl_ints rfl rfl rfl (by simp) | exact tl_txts rfl rfl rfl (by simp) | exact tl_nds rfl rfl rfl (by simp) | ((conv => whnf); first | exact trivial | exact rfl | exact .inr rfl | exact .inl ⟨rfl, rfl⟩ | apply And.intro) | refine tl_int ?_ | refine tl_bool ?_ | refine tl_str ?_ | refine tl_row rfl ?_ | exact cl_ints _ | exact cl_txts _ | exact cl_nds _ | exact cl_mp _ | exact Nat.succ_pos _ | exact pl_ints _ | exact pl_txts _ | exact pl_nds _ | with_reducible refine tl_f ?_)
      exact b_false (by omega)
  · conv => whnf
    refine ⟨[], [], ?_⟩
    (repeat' first | exact trivial | exact rfl | exact tl_pv rfl rfl rfl (List.cons_ne_nil _ _) | exact tl_ints rfl rfl rfl (by simp) | exact tl_txts rfl rfl rfl (by simp) | exact tl_nds rfl rfl rfl (by simp) | ((conv => whnf); first | exact trivial | exact rfl | exact .inr rfl | exact .inl ⟨rfl, rfl⟩ | apply And.intro) | refine tl_int ?_ | refine tl_bool ?_ | refine tl_str ?_ | refine tl_row rfl ?_ | exact cl_ints _ | exact cl_txts _ | exact cl_nds _ | exact cl_mp _ | exact Nat.succ_pos _ | exact pl_ints _ | exact pl_txts _ | exact pl_nds _ | with_reducible refine tl_f ?_)
    exact b_false (by omega)
theorem in_t {n lo hi : Int} (h : lo ≤ n ∧ n ≤ hi) : FC Try.prog 82 [(false, [iL n]), (false, [iL lo]), (false, [iL hi])] [] [(false, [.f (bL true)])] := by
  have := l01In_ok n lo hi
  rwa [decide_eq_true h] at this
theorem in_f {n lo hi : Int} (h : ¬ (lo ≤ n ∧ n ≤ hi)) : FC Try.prog 82 [(false, [iL n]), (false, [iL lo]), (false, [iL hi])] [] [(false, [.f (bL false)])] := by
  have := l01In_ok n lo hi
  rwa [decide_eq_false h] at this
theorem l02Kind_ok (k : Int) : FC Try.prog 94 [(false, [iL k])] [] [(false, [.f (bL (decide (1 ≤ k ∧ k ≤ 8)))])] := by
  refine gcalls_of tbl_ok mixed Try.func94 rfl Try.ntmps94 (by kernel_rfl) (Nat.le_of_ble_eq_true rfl) rfl rfl trivial ?_
  conv => whnf
  refine ⟨([], _), l01In_ok k 1 8, ?_⟩
  conv => whnf
  refine ⟨[], [], ?_⟩
  (repeat' first | exact trivial | exact rfl | exact tl_pv rfl rfl rfl (List.cons_ne_nil _ _) | exact tl_ints rfl rfl rfl (by simp) | exact tl_txts rfl rfl rfl (by simp) | exact tl_nds rfl rfl rfl (by simp) | ((conv => whnf); first | exact trivial | exact rfl | exact .inr rfl | exact .inl ⟨rfl, rfl⟩ | apply And.intro) | refine tl_int ?_ | refine tl_bool ?_ | refine tl_str ?_ | refine tl_row rfl ?_ | exact cl_ints _ | exact cl_txts _ | exact cl_nds _ | exact cl_mp _ | exact Nat.succ_pos _ | exact pl_ints _ | exact pl_txts _ | exact pl_nds _ | with_reducible refine tl_f ?_)
theorem l02Has_ok (l : List Int) (n : Int) (hlen : l.length < 2 ^ 62) : FC Try.prog 51 [(false, [ints l]), (false, [iL n])] [] [(false, [.f (bL (decide (n ∈ l)))])] := by
  refine gcalls_of tbl_ok mixed Try.func51 rfl Try.ntmps51 (by kernel_rfl) (Nat.le_of_ble_eq_true rfl) rfl rfl trivial ?_
  conv => whnf
  refine ⟨fun (m : Nat) (es : Es) (hs : Hs) => ∃ i : Nat, m + i = l.length ∧ n ∉ l.take i ∧ es = [(5, .val false [.f (iL i)]), (1, .val false [.f (iL n)]), (0, .val false [.f (ints l)])] ∧ hs = [],
    ⟨l.length, [], [], _, _, ⟨?_, ?_, ?_⟩, 0, rfl, by simp, rfl, rfl⟩, ?_⟩
  · rfl
  · (repeat' first | exact trivial | exact rfl | exact tl_pv rfl rfl rfl (List.cons_ne_nil _ _) | exact tl_ints rfl rfl rfl (by simp) | exact tl_txts rfl rfl rfl (by simp) | exact tl_nds rfl rfl rfl (by simp) | ((conv => whnf); first | exact trivial | exact rfl | exact .inr rfl | exact .inl ⟨rfl, rfl⟩ | apply And.intro) | refine tl_int ?_ | refine tl_bool ?_ | refine tl_str ?_ | refine tl_row rfl ?_ | exact cl_ints _ | exact cl_txts _ | exact cl_nds _ | exact cl_mp _ | exact Nat.succ_pos _ | exact pl_ints _ | exact pl_txts _ | exact pl_nds _ | with_reducible refine tl_f ?_)
  · (repeat' first | exact trivial | exact rfl | exact tl_pv rfl rfl rfl (List.cons_ne_nil _ _) | exact tl_ints rfl rfl rfl (by simp) | exact tl_txts rfl rfl rfl (by simp) | exact tl_nds rfl rfl rfl (by simp) | ((conv => whnf); first | exact trivial | exact rfl | exact .inr rfl | exact .inl ⟨rfl, rfl⟩ | apply And.intro) | refine tl_int ?_ | refine tl_bool ?_ | refine tl_str ?_ | refine tl_row rfl ?_ | exact cl_ints _ | exact cl_txts _ | exact cl_nds _ | exact cl_mp _ | exact Nat.succ_pos _ | exact pl_ints _ | exact pl_txts _ | exact pl_nds _ | with_reducible refine tl_f ?_)
  rintro m es hs ⟨i, hm, hn, rfl, rfl⟩
  conv => whnf
  refine ⟨fun h => ?_, fun h => ?_⟩
  · have hi : i < l.length := by simpa using h
    conv => whnf
    refine ⟨(i, intE l[i]), ⟨rfl, by simp [hi]⟩, ?_⟩
    conv => whnf
    refine ⟨fun h => ?_, fun h => ?_⟩
    · conv => whnf
      refine ⟨[], [], ?_⟩
      (repeat' first | exact trivial | exact rfl | exact tl_pv rfl rfl rfl (List.cons_ne_nil _ _) | exact tl_ints rfl rfl rfl (by simp) | exact tl_txts rfl rfl rfl (by simp) | exact tl_nds rfl rfl rfl (by simp) | ((conv => whnf); first | exact trivial | exact rfl | exact .inr rfl | exact .inl ⟨rfl, rfl⟩ | apply And.intro) | refine tl_int ?_ | refine tl_bool ?_ | refine tl_str ?_ | refine tl_row rfl ?_ | exact cl_ints _ | exact cl_txts _ | exact cl_nds _ | exact cl_mp _ | exact Nat.succ_pos _ | exact pl_ints _ | exact pl_txts _ | exact pl_nds _ | with_reducible refine tl_f ?_)
      exact b_true (h ▸ List.getElem_mem hi)
    · conv => whnf
      refine ⟨m - 1, [], [], [(5, .val false [.f (iL (i + 1 : Nat))]), (1, .val false [.f (iL n)]), (0, .val false [.f (ints l)])], [], by omega, ⟨?_, ?_, ?_⟩, i + 1, by omega, ?_, rfl, rfl⟩
      · rfl
      · (repeat' first | exact trivial | exact rfl | exact tl_pv rfl rfl rfl (List.cons_ne_nil _ _) | exact tl_ints rfl rfl rfl (by simp) | exact tl_txts rfl rfl rfl (by simp) | exact tl_nds rfl rfl rfl (by simp) | ((conv => whnf); first | exact trivial | exact rfl | exact .inr rfl | exact .inl ⟨rfl, rfl⟩ | apply And.intro) | refine tl_int ?_ | refine tl_bool ?_ | refine tl_str ?_ | refine tl_row rfl ?_ | exact cl_ints _ | exact cl_txts _ | exact cl_nds _ | exact cl_mp _ | exact Nat.succ_pos _ | exact pl_ints _ | exact pl_txts _ | exact pl_nds _ | with_reducible refine tl_f ?_)
        exact wrap_suc (by omega)
      · (repeat' first | exact trivial | exact rfl | exact tl_pv rfl rfl rfl (List.cons_ne_nil _ _) | exact tl_ints rfl rfl rfl (by simp) | exact tl_txts rfl rfl rfl (by simp) | exact tl_nds rfl rfl rfl (by simp) | ((conv => whnf); first | exact trivial | exact rfl | exact .inr rfl | exact .inl ⟨rfl, rfl⟩ | apply And.intro) | refine tl_int ?_ | refine tl_bool ?_ | refine tl_str ?_ | refine tl_row rfl ?_ | exact cl_ints _ | exact cl_txts _ | exact cl_nds _ | exact cl_mp _ | exact Nat.succ_pos _ | exact pl_ints _ | exact pl_txts _ | exact pl_nds _ | with_reducible refine tl_f ?_)
      · rw [List.take_succ_eq_append_getElem hi, List.mem_append]
        simp only [List.mem_singleton, not_or]
        exact ⟨hn, fun e => h e.symm⟩
  · have hi : l.length ≤ i := by simpa using h
    conv => whnf
    refine ⟨[], [], ?_⟩
    (repeat' first | exact trivial | exact rfl | exact tl_pv rfl rfl rfl (List.cons_ne_nil _ _) | exact tl_ints rfl rfl rfl (by simp) | exact tl_txts rfl rfl rfl (by simp) | exact tl_nds rfl rfl rfl (by simp) | ((conv => whnf); first | exact trivial | exact rfl | exact .inr rfl | exact .inl ⟨rfl, rfl⟩ | apply And.intro) | refine tl_int ?_ | refine tl_bool ?_ | refine tl_str ?_ | refine tl_row rfl ?_ | exact cl_ints _ | exact cl_txts _ | exact cl_nds _ | exact cl_mp _ | exact Nat.succ_pos _ | exact pl_ints _ | exact pl_txts _ | exact pl_nds _ | with_reducible refine tl_f ?_)
    rw [List.take_of_length_le hi] at hn
    exact b_false hn
instance (next : Int) (x : Nd) : Decidable (NodeOK next x) := by unfold NodeOK; infer_instance
theorem l02Node_ok (x : Nd) (next : Int) (hn : I64 (next - 1)) : FC Try.prog 117 [(true, ndL x), (false, [iL next])] [] [(false, [.f (bL (decide (NodeOK next x)))])] := by
  have hw : IntKind.i64.wrap (next - 1) = next - 1 := by obtain ⟨h1, h2⟩ := hn; rw [IntKind.wrap_i64]; omega
  have hk := l02Kind_ok x.kind
  by_cases k1 : 1 ≤ x.id ∧ x.id ≤ next - 1
  rotate_left
  · refine gcalls_of tbl_ok mixed Try.func117 rfl Try.ntmps117 (by kernel_rfl) (Nat.le_of_ble_eq_true rfl) rfl rfl trivial ?_
    conv => whnf
    refine ⟨([], _), in_f (by rw [hw]; exact k1), ?_⟩
    conv => whnf
    refine ⟨[], [], ?_⟩
    (repeat' first | exact trivial | exact rfl | exact tl_pv rfl rfl rfl (List.cons_ne_nil _ _) | exact tl_ints rfl rfl rfl (by simp) | exact tl_txts rfl rfl rfl (by simp) | exact tl_nds rfl rfl rfl (by simp) | ((conv => whnf); first | exact trivial | exact rfl | exact .inr rfl | exact .inl ⟨rfl, rfl⟩ | apply And.intro) | refine tl_int ?_ | refine tl_bool ?_ | refine tl_str ?_ | refine tl_row rfl ?_ | exact cl_ints _ | exact cl_txts _ | exact cl_nds _ | exact cl_mp _ | exact Nat.succ_pos _ | exact pl_ints _ | exact pl_txts _ | exact pl_nds _ | with_reducible refine tl_f ?_)
    exact b_false fun h => k1 h.1
  by_cases k2 : 1 ≤ x.kind ∧ x.kind ≤ 8
  rotate_left
  · rw [decide_eq_false k2] at hk
    refine gcalls_of tbl_ok mixed Try.func117 rfl Try.ntmps117 (by kernel_rfl) (Nat.le_of_ble_eq_true rfl) rfl rfl trivial ?_
    conv => whnf
    refine ⟨([], _), in_t (by rw [hw]; exact k1), ?_⟩
    conv => whnf
    refine ⟨([], _), hk, ?_⟩
    conv => whnf
    refine ⟨[], [], ?_⟩
    (repeat' first | exact trivial | exact rfl | exact tl_pv rfl rfl rfl (List.cons_ne_nil _ _) | exact tl_ints rfl rfl rfl (by simp) | exact tl_txts rfl rfl rfl (by simp) | exact tl_nds rfl rfl rfl (by simp) | ((conv => whnf); first | exact trivial | exact rfl | exact .inr rfl | exact .inl ⟨rfl, rfl⟩ | apply And.intro) | refine tl_int ?_ | refine tl_bool ?_ | refine tl_str ?_ | refine tl_row rfl ?_ | exact cl_ints _ | exact cl_txts _ | exact cl_nds _ | exact cl_mp _ | exact Nat.succ_pos _ | exact pl_ints _ | exact pl_txts _ | exact pl_nds _ | with_reducible refine tl_f ?_)
    exact b_false fun h => k2 h.2.1
  rw [decide_eq_true k2] at hk
  by_cases k3 : 0 ≤ x.attr ∧ x.attr ≤ 99
  rotate_left
  · refine gcalls_of tbl_ok mixed Try.func117 rfl Try.ntmps117 (by kernel_rfl) (Nat.le_of_ble_eq_true rfl) rfl rfl trivial ?_
    conv => whnf
    refine ⟨([], _), in_t (by rw [hw]; exact k1), ?_⟩
    conv => whnf
    refine ⟨([], _), hk, ?_⟩
    conv => whnf
    refine ⟨([], _), in_f k3, ?_⟩
    conv => whnf
    refine ⟨[], [], ?_⟩
    (repeat' first | exact trivial | exact rfl | exact tl_pv rfl rfl rfl (List.cons_ne_nil _ _) | exact tl_ints rfl rfl rfl (by simp) | exact tl_txts rfl rfl rfl (by simp) | exact tl_nds rfl rfl rfl (by simp) | ((conv => whnf); first | exact trivial | exact rfl | exact .inr rfl | exact .inl ⟨rfl, rfl⟩ | apply And.intro) | refine tl_int ?_ | refine tl_bool ?_ | refine tl_str ?_ | refine tl_row rfl ?_ | exact cl_ints _ | exact cl_txts _ | exact cl_nds _ | exact cl_mp _ | exact Nat.succ_pos _ | exact pl_ints _ | exact pl_txts _ | exact pl_nds _ | with_reducible refine tl_f ?_)
    exact b_false fun h => k3 h.2.2.1
  refine gcalls_of tbl_ok mixed Try.func117 rfl Try.ntmps117 (by kernel_rfl) (Nat.le_of_ble_eq_true rfl) rfl rfl trivial ?_
  conv => whnf
  refine ⟨([], _), in_t (by rw [hw]; exact k1), ?_⟩
  conv => whnf
  refine ⟨([], _), hk, ?_⟩
  conv => whnf
  refine ⟨([], _), in_t k3, ?_⟩
  conv => whnf
  refine ⟨fun k4 => ?_, fun k4 => ?_⟩
  · conv => whnf
    refine ⟨fun k5 => ?_, fun k5 => ?_⟩
    · conv => whnf
      refine ⟨[], [], ?_⟩
      (repeat' first | exact trivial | exact rfl | exact tl_pv rfl rfl rfl (List.cons_ne_nil _ _) | exact tl_ints rfl rfl rfl (by simp) | exact tl_txts rfl rfl rfl (by simp) | exact tl_nds rfl rfl rfl (by simp) | ((conv => whnf); first | exact trivial | exact rfl | exact .inr rfl | exact .inl ⟨rfl, rfl⟩ | apply And.intro) | refine tl_int ?_ | refine tl_bool ?_ | refine tl_str ?_ | refine tl_row rfl ?_ | exact cl_ints _ | exact cl_txts _ | exact cl_nds _ | exact cl_mp _ | exact Nat.succ_pos _ | exact pl_ints _ | exact pl_txts _ | exact pl_nds _ | with_reducible refine tl_f ?_)
      exact b_true ⟨k1, k2, k3, by omega, by simp at k5; omega⟩
    · conv => whnf
      refine ⟨[], [], ?_⟩
      (repeat' first | exact trivial | exact rfl | exact tl_pv rfl rfl rfl (List.cons_ne_nil _ _) | exact tl_ints rfl rfl rfl (by simp) | exact tl_txts rfl rfl rfl (by simp) | exact tl_nds rfl rfl rfl (by simp) | ((conv => whnf); first | exact trivial | exact rfl | exact .inr rfl | exact .inl ⟨rfl, rfl⟩ | apply And.intro) | refine tl_int ?_ | refine tl_bool ?_ | refine tl_str ?_ | refine tl_row rfl ?_ | exact cl_ints _ | exact cl_txts _ | exact cl_nds _ | exact cl_mp _ | exact Nat.succ_pos _ | exact pl_ints _ | exact pl_txts _ | exact pl_nds _ | with_reducible refine tl_f ?_)
      exact b_false fun h => k5 (by have := h.2.2.2.2; simp; omega)
  · conv => whnf
    refine ⟨[], [], ?_⟩
    (repeat' first | exact trivial | exact rfl | exact tl_pv rfl rfl rfl (List.cons_ne_nil _ _) | exact tl_ints rfl rfl rfl (by simp) | exact tl_txts rfl rfl rfl (by simp) | exact tl_nds rfl rfl rfl (by simp) | ((conv => whnf); first | exact trivial | exact rfl | exact .inr rfl | exact .inl ⟨rfl, rfl⟩ | apply And.intro) | refine tl_int ?_ | refine tl_bool ?_ | refine tl_str ?_ | refine tl_row rfl ?_ | exact cl_ints _ | exact cl_txts _ | exact cl_nds _ | exact cl_mp _ | exact Nat.succ_pos _ | exact pl_ints _ | exact pl_txts _ | exact pl_nds _ | with_reducible refine tl_f ?_)
    exact b_false fun h => k4 (by have := h.2.2.2.1; omega)
def parP (l : List Nd) (id : Int) : Int := ((l.find? (fun n => decide (id ∈ n.kids))).map (·.id)).getD 0
theorem parP_cons (n : Nd) (l : List Nd) (id : Int) : parP (n :: l) id = if id ∈ n.kids then n.id else parP l id := by
  unfold parP
  rw [List.find?_cons]
  by_cases h : id ∈ n.kids
  · simp [h]
  · simp [h]
theorem l02Parent_ok (d : Dc) (id : Int) (hlen : d.nodes.length < 2 ^ 62) (hks : ∀ n ∈ d.nodes, n.kids.length < 2 ^ 62) : FC Try.prog 118 [(true, dcL d), (false, [iL id])] [] [(false, [.f (iL (parP d.nodes id))])] := by
  refine gcalls_of tbl_ok mixed Try.func118 rfl Try.ntmps118 (by kernel_rfl) (Nat.le_of_ble_eq_true rfl) rfl rfl trivial ?_
  conv => whnf
  refine ⟨fun (m : Nat) (es : Es) (hs : Hs) => ∃ i : Nat, m + i = d.nodes.length ∧ parP (d.nodes.drop i) id = parP d.nodes id ∧ es = [(5, .val false [.f (iL i)]), (2, .val false [.pt 48 0 0]), (1, .val false [.f (iL id)])] ∧ hs = [(48, some ⟨3, 3, [(dcL d).map .f]⟩)],
    ⟨d.nodes.length, [], [], _, _, ⟨?_, ?_, ?_⟩, 0, rfl, rfl, rfl, rfl⟩, ?_⟩
  · rfl
  · (repeat' first | exact trivial | exact rfl | exact tl_pv rfl rfl rfl (List.cons_ne_nil _ _) | exact tl_ints rfl rfl rfl (by simp) | exact tl_txts rfl rfl rfl (by simp) | exact tl_nds rfl rfl rfl (by simp) | ((conv => whnf); first | exact trivial | exact rfl | exact .inr rfl | exact .inl ⟨rfl, rfl⟩ | apply And.intro) | refine tl_int ?_ | refine tl_bool ?_ | refine tl_str ?_ | refine tl_row rfl ?_ | exact cl_ints _ | exact cl_txts _ | exact cl_nds _ | exact cl_mp _ | exact Nat.succ_pos _ | exact pl_ints _ | exact pl_txts _ | exact pl_nds _ | with_reducible refine tl_f ?_)
  · (repeat' first | exact trivial | exact rfl | exact tl_pv rfl rfl rfl (List.cons_ne_nil _ _) | exact tl_ints rfl rfl rfl (by simp) | exact tl_txts rfl rfl rfl (by simp) | exact tl_nds rfl rfl rfl (by simp) | ((conv => whnf); first | exact trivial | exact rfl | exact .inr rfl | exact .inl ⟨rfl, rfl⟩ | apply And.intro) | refine tl_int ?_ | refine tl_bool ?_ | refine tl_str ?_ | refine tl_row rfl ?_ | exact cl_ints _ | exact cl_txts _ | exact cl_nds _ | exact cl_mp _ | exact Nat.succ_pos _ | exact pl_ints _ | exact pl_txts _ | exact pl_nds _ | with_reducible refine tl_f ?_)
  rintro m es hs ⟨i, hm, hp, rfl, rfl⟩
  conv => whnf
  refine ⟨fun h => ?_, fun h => ?_⟩
  · have hi : i < d.nodes.length := by simpa using h
    have hh := l02Has_ok d.nodes[i].kids id (hks _ (List.getElem_mem _))
    conv => whnf
    refine ⟨(i, ndL d.nodes[i]), ⟨rfl, by simp [hi]⟩, ?_⟩
    conv => whnf
    rw [List.drop_eq_getElem_cons hi] at hp
    by_cases k : id ∈ d.nodes[i].kids
    · rw [decide_eq_true k] at hh
      refine ⟨([], _), hh, ?_⟩
      conv => whnf
      refine ⟨(i, ndL d.nodes[i]), ⟨rfl, by simp [hi]⟩, ?_⟩
      conv => whnf
      refine ⟨[], [], ?_⟩
      (repeat' first | exact trivial | exact rfl | exact tl_pv rfl rfl rfl (List.cons_ne_nil _ _) | exact tl_ints rfl rfl rfl (by simp) | exact tl_txts rfl rfl rfl (by simp) | exact tl_nds rfl rfl rfl (by simp) | ((conv => whnf); first | exact trivial | exact rfl | exact .inr rfl | exact .inl ⟨rfl, rfl⟩ | apply And.intro) | refine tl_int ?_ | refine tl_bool ?_ | refine tl_str ?_ | refine tl_row rfl ?_ | exact cl_ints _ | exact cl_txts _ | exact cl_nds _ | exact cl_mp _ | exact Nat.succ_pos _ | exact pl_ints _ | exact pl_txts _ | exact pl_nds _ | with_reducible refine tl_f ?_)
      rw [← hp, parP_cons, if_pos k]
    · rw [decide_eq_false k] at hh
      refine ⟨([], _), hh, ?_⟩
      conv => whnf
      refine ⟨m - 1, [], [], [(5, .val false [.f (iL (i + 1 : Nat))]), (2, .val false [.pt 48 0 0]), (1, .val false [.f (iL id)])], [(48, some ⟨3, 3, [(dcL d).map .f]⟩)], by omega, ⟨?_, ?_, ?_⟩, i + 1, by omega, ?_, rfl, rfl⟩
      · rfl
      · (repeat' first | exact trivial | exact rfl | exact tl_pv rfl rfl rfl (List.cons_ne_nil _ _) | exact tl_ints rfl rfl rfl (by simp) | exact tl_txts rfl rfl rfl (by simp) | exact tl_nds rfl rfl rfl (by simp) | ((conv => whnf); first | exact trivial | exact rfl | exact .inr rfl | exact .inl ⟨rfl, rfl⟩ | apply And.intro) | refine tl_int ?_ | refine tl_bool ?_ | refine tl_str ?_ | refine tl_row rfl ?_ | exact cl_ints _ | exact cl_txts _ | exact cl_nds _ | exact cl_mp _ | exact Nat.succ_pos _ | exact pl_ints _ | exact pl_txts _ | exact pl_nds _ | with_reducible refine tl_f ?_)
        exact wrap_suc (by omega)
      · (repeat' first | exact trivial | exact rfl | exact tl_pv rfl rfl rfl (List.cons_ne_nil _ _) | exact tl_ints rfl rfl rfl (by simp) | exact tl_txts rfl rfl rfl (by simp) | exact tl_nds rfl rfl rfl (by simp) | ((conv => whnf); first | exact trivial | exact rfl | exact .inr rfl | exact .inl ⟨rfl, rfl⟩ | apply And.intro) | refine tl_int ?_ | refine tl_bool ?_ | refine tl_str ?_ | refine tl_row rfl ?_ | exact cl_ints _ | exact cl_txts _ | exact cl_nds _ | exact cl_mp _ | exact Nat.succ_pos _ | exact pl_ints _ | exact pl_txts _ | exact pl_nds _ | with_reducible refine tl_f ?_)
      · rw [← hp, parP_cons, if_neg k]
  · have hi : d.nodes.length ≤ i := by simpa using h
    conv => whnf
    refine ⟨[], [], ?_⟩
    (repeat' first | exact trivial | exact rfl | exact tl_pv rfl rfl rfl (List.cons_ne_nil _ _) | exact tl_ints rfl rfl rfl (by simp) | exact tl_txts rfl rfl rfl (by simp) | exact tl_nds rfl rfl rfl (by simp) | ((conv => whnf); first | exact trivial | exact rfl | exact .inr rfl | exact .inl ⟨rfl, rfl⟩ | apply And.intro) | refine tl_int ?_ | refine tl_bool ?_ | refine tl_str ?_ | refine tl_row rfl ?_ | exact cl_ints _ | exact cl_txts _ | exact cl_nds _ | exact cl_mp _ | exact Nat.succ_pos _ | exact pl_ints _ | exact pl_txts _ | exact pl_nds _ | with_reducible refine tl_f ?_)
    rw [← hp, List.drop_eq_nil_of_le hi]; rfl
def rch (l : List Nd) (root : Int) : Nat → Int → Bool
  | 0, x => x == root
  | f + 1, x => x == root || (decide (x > 0) && rch l root f (parP l x))
theorem l02Reach_ok (d : Dc) (hlen : d.nodes.length < 2 ^ 61) (hks : ∀ n ∈ d.nodes, n.kids.length < 2 ^ 62) : FC Try.prog 84 [(true, dcL d)] [] [(false, [.f (bL (d.nodes.all fun x => rch d.nodes d.root (d.nodes.length + 1) x.id))])] := by
  refine gcalls_of tbl_ok mixed Try.func84 rfl Try.ntmps84 (by kernel_rfl) (Nat.le_of_ble_eq_true rfl) rfl rfl trivial ?_
  conv => whnf
  refine ⟨fun (m : Nat) (es : Es) (hs : Hs) => ∃ i : Nat, m + i = d.nodes.length ∧ ((d.nodes.drop i).all fun x => rch d.nodes d.root (d.nodes.length + 1) x.id) = (d.nodes.all fun x => rch d.nodes d.root (d.nodes.length + 1) x.id) ∧ es = [(3, .val false [.f (iL i)]), (1, .val false [.pt 32 0 0])] ∧ hs = [(32, some ⟨3, 3, [(dcL d).map .f]⟩)],
    ⟨d.nodes.length, [], [], _, _, ⟨?_, ?_, ?_⟩, 0, rfl, rfl, rfl, rfl⟩, ?_⟩
  · rfl
  · (repeat' first | exact trivial | exact rfl | exact tl_pv rfl rfl rfl (List.cons_ne_nil _ _) | exact tl_ints rfl rfl rfl (by simp) | exact tl_txts rfl rfl rfl (by simp) | exact tl_nds rfl rfl rfl (by simp) | ((conv => whnf); first | exact trivial | exact rfl | exact .inr rfl | exact .inl ⟨rfl, rfl⟩ | apply And.intro) | refine tl_int ?_ | refine tl_bool ?_ | refine tl_str ?_ | refine tl_row rfl ?_ | exact cl_ints _ | exact cl_txts _ | exact cl_nds _ | exact cl_mp _ | exact Nat.succ_pos _ | exact pl_ints _ | exact pl_txts _ | exact pl_nds _ | with_reducible refine tl_f ?_)
  · (repeat' first | exact trivial | exact rfl | exact tl_pv rfl rfl rfl (List.cons_ne_nil _ _) | exact tl_ints rfl rfl rfl (by simp) | exact tl_txts rfl rfl rfl (by simp) | exact tl_nds rfl rfl rfl (by simp) | ((conv => whnf); first | exact trivial | exact rfl | exact .inr rfl | exact .inl ⟨rfl, rfl⟩ | apply And.intro) | refine tl_int ?_ | refine tl_bool ?_ | refine tl_str ?_ | refine tl_row rfl ?_ | exact cl_ints _ | exact cl_txts _ | exact cl_nds _ | exact cl_mp _ | exact Nat.succ_pos _ | exact pl_ints _ | exact pl_txts _ | exact pl_nds _ | with_reducible refine tl_f ?_)
  rintro m es hs ⟨i, hm, hp, rfl, rfl⟩
  conv => whnf
  refine ⟨fun h => ?_, fun h => ?_⟩
  · have hi : i < d.nodes.length := by simpa using h
    rw [List.drop_eq_getElem_cons hi, List.all_cons] at hp
    conv => whnf
    refine ⟨(i, ndL d.nodes[i]), ⟨rfl, by simp [hi]⟩, ?_⟩
    conv => whnf
    refine ⟨fun (m2 : Nat) (es : Es) (hs : Hs) => ∃ (s : Nat) (x : Int), m2 + s = d.nodes.length + 1 ∧ rch d.nodes d.root m2 x = rch d.nodes d.root (d.nodes.length + 1) d.nodes[i].id ∧ es = [(5, .val false [.f (iL s)]), (4, .val false [.f (iL x)]), (3, .val false [.f (iL i)]), (1, .val false [.pt 32 0 0])] ∧ hs = [(32, some ⟨3, 3, [(dcL d).map .f]⟩)],
      ⟨d.nodes.length + 1, [], [], _, _, ⟨?_, ?_, ?_⟩, 0, d.nodes[i].id, rfl, rfl, rfl, rfl⟩, ?_⟩
    · rfl
    · (repeat' first | exact trivial | exact rfl | exact tl_pv rfl rfl rfl (List.cons_ne_nil _ _) | exact tl_ints rfl rfl rfl (by simp) | exact tl_txts rfl rfl rfl (by simp) | exact tl_nds rfl rfl rfl (by simp) | ((conv => whnf); first | exact trivial | exact rfl | exact .inr rfl | exact .inl ⟨rfl, rfl⟩ | apply And.intro) | refine tl_int ?_ | refine tl_bool ?_ | refine tl_str ?_ | refine tl_row rfl ?_ | exact cl_ints _ | exact cl_txts _ | exact cl_nds _ | exact cl_mp _ | exact Nat.succ_pos _ | exact pl_ints _ | exact pl_txts _ | exact pl_nds _ | with_reducible refine tl_f ?_)
    · (repeat' first | exact trivial | exact rfl | exact tl_pv rfl rfl rfl (List.cons_ne_nil _ _) | exact tl_ints rfl rfl rfl (by simp) | exact tl_txts rfl rfl rfl (by simp) | exact tl_nds rfl rfl rfl (by simp) | ((conv => whnf); first | exact trivial | exact rfl | exact .inr rfl | exact .inl ⟨rfl, rfl⟩ | apply And.intro) | refine tl_int ?_ | refine tl_bool ?_ | refine tl_str ?_ | refine tl_row rfl ?_ | exact cl_ints _ | exact cl_txts _ | exact cl_nds _ | exact cl_mp _ | exact Nat.succ_pos _ | exact pl_ints _ | exact pl_txts _ | exact pl_nds _ | with_reducible refine tl_f ?_)
    rintro m2 es hs ⟨s, x, hm2, hx, rfl, rfl⟩
    have fin : x = d.root → rch d.nodes d.root (d.nodes.length + 1) d.nodes[i].id = true := fun e => by
      rw [← hx]
      cases m2 <;> simp [rch, e]
    conv => whnf
    refine ⟨fun h1 => ?_, fun h1 => ?_⟩
    · conv => whnf
      refine ⟨fun h2 => ?_, fun h2 => ?_⟩
      · conv => whnf
        refine ⟨fun h3 => ?_, fun h3 => ?_⟩
        · have hpar := l02Parent_ok d x (by omega) hks
          conv => whnf
          refine ⟨([], _), hpar, ?_⟩
          conv => whnf
          refine ⟨m2 - 1, [], [], [(5, .val false [.f (iL (s + 1 : Nat))]), (4, .val false [.f (iL (parP d.nodes x))]), (3, .val false [.f (iL i)]), (1, .val false [.pt 32 0 0])], [(32, some ⟨3, 3, [(dcL d).map .f]⟩)], ?_, ⟨?_, ?_, ?_⟩, s + 1, parP d.nodes x, ?_, ?_, rfl, rfl⟩
          · simp at h3; omega
          · rfl
          · (repeat' first | exact trivial | exact rfl | exact tl_pv rfl rfl rfl (List.cons_ne_nil _ _) | exact tl_ints rfl rfl rfl (by simp) | exact tl_txts rfl rfl rfl (by simp) | exact tl_nds rfl rfl rfl (by simp) | ((conv => whnf); first | exact trivial | exact rfl | exact .inr rfl | exact .inl ⟨rfl, rfl⟩ | apply And.intro) | refine tl_int ?_ | refine tl_bool ?_ | refine tl_str ?_ | refine tl_row rfl ?_ | exact cl_ints _ | exact cl_txts _ | exact cl_nds _ | exact cl_mp _ | exact Nat.succ_pos _ | exact pl_ints _ | exact pl_txts _ | exact pl_nds _ | with_reducible refine tl_f ?_)
            exact wrap_suc (by omega)
          · (repeat' first | exact trivial | exact rfl | exact tl_pv rfl rfl rfl (List.cons_ne_nil _ _) | exact tl_ints rfl rfl rfl (by simp) | exact tl_txts rfl rfl rfl (by simp) | exact tl_nds rfl rfl rfl (by simp) | ((conv => whnf); first | exact trivial | exact rfl | exact .inr rfl | exact .inl ⟨rfl, rfl⟩ | apply And.intro) | refine tl_int ?_ | refine tl_bool ?_ | refine tl_str ?_ | refine tl_row rfl ?_ | exact cl_ints _ | exact cl_txts _ | exact cl_nds _ | exact cl_mp _ | exact Nat.succ_pos _ | exact pl_ints _ | exact pl_txts _ | exact pl_nds _ | with_reducible refine tl_f ?_)
          · simp at h3; omega
          · rw [← hx]
            obtain ⟨k, rfl⟩ : ∃ k, m2 = k + 1 := ⟨m2 - 1, by simp at h3; omega⟩
            have e1 : (x == d.root) = false := by simpa using h1
            simp [rch, e1, h2]
        · have e0 : m2 = 0 := by simp at h3; omega
          have e1 : (x == d.root) = false := by simpa using h1
          have e2 : rch d.nodes d.root (d.nodes.length + 1) d.nodes[i].id = false := by rw [← hx, e0]; simp [rch, e1]
          conv => whnf
          refine ⟨fun h4 => ?_, fun h4 => absurd h1 h4⟩
          conv => whnf
          refine ⟨[], [], ?_⟩
          (repeat' first | exact trivial | exact rfl | exact tl_pv rfl rfl rfl (List.cons_ne_nil _ _) | exact tl_ints rfl rfl rfl (by simp) | exact tl_txts rfl rfl rfl (by simp) | exact tl_nds rfl rfl rfl (by simp) | ((conv => whnf); first | exact trivial | exact rfl | exact .inr rfl | exact .inl ⟨rfl, rfl⟩ | apply And.intro) | refine tl_int ?_ | refine tl_bool ?_ | refine tl_str ?_ | refine tl_row rfl ?_ | exact cl_ints _ | exact cl_txts _ | exact cl_nds _ | exact cl_mp _ | exact Nat.succ_pos _ | exact pl_ints _ | exact pl_txts _ | exact pl_nds _ | with_reducible refine tl_f ?_)
          rw [← hp, e2]; rfl
      · have e1 : (x == d.root) = false := by simpa using h1
        have e2 : rch d.nodes d.root (d.nodes.length + 1) d.nodes[i].id = false := by
          rw [← hx]
          cases m2 <;> simp [rch, e1, h2]
        conv => whnf
        refine ⟨fun h4 => ?_, fun h4 => absurd h1 h4⟩
        conv => whnf
        refine ⟨[], [], ?_⟩
        (repeat' first | exact trivial | exact rfl | exact tl_pv rfl rfl rfl (List.cons_ne_nil _ _) | exact tl_ints rfl rfl rfl (by simp) | exact tl_txts rfl rfl rfl (by simp) | exact tl_nds rfl rfl rfl (by simp) | ((conv => whnf); first | exact trivial | exact rfl | exact .inr rfl | exact .inl ⟨rfl, rfl⟩ | apply And.intro) | refine tl_int ?_ | refine tl_bool ?_ | refine tl_str ?_ | refine tl_row rfl ?_ | exact cl_ints _ | exact cl_txts _ | exact cl_nds _ | exact cl_mp _ | exact Nat.succ_pos _ | exact pl_ints _ | exact pl_txts _ | exact pl_nds _ | with_reducible refine tl_f ?_)
        rw [← hp, e2]; rfl
    · have e2 := fin (Classical.not_not.1 h1)
      conv => whnf
      refine ⟨fun h4 => absurd h4 h1, fun h4 => ?_⟩
      conv => whnf
      refine ⟨m - 1, [], [], [(3, .val false [.f (iL (i + 1 : Nat))]), (1, .val false [.pt 32 0 0])], [(32, some ⟨3, 3, [(dcL d).map .f]⟩)], by omega, ⟨?_, ?_, ?_⟩, i + 1, by omega, ?_, rfl, rfl⟩
      · rfl
      · (repeat' first | exact trivial | exact rfl | exact tl_pv rfl rfl rfl (List.cons_ne_nil _ _) | exact tl_ints rfl rfl rfl (by simp) | exact tl_txts rfl rfl rfl (by simp) | exact tl_nds rfl rfl rfl (by simp) | ((conv => whnf); first | exact trivial | exact rfl | exact .inr rfl | exact .inl ⟨rfl, rfl⟩ | apply And.intro) | refine tl_int ?_ | refine tl_bool ?_ | refine tl_str ?_ | refine tl_row rfl ?_ | exact cl_ints _ | exact cl_txts _ | exact cl_nds _ | exact cl_mp _ | exact Nat.succ_pos _ | exact pl_ints _ | exact pl_txts _ | exact pl_nds _ | with_reducible refine tl_f ?_)
        exact wrap_suc (by omega)
      · (repeat' first | exact trivial | exact rfl | exact tl_pv rfl rfl rfl (List.cons_ne_nil _ _) | exact tl_ints rfl rfl rfl (by simp) | exact tl_txts rfl rfl rfl (by simp) | exact tl_nds rfl rfl rfl (by simp) | ((conv => whnf); first | exact trivial | exact rfl | exact .inr rfl | exact .inl ⟨rfl, rfl⟩ | apply And.intro) | refine tl_int ?_ | refine tl_bool ?_ | refine tl_str ?_ | refine tl_row rfl ?_ | exact cl_ints _ | exact cl_txts _ | exact cl_nds _ | exact cl_mp _ | exact Nat.succ_pos _ | exact pl_ints _ | exact pl_txts _ | exact pl_nds _ | with_reducible refine tl_f ?_)
      · rw [← hp, e2]; rfl
  · have hi : d.nodes.length ≤ i := by simpa using h
    conv => whnf
    refine ⟨[], [], ?_⟩
    (repeat' first | exact trivial | exact rfl | exact tl_pv rfl rfl rfl (List.cons_ne_nil _ _) | exact tl_ints rfl rfl rfl (by simp) | exact tl_txts rfl rfl rfl (by simp) | exact tl_nds rfl rfl rfl (by simp) | ((conv => whnf); first | exact trivial | exact rfl | exact .inr rfl | exact .inl ⟨rfl, rfl⟩ | apply And.intro) | refine tl_int ?_ | refine tl_bool ?_ | refine tl_str ?_ | refine tl_row rfl ?_ | exact cl_ints _ | exact cl_txts _ | exact cl_nds _ | exact cl_mp _ | exact Nat.succ_pos _ | exact pl_ints _ | exact pl_txts _ | exact pl_nds _ | with_reducible refine tl_f ?_)
    rw [← hp, List.drop_eq_nil_of_le hi]; rfl
end Go.Proofs.Ytfafehhallbjiaa.Ac
set_option linter.unusedVariables false
set_option linter.unusedSimpArgs false
set_option maxRecDepth 20000
set_option maxHeartbeats 4000000
namespace Go.Proofs.Ytfafehhallbjiaa.Ac
open Go.RowKit
theorem atFrom_spec (id : Int) : ∀ (l : List Nd) (i : Nat), (ndAt l id = none → atFrom id i l = -1) ∧ (∀ n, ndAt l id = some n → ∃ j, ∃ h : j < l.length, atFrom id i l = ((i + j : Nat) : Int) ∧ l[j] = n)
  | [], i => ⟨fun _ => rfl, fun n h => by simp [ndAt] at h⟩
  | m :: l, i => by
    obtain ⟨h1, h2⟩ := atFrom_spec id l (i + 1)
    unfold ndAt at h1 h2 ⊢
    rw [List.find?_cons]
    by_cases e : m.id = id
    · have e' : (m.id == id) = true := by simpa using e
      rw [e']
      refine ⟨(fun h => by cases h), fun n h => ?_⟩
      cases h
      exact ⟨0, by simp, by simp [atFrom, e], rfl⟩
    · have e' : (m.id == id) = false := by simpa using e
      rw [e']
      refine ⟨fun h => by simp [atFrom, e, h1 h], fun n h => ?_⟩
      obtain ⟨j, hj, a1, a2⟩ := h2 n h
      exact ⟨j + 1, by simp; omega, by simp only [atFrom, e, if_false]; rw [a1]; omega, by simpa using a2⟩
theorem at_none {l : List Nd} {id : Int} (h : ndAt l id = none) : atFrom id 0 l = -1 := (atFrom_spec id l 0).1 h
theorem at_some {l : List Nd} {id : Int} {n : Nd} (h : ndAt l id = some n) : ∃ j, ∃ hj : j < l.length, atFrom id 0 l = (j : Int) ∧ l[j] = n := by
  obtain ⟨j, hj, a1, a2⟩ := (atFrom_spec id l 0).2 n h
  exact ⟨j, hj, by rw [a1, Nat.zero_add], a2⟩
theorem flatK_len : ∀ (l : List Nd), (∀ n ∈ l, n.kids.length ≤ 12) → (l.flatMap (·.kids)).length ≤ 12 * l.length
  | [], _ => by simp
  | n :: l, h => by
    have h1 := h n (by simp)
    have h2 := flatK_len l fun m hm => h m (by simp [hm])
    rw [List.flatMap_cons, List.length_append, List.length_cons]
    omega
theorem kidsTo_len {d : Dc} (c1 : d.nodes.length ≤ 40) {i : Nat} (hi : i < d.nodes.length) (hs : ∀ t (h : t < d.nodes.length), t ≤ i → StepOK d.next d.nodes t h) (j : Nat) : (kidsTo d.nodes i ++ d.nodes[i].kids.take j).length < 2 ^ 29 := by
  have h1 := flatK_len (d.nodes.take i) fun n hn => by
    obtain ⟨t, ht, rfl⟩ := List.mem_iff_getElem.1 hn
    rw [List.getElem_take]
    rw [List.length_take] at ht
    exact (hs t (by omega) (by omega)).1.2.2.2.2
  have h2 := (hs i hi (Nat.le_refl _)).1.2.2.2.2
  have h3 : (d.nodes.take i).length ≤ 40 := by rw [List.length_take]; omega
  unfold kidsTo
  rw [List.length_append, List.length_take]
  omega
def NODES (d : Dc) : Prop := (∀ i (h : i < d.nodes.length), StepOK d.next d.nodes i h) ∧ SetOK d.root d.nodes (kidsAll d.nodes) ∧ (kidsAll d.nodes).length + 1 = d.nodes.length ∧ (ndAt d.nodes d.root).isSome
noncomputable def nodesB (d : Dc) : Bool := @decide (NODES d) (Classical.propDecidable _)
theorem nodesB_iff {d : Dc} : nodesB d = true ↔ NODES d := by unfold nodesB; exact @decide_eq_true_iff _ (Classical.propDecidable _)
theorem nodesB_yes {d : Dc} (h : NODES d) : nodesB d = true := nodesB_iff.2 h
theorem nodesB_no {d : Dc} (h : ¬ NODES d) : nodesB d = false := by
  cases e : nodesB d with
  | false => rfl
  | true => exact absurd (nodesB_iff.1 e) h
theorem l02Nodes_ok (d : Dc) (h64 : Dc64 d) (c1 : d.nodes.length ≤ 40) (c2 : 2 ≤ d.next ∧ d.next ≤ 999999) : FC Try.prog 83 [(true, dcL d)] [] [(false, [.f (bL (nodesB d))])] := by
  have hlen' : ∀ i j : Nat, (h : i < d.nodes.length) → (∀ t (h : t < d.nodes.length), t ≤ i → StepOK d.next d.nodes t h) → (kidsTo d.nodes i ++ d.nodes[i].kids.take j).length < 2 ^ 29 := fun i j h hs => kidsTo_len c1 h hs j
  refine gcalls_of tbl_ok mixed Try.func83 rfl Try.ntmps83 (by kernel_rfl) (Nat.le_of_ble_eq_true rfl) rfl rfl trivial ?_
  conv => whnf
  refine ⟨fun (m : Nat) (es : Es) (hs : Hs) => ∃ i : Nat, m + i = d.nodes.length ∧ (∀ t (h : t < d.nodes.length), t < i → StepOK d.next d.nodes t h) ∧ SetOK d.root d.nodes (kidsTo d.nodes i) ∧ es = [(4, .val false [.f (iL i)]), (3, .val false [.row 128 0 (kidsTo d.nodes i).length]), (1, .val false [.pt 32 0 0])] ∧ hs = [(128, some ⟨0, 1, (kidsTo d.nodes i).map intW⟩), (32, some ⟨3, 3, [(dcL d).map .f]⟩)],
    ⟨d.nodes.length, [], [], _, _, ⟨?_, ?_, ?_⟩, 0, rfl, fun t h h' => by omega, ⟨by simp [kidsTo], fun k hk => by simp [kidsTo] at hk⟩, rfl, rfl⟩, ?_⟩
  · rfl
  · (repeat' first | exact trivial | exact rfl | exact tl_pv rfl rfl rfl (List.cons_ne_nil _ _) | exact tl_ints rfl rfl rfl (by simp) | exact tl_txts rfl rfl rfl (by simp) | exact tl_nds rfl rfl rfl (by simp) | ((conv => whnf); first | exact trivial | exact rfl | exact .inr rfl | exact .inl ⟨rfl, rfl⟩ | apply And.intro) | refine tl_int ?_ | refine tl_bool ?_ | refine tl_str ?_ | refine tl_row rfl ?_ | exact cl_ints _ | exact cl_txts _ | exact cl_nds _ | exact cl_mp _ | exact Nat.succ_pos _ | exact pl_ints _ | exact pl_txts _ | exact pl_nds _ | with_reducible refine tl_f ?_)
  · (repeat' first | exact trivial | exact rfl | exact tl_pv rfl rfl rfl (List.cons_ne_nil _ _) | exact tl_ints rfl rfl rfl (by simp) | exact tl_txts rfl rfl rfl (by simp) | exact tl_nds rfl rfl rfl (by simp) | ((conv => whnf); first | exact trivial | exact rfl | exact .inr rfl | exact .inl ⟨rfl, rfl⟩ | apply And.intro) | refine tl_int ?_ | refine tl_bool ?_ | refine tl_str ?_ | refine tl_row rfl ?_ | exact cl_ints _ | exact cl_txts _ | exact cl_nds _ | exact cl_mp _ | exact Nat.succ_pos _ | exact pl_ints _ | exact pl_txts _ | exact pl_nds _ | with_reducible refine tl_f ?_)
  rintro m es hs ⟨i, hm, hst, hset, rfl, rfl⟩
  conv => whnf
  refine ⟨fun h => ?_, fun h => ?_⟩
  · have hi : i < d.nodes.length := by simpa using h
    have hnode := l02Node_ok d.nodes[i] d.next (by unfold I64; omega)
    conv => whnf
    refine ⟨(i, ndL d.nodes[i]), ⟨rfl, by simp [hi]⟩, ?_⟩
    conv => whnf
    refine ⟨by kernel_rfl, ?_⟩
    conv => whnf
    by_cases k1 : NodeOK d.next d.nodes[i]
    rotate_left
    · rw [decide_eq_false k1] at hnode
      refine ⟨([], _), hnode, ?_⟩
      conv => whnf
      refine ⟨by kernel_rfl, ?_⟩
      conv => whnf
      refine ⟨[], [], ?_⟩
      (repeat' first | exact trivial | exact rfl | exact tl_pv rfl rfl rfl (List.cons_ne_nil _ _) | exact tl_ints rfl rfl rfl (by simp) | exact tl_txts rfl rfl rfl (by simp) | exact tl_nds rfl rfl rfl (by simp) | ((conv => whnf); first | exact trivial | exact rfl | exact .inr rfl | exact .inl ⟨rfl, rfl⟩ | apply And.intro) | refine tl_int ?_ | refine tl_bool ?_ | refine tl_str ?_ | refine tl_row rfl ?_ | exact cl_ints _ | exact cl_txts _ | exact cl_nds _ | exact cl_mp _ | exact Nat.succ_pos _ | exact pl_ints _ | exact pl_txts _ | exact pl_nds _ | with_reducible refine tl_f ?_)
      exact (nodesB_no fun h => k1 (h.1 i hi).1).symm
    rw [decide_eq_true k1] at hnode
    refine ⟨([], _), hnode, ?_⟩
    conv => whnf
    refine ⟨fun k0 => ?_, fun k0 => ?_⟩
    · have hi1 : i - 1 < d.nodes.length := by omega
      conv => whnf
      refine ⟨(i - 1, ndL d.nodes[i - 1]), ⟨?_, by simp [hi1]⟩, ?_⟩
      · rw [IntKind.wrap_i64]; omega
      conv => whnf
      refine ⟨fun k2 => ?_, fun k2 => ?_⟩
      · skip
        conv => whnf
        refine ⟨by kernel_rfl, ?_⟩
        conv => whnf
        refine ⟨[], [], ?_⟩
        (repeat' first | exact trivial | exact rfl | exact tl_pv rfl rfl rfl (List.cons_ne_nil _ _) | exact tl_ints rfl rfl rfl (by simp) | exact tl_txts rfl rfl rfl (by simp) | exact tl_nds rfl rfl rfl (by simp) | ((conv => whnf); first | exact trivial | exact rfl | exact .inr rfl | exact .inl ⟨rfl, rfl⟩ | apply And.intro) | refine tl_int ?_ | refine tl_bool ?_ | refine tl_str ?_ | refine tl_row rfl ?_ | exact cl_ints _ | exact cl_txts _ | exact cl_nds _ | exact cl_mp _ | exact Nat.succ_pos _ | exact pl_ints _ | exact pl_txts _ | exact pl_nds _ | with_reducible refine tl_f ?_)
        exact (nodesB_no fun h => by have := (h.1 i hi).2 (i - 1) (by omega); omega).symm
      have hstep : StepOK d.next d.nodes i hi := ⟨k1, fun j hj => prev_lt hj hi hi1 (by omega)⟩
      conv => whnf
      refine ⟨by kernel_rfl, ?_⟩
      have hks : d.nodes[i].kids.length ≤ 12 := hstep.1.2.2.2.2
      conv => whnf
      refine ⟨fun (m2 : Nat) (es : Es) (hs : Hs) => ∃ j : Nat, m2 + j = d.nodes[i].kids.length ∧ SetOK d.root d.nodes (kidsTo d.nodes i ++ d.nodes[i].kids.take j) ∧ es = [(6, .val false [.f (iL j)]), (5, .val false [.pt 96 0 0]), (4, .val false [.f (iL i)]), (3, .val false [.row 128 0 (kidsTo d.nodes i ++ d.nodes[i].kids.take j).length]), (1, .val false [.pt 32 0 0])] ∧ hs = [(128, some ⟨0, 1, (kidsTo d.nodes i ++ d.nodes[i].kids.take j).map intW⟩), (96, some ⟨3, 5, [(ndL d.nodes[i]).map .f]⟩), (32, some ⟨3, 3, [(dcL d).map .f]⟩)],
        ⟨d.nodes[i].kids.length, [], [], _, _, ⟨?_, ?_, ?_⟩, 0, rfl, by simpa using hset, rfl, rfl⟩, ?_⟩
      · rfl
      · (repeat' first | exact trivial | exact rfl | exact tl_pv rfl rfl rfl (List.cons_ne_nil _ _) | exact tl_ints rfl rfl rfl (by simp) | exact tl_txts rfl rfl rfl (by simp) | exact tl_nds rfl rfl rfl (by simp) | ((conv => whnf); first | exact trivial | exact rfl | exact .inr rfl | exact .inl ⟨rfl, rfl⟩ | apply And.intro) | refine tl_int ?_ | refine tl_bool ?_ | refine tl_str ?_ | refine tl_row rfl ?_ | exact cl_ints _ | exact cl_txts _ | exact cl_nds _ | exact cl_mp _ | exact Nat.succ_pos _ | exact pl_ints _ | exact pl_txts _ | exact pl_nds _ | with_reducible refine tl_f ?_)
        all_goals simp
      · (repeat' first | exact trivial | exact rfl | exact tl_pv rfl rfl rfl (List.cons_ne_nil _ _) | exact tl_ints rfl rfl rfl (by simp) | exact tl_txts rfl rfl rfl (by simp) | exact tl_nds rfl rfl rfl (by simp) | ((conv => whnf); first | exact trivial | exact rfl | exact .inr rfl | exact .inl ⟨rfl, rfl⟩ | apply And.intro) | refine tl_int ?_ | refine tl_bool ?_ | refine tl_str ?_ | refine tl_row rfl ?_ | exact cl_ints _ | exact cl_txts _ | exact cl_nds _ | exact cl_mp _ | exact Nat.succ_pos _ | exact pl_ints _ | exact pl_txts _ | exact pl_nds _ | with_reducible refine tl_f ?_)
        all_goals simp
      rintro m2 es hs ⟨j, hm2, hset2, rfl, rfl⟩
      conv => whnf
      refine ⟨fun h => ?_, fun h => ?_⟩
      · have hj : j < d.nodes[i].kids.length := by simpa using h
        obtain ⟨rest, hsp⟩ := kids_split hi hj
        have hacc : (kidsTo d.nodes i ++ d.nodes[i].kids.take j).length < 2 ^ 29 := hlen' i j hi fun t ht hle => (by
          by_cases e : t = i
          · subst e; exact hstep
          · exact hst t ht (by omega))
        have hh := l02Has_ok (kidsTo d.nodes i ++ d.nodes[i].kids.take j) d.nodes[i].kids[j] (by omega)
        have hat := l02At_ok d d.nodes[i].kids[j] (by omega)
        conv => whnf
        refine ⟨by kernel_rfl, ?_⟩
        conv => whnf
        refine ⟨(j, intE d.nodes[i].kids[j]), ⟨rfl, by simp [hj]⟩, ?_⟩
        conv => whnf
        refine ⟨fun q1 => ?_, fun q1 => ?_⟩
        · skip
          conv => whnf
          refine ⟨by kernel_rfl, ?_⟩
          conv => whnf
          refine ⟨[], [], ?_⟩
          (repeat' first | exact trivial | exact rfl | exact tl_pv rfl rfl rfl (List.cons_ne_nil _ _) | exact tl_ints rfl rfl rfl (by simp) | exact tl_txts rfl rfl rfl (by simp) | exact tl_nds rfl rfl rfl (by simp) | ((conv => whnf); first | exact trivial | exact rfl | exact .inr rfl | exact .inl ⟨rfl, rfl⟩ | apply And.intro) | refine tl_int ?_ | refine tl_bool ?_ | refine tl_str ?_ | refine tl_row rfl ?_ | exact cl_ints _ | exact cl_txts _ | exact cl_nds _ | exact cl_mp _ | exact Nat.succ_pos _ | exact pl_ints _ | exact pl_txts _ | exact pl_nds _ | with_reducible refine tl_f ?_)
          exact (nodesB_no fun h => (set_bad (hsp ▸ h.2.1)).2.1 q1).symm
        conv => whnf
        refine ⟨(j, intE d.nodes[i].kids[j]), ⟨rfl, by simp [hj]⟩, ?_⟩
        conv => whnf
        by_cases q2 : d.nodes[i].kids[j] ∈ kidsTo d.nodes i ++ d.nodes[i].kids.take j
        · rw [decide_eq_true q2] at hh
          refine ⟨⟨true, [], _, _, _, _⟩, hh, ?_⟩
          conv => whnf
          refine ⟨⟨?_, ?_, ?_⟩, ?_⟩
          · (repeat' first | exact trivial | exact rfl | exact tl_pv rfl rfl rfl (List.cons_ne_nil _ _) | exact tl_ints rfl rfl rfl (by simp) | exact tl_txts rfl rfl rfl (by simp) | exact tl_nds rfl rfl rfl (by simp) | ((conv => whnf); first | exact trivial | exact rfl | exact .inr rfl | exact .inl ⟨rfl, rfl⟩ | apply And.intro) | refine tl_int ?_ | refine tl_bool ?_ | refine tl_str ?_ | refine tl_row rfl ?_ | exact cl_ints _ | exact cl_txts _ | exact cl_nds _ | exact cl_mp _ | exact Nat.succ_pos _ | exact pl_ints _ | exact pl_txts _ | exact pl_nds _ | with_reducible refine tl_f ?_)
          · (repeat' first | exact trivial | exact rfl | exact tl_pv rfl rfl rfl (List.cons_ne_nil _ _) | exact tl_ints rfl rfl rfl (by simp) | exact tl_txts rfl rfl rfl (by simp) | exact tl_nds rfl rfl rfl (by simp) | ((conv => whnf); first | exact trivial | exact rfl | exact .inr rfl | exact .inl ⟨rfl, rfl⟩ | apply And.intro) | refine tl_int ?_ | refine tl_bool ?_ | refine tl_str ?_ | refine tl_row rfl ?_ | exact cl_ints _ | exact cl_txts _ | exact cl_nds _ | exact cl_mp _ | exact Nat.succ_pos _ | exact pl_ints _ | exact pl_txts _ | exact pl_nds _ | with_reducible refine tl_f ?_)
          · (repeat' first | exact trivial | exact rfl | exact tl_pv rfl rfl rfl (List.cons_ne_nil _ _) | exact tl_ints rfl rfl rfl (by simp) | exact tl_txts rfl rfl rfl (by simp) | exact tl_nds rfl rfl rfl (by simp) | ((conv => whnf); first | exact trivial | exact rfl | exact .inr rfl | exact .inl ⟨rfl, rfl⟩ | apply And.intro) | refine tl_int ?_ | refine tl_bool ?_ | refine tl_str ?_ | refine tl_row rfl ?_ | exact cl_ints _ | exact cl_txts _ | exact cl_nds _ | exact cl_mp _ | exact Nat.succ_pos _ | exact pl_ints _ | exact pl_txts _ | exact pl_nds _ | with_reducible refine tl_f ?_)
          conv => whnf
          refine ⟨by kernel_rfl, ?_⟩
          conv => whnf
          refine ⟨[], [], ?_⟩
          (repeat' first | exact trivial | exact rfl | exact tl_pv rfl rfl rfl (List.cons_ne_nil _ _) | exact tl_ints rfl rfl rfl (by simp) | exact tl_txts rfl rfl rfl (by simp) | exact tl_nds rfl rfl rfl (by simp) | ((conv => whnf); first | exact trivial | exact rfl | exact .inr rfl | exact .inl ⟨rfl, rfl⟩ | apply And.intro) | refine tl_int ?_ | refine tl_bool ?_ | refine tl_str ?_ | refine tl_row rfl ?_ | exact cl_ints _ | exact cl_txts _ | exact cl_nds _ | exact cl_mp _ | exact Nat.succ_pos _ | exact pl_ints _ | exact pl_txts _ | exact pl_nds _ | with_reducible refine tl_f ?_)
          exact (nodesB_no fun h => (set_bad (hsp ▸ h.2.1)).1 q2).symm
        rw [decide_eq_false q2] at hh
        refine ⟨⟨true, [], _, _, _, _⟩, hh, ?_⟩
        conv => whnf
        refine ⟨⟨?_, ?_, ?_⟩, ?_⟩
        · (repeat' first | exact trivial | exact rfl | exact tl_pv rfl rfl rfl (List.cons_ne_nil _ _) | exact tl_ints rfl rfl rfl (by simp) | exact tl_txts rfl rfl rfl (by simp) | exact tl_nds rfl rfl rfl (by simp) | ((conv => whnf); first | exact trivial | exact rfl | exact .inr rfl | exact .inl ⟨rfl, rfl⟩ | apply And.intro) | refine tl_int ?_ | refine tl_bool ?_ | refine tl_str ?_ | refine tl_row rfl ?_ | exact cl_ints _ | exact cl_txts _ | exact cl_nds _ | exact cl_mp _ | exact Nat.succ_pos _ | exact pl_ints _ | exact pl_txts _ | exact pl_nds _ | with_reducible refine tl_f ?_)
        · (repeat' first | exact trivial | exact rfl | exact tl_pv rfl rfl rfl (List.cons_ne_nil _ _) | exact tl_ints rfl rfl rfl (by simp) | exact tl_txts rfl rfl rfl (by simp) | exact tl_nds rfl rfl rfl (by simp) | ((conv => whnf); first | exact trivial | exact rfl | exact .inr rfl | exact .inl ⟨rfl, rfl⟩ | apply And.intro) | refine tl_int ?_ | refine tl_bool ?_ | refine tl_str ?_ | refine tl_row rfl ?_ | exact cl_ints _ | exact cl_txts _ | exact cl_nds _ | exact cl_mp _ | exact Nat.succ_pos _ | exact pl_ints _ | exact pl_txts _ | exact pl_nds _ | with_reducible refine tl_f ?_)
        · (repeat' first | exact trivial | exact rfl | exact tl_pv rfl rfl rfl (List.cons_ne_nil _ _) | exact tl_ints rfl rfl rfl (by simp) | exact tl_txts rfl rfl rfl (by simp) | exact tl_nds rfl rfl rfl (by simp) | ((conv => whnf); first | exact trivial | exact rfl | exact .inr rfl | exact .inl ⟨rfl, rfl⟩ | apply And.intro) | refine tl_int ?_ | refine tl_bool ?_ | refine tl_str ?_ | refine tl_row rfl ?_ | exact cl_ints _ | exact cl_txts _ | exact cl_nds _ | exact cl_mp _ | exact Nat.succ_pos _ | exact pl_ints _ | exact pl_txts _ | exact pl_nds _ | with_reducible refine tl_f ?_)
        conv => whnf
        refine ⟨(j, intE d.nodes[i].kids[j]), ⟨rfl, by simp [hj]⟩, ?_⟩
        conv => whnf
        refine ⟨([], _), hat, ?_⟩
        conv => whnf
        refine ⟨fun q3 => ?_, fun q3 => ?_⟩
        · skip
          conv => whnf
          refine ⟨by kernel_rfl, ?_⟩
          conv => whnf
          refine ⟨[], [], ?_⟩
          (repeat' first | exact trivial | exact rfl | exact tl_pv rfl rfl rfl (List.cons_ne_nil _ _) | exact tl_ints rfl rfl rfl (by simp) | exact tl_txts rfl rfl rfl (by simp) | exact tl_nds rfl rfl rfl (by simp) | ((conv => whnf); first | exact trivial | exact rfl | exact .inr rfl | exact .inl ⟨rfl, rfl⟩ | apply And.intro) | refine tl_int ?_ | refine tl_bool ?_ | refine tl_str ?_ | refine tl_row rfl ?_ | exact cl_ints _ | exact cl_txts _ | exact cl_nds _ | exact cl_mp _ | exact Nat.succ_pos _ | exact pl_ints _ | exact pl_txts _ | exact pl_nds _ | with_reducible refine tl_f ?_)
          exact (nodesB_no fun h => by obtain ⟨n, hn⟩ := Option.isSome_iff_exists.1 (set_bad (hsp ▸ h.2.1)).2.2; obtain ⟨x, hx, e1, _⟩ := at_some hn; rw [e1] at q3; omega).symm
        have q4 : (ndAt d.nodes d.nodes[i].kids[j]).isSome := by
          cases e : ndAt d.nodes d.nodes[i].kids[j] with
          | none => rw [at_none e] at q3; omega
          | some n => rfl
        conv => whnf
        refine ⟨by kernel_rfl, ?_⟩
        conv => whnf
        refine ⟨(j, intE d.nodes[i].kids[j]), ⟨rfl, by simp [hj]⟩, ?_⟩
        conv => whnf
        refine ⟨(kidsTo d.nodes i ++ d.nodes[i].kids.take j ++ [d.nodes[i].kids[j]]).map intW, ⟨app_one intW _ _, by simp only [List.length_map, List.length_append, List.length_singleton] at hacc ⊢; omega⟩, ?_⟩
        conv => whnf
        have hst2 : kidsTo d.nodes i ++ d.nodes[i].kids.take (j + 1) = kidsTo d.nodes i ++ d.nodes[i].kids.take j ++ [d.nodes[i].kids[j]] := by rw [List.take_succ_eq_append_getElem hj, List.append_assoc]
        refine ⟨m2 - 1, [], [(128, 1328)], [(6, .val false [.f (iL (j + 1 : Nat))]), (5, .val false [.pt 96 0 0]), (4, .val false [.f (iL i)]), (3, .val false [.row 128 0 (kidsTo d.nodes i ++ d.nodes[i].kids.take (j + 1)).length]), (1, .val false [.pt 32 0 0])], [(128, some ⟨0, 1, (kidsTo d.nodes i ++ d.nodes[i].kids.take (j + 1)).map intW⟩), (96, some ⟨3, 5, [(ndL d.nodes[i]).map .f]⟩), (32, some ⟨3, 3, [(dcL d).map .f]⟩)], by omega, ⟨?_, ?_, ?_⟩, j + 1, by omega, ?_, rfl, rfl⟩
        · rfl
        · (repeat' first | exact trivial | exact rfl | exact tl_pv rfl rfl rfl (List.cons_ne_nil _ _) | exact tl_ints rfl rfl rfl (by simp) | exact tl_txts rfl rfl rfl (by simp) | exact tl_nds rfl rfl rfl (by simp) | ((conv => whnf); first | exact trivial | exact rfl | exact .inr rfl | exact .inl ⟨rfl, rfl⟩ | apply And.intro) | refine tl_int ?_ | refine tl_bool ?_ | refine tl_str ?_ | refine tl_row rfl ?_ | exact cl_ints _ | exact cl_txts _ | exact cl_nds _ | exact cl_mp _ | exact Nat.succ_pos _ | exact pl_ints _ | exact pl_txts _ | exact pl_nds _ | with_reducible refine tl_f ?_)
          · exact wrap_suc (by omega)
          · rw [hst2]; simp
        · (repeat' first | exact trivial | exact rfl | exact tl_pv rfl rfl rfl (List.cons_ne_nil _ _) | exact tl_ints rfl rfl rfl (by simp) | exact tl_txts rfl rfl rfl (by simp) | exact tl_nds rfl rfl rfl (by simp) | ((conv => whnf); first | exact trivial | exact rfl | exact .inr rfl | exact .inl ⟨rfl, rfl⟩ | apply And.intro) | refine tl_int ?_ | refine tl_bool ?_ | refine tl_str ?_ | refine tl_row rfl ?_ | exact cl_ints _ | exact cl_txts _ | exact cl_nds _ | exact cl_mp _ | exact Nat.succ_pos _ | exact pl_ints _ | exact pl_txts _ | exact pl_nds _ | with_reducible refine tl_f ?_)
          dsimp only
          rw [hst2]
        · rw [hst2]; exact set_step hset2 q2 q1 q4
      · have hj : d.nodes[i].kids.length ≤ j := by simpa using h
        have hks2 : kidsTo d.nodes i ++ d.nodes[i].kids.take j = kidsTo d.nodes (i + 1) := by rw [kidsTo_step hi, List.take_of_length_le hj]
        rw [hks2] at hset2 ⊢
        conv => whnf
        refine ⟨m - 1, [], [], [(4, .val false [.f (iL (i + 1 : Nat))]), (3, .val false [.row 128 0 (kidsTo d.nodes (i + 1)).length]), (1, .val false [.pt 32 0 0])], [(128, some ⟨0, 1, (kidsTo d.nodes (i + 1)).map intW⟩), (32, some ⟨3, 3, [(dcL d).map .f]⟩)], by omega, ⟨?_, ?_, ?_⟩, i + 1, by omega, ?_, hset2, rfl, rfl⟩
        · rfl
        · (repeat' first | exact trivial | exact rfl | exact tl_pv rfl rfl rfl (List.cons_ne_nil _ _) | exact tl_ints rfl rfl rfl (by simp) | exact tl_txts rfl rfl rfl (by simp) | exact tl_nds rfl rfl rfl (by simp) | ((conv => whnf); first | exact trivial | exact rfl | exact .inr rfl | exact .inl ⟨rfl, rfl⟩ | apply And.intro) | refine tl_int ?_ | refine tl_bool ?_ | refine tl_str ?_ | refine tl_row rfl ?_ | exact cl_ints _ | exact cl_txts _ | exact cl_nds _ | exact cl_mp _ | exact Nat.succ_pos _ | exact pl_ints _ | exact pl_txts _ | exact pl_nds _ | with_reducible refine tl_f ?_)
          exact wrap_suc (by omega)
        · (repeat' first | exact trivial | exact rfl | exact tl_pv rfl rfl rfl (List.cons_ne_nil _ _) | exact tl_ints rfl rfl rfl (by simp) | exact tl_txts rfl rfl rfl (by simp) | exact tl_nds rfl rfl rfl (by simp) | ((conv => whnf); first | exact trivial | exact rfl | exact .inr rfl | exact .inl ⟨rfl, rfl⟩ | apply And.intro) | refine tl_int ?_ | refine tl_bool ?_ | refine tl_str ?_ | refine tl_row rfl ?_ | exact cl_ints _ | exact cl_txts _ | exact cl_nds _ | exact cl_mp _ | exact Nat.succ_pos _ | exact pl_ints _ | exact pl_txts _ | exact pl_nds _ | with_reducible refine tl_f ?_)
        · intro t ht hlt
          by_cases e : t = i
          · subst e; exact hstep
          · exact hst t ht (by omega)
    · have hstep : StepOK d.next d.nodes i hi := ⟨k1, fun j hj => by omega⟩
      conv => whnf
      refine ⟨by kernel_rfl, ?_⟩
      have hks : d.nodes[i].kids.length ≤ 12 := hstep.1.2.2.2.2
      conv => whnf
      refine ⟨fun (m2 : Nat) (es : Es) (hs : Hs) => ∃ j : Nat, m2 + j = d.nodes[i].kids.length ∧ SetOK d.root d.nodes (kidsTo d.nodes i ++ d.nodes[i].kids.take j) ∧ es = [(6, .val false [.f (iL j)]), (5, .val false [.pt 96 0 0]), (4, .val false [.f (iL i)]), (3, .val false [.row 128 0 (kidsTo d.nodes i ++ d.nodes[i].kids.take j).length]), (1, .val false [.pt 32 0 0])] ∧ hs = [(128, some ⟨0, 1, (kidsTo d.nodes i ++ d.nodes[i].kids.take j).map intW⟩), (96, some ⟨3, 5, [(ndL d.nodes[i]).map .f]⟩), (32, some ⟨3, 3, [(dcL d).map .f]⟩)],
        ⟨d.nodes[i].kids.length, [], [], _, _, ⟨?_, ?_, ?_⟩, 0, rfl, by simpa using hset, rfl, rfl⟩, ?_⟩
      · rfl
      · (repeat' first | exact trivial | exact rfl | exact tl_pv rfl rfl rfl (List.cons_ne_nil _ _) | exact tl_ints rfl rfl rfl (by simp) | exact tl_txts rfl rfl rfl (by simp) | exact tl_nds rfl rfl rfl (by simp) | ((conv => whnf); first | exact trivial | exact rfl | exact .inr rfl | exact .inl ⟨rfl, rfl⟩ | apply And.intro) | refine tl_int ?_ | refine tl_bool ?_ | refine tl_str ?_ | refine tl_row rfl ?_ | exact cl_ints _ | exact cl_txts _ | exact cl_nds _ | exact cl_mp _ | exact Nat.succ_pos _ | exact pl_ints _ | exact pl_txts _ | exact pl_nds _ | with_reducible refine tl_f ?_)
        all_goals simp
      · (repeat' first | exact trivial | exact rfl | exact tl_pv rfl rfl rfl (List.cons_ne_nil _ _) | exact tl_ints rfl rfl rfl (by simp) | exact tl_txts rfl rfl rfl (by simp) | exact tl_nds rfl rfl rfl (by simp) | ((conv => whnf); first | exact trivial | exact rfl | exact .inr rfl | exact .inl ⟨rfl, rfl⟩ | apply And.intro) | refine tl_int ?_ | refine tl_bool ?_ | refine tl_str ?_ | refine tl_row rfl ?_ | exact cl_ints _ | exact cl_txts _ | exact cl_nds _ | exact cl_mp _ | exact Nat.succ_pos _ | exact pl_ints _ | exact pl_txts _ | exact pl_nds _ | with_reducible refine tl_f ?_)
        all_goals simp
      rintro m2 es hs ⟨j, hm2, hset2, rfl, rfl⟩
      conv => whnf
      refine ⟨fun h => ?_, fun h => ?_⟩
      · have hj : j < d.nodes[i].kids.length := by simpa using h
        obtain ⟨rest, hsp⟩ := kids_split hi hj
        have hacc : (kidsTo d.nodes i ++ d.nodes[i].kids.take j).length < 2 ^ 29 := hlen' i j hi fun t ht hle => (by
          by_cases e : t = i
          · subst e; exact hstep
          · exact hst t ht (by omega))
        have hh := l02Has_ok (kidsTo d.nodes i ++ d.nodes[i].kids.take j) d.nodes[i].kids[j] (by omega)
        have hat := l02At_ok d d.nodes[i].kids[j] (by omega)
        conv => whnf
        refine ⟨by kernel_rfl, ?_⟩
        conv => whnf
        refine ⟨(j, intE d.nodes[i].kids[j]), ⟨rfl, by simp [hj]⟩, ?_⟩
        conv => whnf
        refine ⟨fun q1 => ?_, fun q1 => ?_⟩
        · skip
          conv => whnf
          refine ⟨by kernel_rfl, ?_⟩
          conv => whnf
          refine ⟨[], [], ?_⟩
          (repeat' first | exact trivial | exact rfl | exact tl_pv rfl rfl rfl (List.cons_ne_nil _ _) | exact tl_ints rfl rfl rfl (by simp) | exact tl_txts rfl rfl rfl (by simp) | exact tl_nds rfl rfl rfl (by simp) | ((conv => whnf); first | exact trivial | exact rfl | exact .inr rfl | exact .inl ⟨rfl, rfl⟩ | apply And.intro) | refine tl_int ?_ | refine tl_bool ?_ | refine tl_str ?_ | refine tl_row rfl ?_ | exact cl_ints _ | exact cl_txts _ | exact cl_nds _ | exact cl_mp _ | exact Nat.succ_pos _ | exact pl_ints _ | exact pl_txts _ | exact pl_nds _ | with_reducible refine tl_f ?_)
          exact (nodesB_no fun h => (set_bad (hsp ▸ h.2.1)).2.1 q1).symm
        conv => whnf
        refine ⟨(j, intE d.nodes[i].kids[j]), ⟨rfl, by simp [hj]⟩, ?_⟩
        conv => whnf
        by_cases q2 : d.nodes[i].kids[j] ∈ kidsTo d.nodes i ++ d.nodes[i].kids.take j
        · rw [decide_eq_true q2] at hh
          refine ⟨⟨true, [], _, _, _, _⟩, hh, ?_⟩
          conv => whnf
          refine ⟨⟨?_, ?_, ?_⟩, ?_⟩
          · (repeat' first | exact trivial | exact rfl | exact tl_pv rfl rfl rfl (List.cons_ne_nil _ _) | exact tl_ints rfl rfl rfl (by simp) | exact tl_txts rfl rfl rfl (by simp) | exact tl_nds rfl rfl rfl (by simp) | ((conv => whnf); first | exact trivial | exact rfl | exact .inr rfl | exact .inl ⟨rfl, rfl⟩ | apply And.intro) | refine tl_int ?_ | refine tl_bool ?_ | refine tl_str ?_ | refine tl_row rfl ?_ | exact cl_ints _ | exact cl_txts _ | exact cl_nds _ | exact cl_mp _ | exact Nat.succ_pos _ | exact pl_ints _ | exact pl_txts _ | exact pl_nds _ | with_reducible refine tl_f ?_)
          · (repeat' first | exact trivial | exact rfl | exact tl_pv rfl rfl rfl (List.cons_ne_nil _ _) | exact tl_ints rfl rfl rfl (by simp) | exact tl_txts rfl rfl rfl (by simp) | exact tl_nds rfl rfl rfl (by simp) | ((conv => whnf); first | exact trivial | exact rfl | exact .inr rfl | exact .inl ⟨rfl, rfl⟩ | apply And.intro) | refine tl_int ?_ | refine tl_bool ?_ | refine tl_str ?_ | refine tl_row rfl ?_ | exact cl_ints _ | exact cl_txts _ | exact cl_nds _ | exact cl_mp _ | exact Nat.succ_pos _ | exact pl_ints _ | exact pl_txts _ | exact pl_nds _ | with_reducible refine tl_f ?_)
          · (repeat' first | exact trivial | exact rfl | exact tl_pv rfl rfl rfl (List.cons_ne_nil _ _) | exact tl_ints rfl rfl rfl (by simp) | exact tl_txts rfl rfl rfl (by simp) | exact tl_nds rfl rfl rfl (by simp) | ((conv => whnf); first | exact trivial | exact rfl | exact .inr rfl | exact .inl ⟨rfl, rfl⟩ | apply And.intro) | refine tl_int ?_ | refine tl_bool ?_ | refine tl_str ?_ | refine tl_row rfl ?_ | exact cl_ints _ | exact cl_txts _ | exact cl_nds _ | exact cl_mp _ | exact Nat.succ_pos _ | exact pl_ints _ | exact pl_txts _ | exact pl_nds _ | with_reducible refine tl_f ?_)
          conv => whnf
          refine ⟨by kernel_rfl, ?_⟩
          conv => whnf
          refine ⟨[], [], ?_⟩
          (repeat' first | exact trivial | exact rfl | exact tl_pv rfl rfl rfl (List.cons_ne_nil _ _) | exact tl_ints rfl rfl rfl (by simp) | exact tl_txts rfl rfl rfl (by simp) | exact tl_nds rfl rfl rfl (by simp) | ((conv => whnf); first | exact trivial | exact rfl | exact .inr rfl | exact .inl ⟨rfl, rfl⟩ | apply And.intro) | refine tl_int ?_ | refine tl_bool ?_ | refine tl_str ?_ | refine tl_row rfl ?_ | exact cl_ints _ | exact cl_txts _ | exact cl_nds _ | exact cl_mp _ | exact Nat.succ_pos _ | exact pl_ints _ | exact pl_txts _ | exact pl_nds _ | with_reducible refine tl_f ?_)
          exact (nodesB_no fun h => (set_bad (hsp ▸ h.2.1)).1 q2).symm
        rw [decide_eq_false q2] at hh
        refine ⟨⟨true, [], _, _, _, _⟩, hh, ?_⟩
        conv => whnf
        refine ⟨⟨?_, ?_, ?_⟩, ?_⟩
        · (repeat' first | exact trivial | exact rfl | exact tl_pv rfl rfl rfl (List.cons_ne_nil _ _) | exact tl_ints rfl rfl rfl (by simp) | exact tl_txts rfl rfl rfl (by simp) | exact tl_nds rfl rfl rfl (by simp) | ((conv => whnf); first | exact trivial | exact rfl | exact .inr rfl | exact .inl ⟨rfl, rfl⟩ | apply And.intro) | refine tl_int ?_ | refine tl_bool ?_ | refine tl_str ?_ | refine tl_row rfl ?_ | exact cl_ints _ | exact cl_txts _ | exact cl_nds _ | exact cl_mp _ | exact Nat.succ_pos _ | exact pl_ints _ | exact pl_txts _ | exact pl_nds _ | with_reducible refine tl_f ?_)
        · (repeat' first | exact trivial | exact rfl | exact tl_pv rfl rfl rfl (List.cons_ne_nil _ _) | exact tl_ints rfl rfl rfl (by simp) | exact tl_txts rfl rfl rfl (by simp) | exact tl_nds rfl rfl rfl (by simp) | ((conv => whnf); first | exact trivial | exact rfl | exact .inr rfl | exact .inl ⟨rfl, rfl⟩ | apply And.intro) | refine tl_int ?_ | refine tl_bool ?_ | refine tl_str ?_ | refine tl_row rfl ?_ | exact cl_ints _ | exact cl_txts _ | exact cl_nds _ | exact cl_mp _ | exact Nat.succ_pos _ | exact pl_ints _ | exact pl_txts _ | exact pl_nds _ | with_reducible refine tl_f ?_)
        · (repeat' first | exact trivial | exact rfl | exact tl_pv rfl rfl rfl (List.cons_ne_nil _ _) | exact tl_ints rfl rfl rfl (by simp) | exact tl_txts rfl rfl rfl (by simp) | exact tl_nds rfl rfl rfl (by simp) | ((conv => whnf); first | exact trivial | exact rfl | exact .inr rfl | exact .inl ⟨rfl, rfl⟩ | apply And.intro) | refine tl_int ?_ | refine tl_bool ?_ | refine tl_str ?_ | refine tl_row rfl ?_ | exact cl_ints _ | exact cl_txts _ | exact cl_nds _ | exact cl_mp _ | exact Nat.succ_pos _ | exact pl_ints _ | exact pl_txts _ | exact pl_nds _ | with_reducible refine tl_f ?_)
        conv => whnf
        refine ⟨(j, intE d.nodes[i].kids[j]), ⟨rfl, by simp [hj]⟩, ?_⟩
        conv => whnf
        refine ⟨([], _), hat, ?_⟩
        conv => whnf
        refine ⟨fun q3 => ?_, fun q3 => ?_⟩
        · skip
          conv => whnf
          refine ⟨by kernel_rfl, ?_⟩
          conv => whnf
          refine ⟨[], [], ?_⟩
          (repeat' first | exact trivial | exact rfl | exact tl_pv rfl rfl rfl (List.cons_ne_nil _ _) | exact tl_ints rfl rfl rfl (by simp) | exact tl_txts rfl rfl rfl (by simp) | exact tl_nds rfl rfl rfl (by simp) | ((conv => whnf); first | exact trivial | exact rfl | exact .inr rfl | exact .inl ⟨rfl, rfl⟩ | apply And.intro) | refine tl_int ?_ | refine tl_bool ?_ | refine tl_str ?_ | refine tl_row rfl ?_ | exact cl_ints _ | exact cl_txts _ | exact cl_nds _ | exact cl_mp _ | exact Nat.succ_pos _ | exact pl_ints _ | exact pl_txts _ | exact pl_nds _ | with_reducible refine tl_f ?_)
          exact (nodesB_no fun h => by obtain ⟨n, hn⟩ := Option.isSome_iff_exists.1 (set_bad (hsp ▸ h.2.1)).2.2; obtain ⟨x, hx, e1, _⟩ := at_some hn; rw [e1] at q3; omega).symm
        have q4 : (ndAt d.nodes d.nodes[i].kids[j]).isSome := by
          cases e : ndAt d.nodes d.nodes[i].kids[j] with
          | none => rw [at_none e] at q3; omega
          | some n => rfl
        conv => whnf
        refine ⟨by kernel_rfl, ?_⟩
        conv => whnf
        refine ⟨(j, intE d.nodes[i].kids[j]), ⟨rfl, by simp [hj]⟩, ?_⟩
        conv => whnf
        refine ⟨(kidsTo d.nodes i ++ d.nodes[i].kids.take j ++ [d.nodes[i].kids[j]]).map intW, ⟨app_one intW _ _, by simp only [List.length_map, List.length_append, List.length_singleton] at hacc ⊢; omega⟩, ?_⟩
        conv => whnf
        have hst2 : kidsTo d.nodes i ++ d.nodes[i].kids.take (j + 1) = kidsTo d.nodes i ++ d.nodes[i].kids.take j ++ [d.nodes[i].kids[j]] := by rw [List.take_succ_eq_append_getElem hj, List.append_assoc]
        refine ⟨m2 - 1, [], [(128, 1328)], [(6, .val false [.f (iL (j + 1 : Nat))]), (5, .val false [.pt 96 0 0]), (4, .val false [.f (iL i)]), (3, .val false [.row 128 0 (kidsTo d.nodes i ++ d.nodes[i].kids.take (j + 1)).length]), (1, .val false [.pt 32 0 0])], [(128, some ⟨0, 1, (kidsTo d.nodes i ++ d.nodes[i].kids.take (j + 1)).map intW⟩), (96, some ⟨3, 5, [(ndL d.nodes[i]).map .f]⟩), (32, some ⟨3, 3, [(dcL d).map .f]⟩)], by omega, ⟨?_, ?_, ?_⟩, j + 1, by omega, ?_, rfl, rfl⟩
        · rfl
        · (repeat' first | exact trivial | exact rfl | exact tl_pv rfl rfl rfl (List.cons_ne_nil _ _) | exact tl_ints rfl rfl rfl (by simp) | exact tl_txts rfl rfl rfl (by simp) | exact tl_nds rfl rfl rfl (by simp) | ((conv => whnf); first | exact trivial | exact rfl | exact .inr rfl | exact .inl ⟨rfl, rfl⟩ | apply And.intro) | refine tl_int ?_ | refine tl_bool ?_ | refine tl_str ?_ | refine tl_row rfl ?_ | exact cl_ints _ | exact cl_txts _ | exact cl_nds _ | exact cl_mp _ | exact Nat.succ_pos _ | exact pl_ints _ | exact pl_txts _ | exact pl_nds _ | with_reducible refine tl_f ?_)
          · exact wrap_suc (by omega)
          · rw [hst2]; simp
        · (repeat' first | exact trivial | exact rfl | exact tl_pv rfl rfl rfl (List.cons_ne_nil _ _) | exact tl_ints rfl rfl rfl (by simp) | exact tl_txts rfl rfl rfl (by simp) | exact tl_nds rfl rfl rfl (by simp) | ((conv => whnf); first | exact trivial | exact rfl | exact .inr rfl | exact .inl ⟨rfl, rfl⟩ | apply And.intro) | refine tl_int ?_ | refine tl_bool ?_ | refine tl_str ?_ | refine tl_row rfl ?_ | exact cl_ints _ | exact cl_txts _ | exact cl_nds _ | exact cl_mp _ | exact Nat.succ_pos _ | exact pl_ints _ | exact pl_txts _ | exact pl_nds _ | with_reducible refine tl_f ?_)
          dsimp only
          rw [hst2]
        · rw [hst2]; exact set_step hset2 q2 q1 q4
      · have hj : d.nodes[i].kids.length ≤ j := by simpa using h
        have hks2 : kidsTo d.nodes i ++ d.nodes[i].kids.take j = kidsTo d.nodes (i + 1) := by rw [kidsTo_step hi, List.take_of_length_le hj]
        rw [hks2] at hset2 ⊢
        conv => whnf
        refine ⟨m - 1, [], [], [(4, .val false [.f (iL (i + 1 : Nat))]), (3, .val false [.row 128 0 (kidsTo d.nodes (i + 1)).length]), (1, .val false [.pt 32 0 0])], [(128, some ⟨0, 1, (kidsTo d.nodes (i + 1)).map intW⟩), (32, some ⟨3, 3, [(dcL d).map .f]⟩)], by omega, ⟨?_, ?_, ?_⟩, i + 1, by omega, ?_, hset2, rfl, rfl⟩
        · rfl
        · (repeat' first | exact trivial | exact rfl | exact tl_pv rfl rfl rfl (List.cons_ne_nil _ _) | exact tl_ints rfl rfl rfl (by simp) | exact tl_txts rfl rfl rfl (by simp) | exact tl_nds rfl rfl rfl (by simp) | ((conv => whnf); first | exact trivial | exact rfl | exact .inr rfl | exact .inl ⟨rfl, rfl⟩ | apply And.intro) | refine tl_int ?_ | refine tl_bool ?_ | refine tl_str ?_ | refine tl_row rfl ?_ | exact cl_ints _ | exact cl_txts _ | exact cl_nds _ | exact cl_mp _ | exact Nat.succ_pos _ | exact pl_ints _ | exact pl_txts _ | exact pl_nds _ | with_reducible refine tl_f ?_)
          exact wrap_suc (by omega)
        · (repeat' first | exact trivial | exact rfl | exact tl_pv rfl rfl rfl (List.cons_ne_nil _ _) | exact tl_ints rfl rfl rfl (by simp) | exact tl_txts rfl rfl rfl (by simp) | exact tl_nds rfl rfl rfl (by simp) | ((conv => whnf); first | exact trivial | exact rfl | exact .inr rfl | exact .inl ⟨rfl, rfl⟩ | apply And.intro) | refine tl_int ?_ | refine tl_bool ?_ | refine tl_str ?_ | refine tl_row rfl ?_ | exact cl_ints _ | exact cl_txts _ | exact cl_nds _ | exact cl_mp _ | exact Nat.succ_pos _ | exact pl_ints _ | exact pl_txts _ | exact pl_nds _ | with_reducible refine tl_f ?_)
        · intro t ht hlt
          by_cases e : t = i
          · subst e; exact hstep
          · exact hst t ht (by omega)
  · have hi : d.nodes.length ≤ i := by simpa using h
    have hst' : ∀ t (h : t < d.nodes.length), StepOK d.next d.nodes t h := fun t h => hst t h (by omega)
    have hi' : i = d.nodes.length := by omega
    have hset' : SetOK d.root d.nodes (kidsAll d.nodes) := by rw [← kidsTo_all, ← hi']; exact hset
    have hat := l02At_ok d d.root (by omega)
    have hw : IntKind.i64.wrap (((d.nodes.map ndL).length : Int) - 1) = (d.nodes.length : Int) - 1 := by rw [IntKind.wrap_i64]; simp; omega
    have hk : kidsTo d.nodes i = kidsAll d.nodes := by rw [hi']; exact kidsTo_all _
    conv => whnf
    rw [hw, hk]
    refine ⟨fun k1 => ?_, fun k1 => ?_⟩
    · conv => whnf
      refine ⟨([], _), hat, ?_⟩
      conv => whnf
      refine ⟨fun k2 => ?_, fun k2 => ?_⟩
      · conv => whnf
        refine ⟨[], [], ?_⟩
        (repeat' first | exact trivial | exact rfl | exact tl_pv rfl rfl rfl (List.cons_ne_nil _ _) | exact tl_ints rfl rfl rfl (by simp) | exact tl_txts rfl rfl rfl (by simp) | exact tl_nds rfl rfl rfl (by simp) | ((conv => whnf); first | exact trivial | exact rfl | exact .inr rfl | exact .inl ⟨rfl, rfl⟩ | apply And.intro) | refine tl_int ?_ | refine tl_bool ?_ | refine tl_str ?_ | refine tl_row rfl ?_ | exact cl_ints _ | exact cl_txts _ | exact cl_nds _ | exact cl_mp _ | exact Nat.succ_pos _ | exact pl_ints _ | exact pl_txts _ | exact pl_nds _ | with_reducible refine tl_f ?_)
        refine (nodesB_yes ⟨hst', hset', by omega, ?_⟩).symm
        cases e : ndAt d.nodes d.root with
        | none => rw [at_none e] at k2; omega
        | some n => rfl
      · conv => whnf
        refine ⟨[], [], ?_⟩
        (repeat' first | exact trivial | exact rfl | exact tl_pv rfl rfl rfl (List.cons_ne_nil _ _) | exact tl_ints rfl rfl rfl (by simp) | exact tl_txts rfl rfl rfl (by simp) | exact tl_nds rfl rfl rfl (by simp) | ((conv => whnf); first | exact trivial | exact rfl | exact .inr rfl | exact .inl ⟨rfl, rfl⟩ | apply And.intro) | refine tl_int ?_ | refine tl_bool ?_ | refine tl_str ?_ | refine tl_row rfl ?_ | exact cl_ints _ | exact cl_txts _ | exact cl_nds _ | exact cl_mp _ | exact Nat.succ_pos _ | exact pl_ints _ | exact pl_txts _ | exact pl_nds _ | with_reducible refine tl_f ?_)
        refine (nodesB_no fun h => k2 ?_).symm
        obtain ⟨n, hn⟩ := Option.isSome_iff_exists.1 h.2.2.2
        obtain ⟨x, hx, e1, _⟩ := at_some hn
        rw [e1]; omega
    · conv => whnf
      refine ⟨[], [], ?_⟩
      (repeat' first | exact trivial | exact rfl | exact tl_pv rfl rfl rfl (List.cons_ne_nil _ _) | exact tl_ints rfl rfl rfl (by simp) | exact tl_txts rfl rfl rfl (by simp) | exact tl_nds rfl rfl rfl (by simp) | ((conv => whnf); first | exact trivial | exact rfl | exact .inr rfl | exact .inl ⟨rfl, rfl⟩ | apply And.intro) | refine tl_int ?_ | refine tl_bool ?_ | refine tl_str ?_ | refine tl_row rfl ?_ | exact cl_ints _ | exact cl_txts _ | exact cl_nds _ | exact cl_mp _ | exact Nat.succ_pos _ | exact pl_ints _ | exact pl_txts _ | exact pl_nds _ | with_reducible refine tl_f ?_)
      exact (nodesB_no fun h => k1 (by have := h.2.2.1; omega)).symm
theorem l02Deep_ok (d : Dc) (hk : Kids d.nodes) (hlen : d.nodes.length < 2 ^ 61) (hks : ∀ n ∈ d.nodes, n.kids.length < 2 ^ 61) : ∀ (k : Nat), k ≤ 6 → ∀ (id : Int) (n : Nd), ndAt d.nodes id = some n →
    FC Try.prog 85 [(true, dcL d), (false, [iL id]), (false, [iL (k : Nat)])] [] [(false, [.f (iL (depthF d.nodes (k + 1) id))])]
  | 0, _, id, n, hn => by
    have e0 : depthF d.nodes 1 id = 1 := by
      have : ∀ (ks : List Int), ks.foldl (fun m c => max m (depthF d.nodes 0 c)) 0 = 0 := by
        intro ks
        induction ks with
        | nil => rfl
        | cons c ks ih => rw [List.foldl_cons]; exact ih
      simp only [depthF] at this ⊢
      rw [this]
    refine gcalls_of tbl_ok mixed Try.func85 rfl Try.ntmps85 (by kernel_rfl) (Nat.le_of_ble_eq_true rfl) rfl rfl trivial ?_
    conv => whnf
    refine ⟨fun h => ?_, fun h => absurd rfl h⟩
    conv => whnf
    refine ⟨[], [], ?_⟩
    (repeat' first | exact trivial | exact rfl | exact tl_pv rfl rfl rfl (List.cons_ne_nil _ _) | exact tl_ints rfl rfl rfl (by simp) | exact tl_txts rfl rfl rfl (by simp) | exact tl_nds rfl rfl rfl (by simp) | ((conv => whnf); first | exact trivial | exact rfl | exact .inr rfl | exact .inl ⟨rfl, rfl⟩ | apply And.intro) | refine tl_int ?_ | refine tl_bool ?_ | refine tl_str ?_ | refine tl_row rfl ?_ | exact cl_ints _ | exact cl_txts _ | exact cl_nds _ | exact cl_mp _ | exact Nat.succ_pos _ | exact pl_ints _ | exact pl_txts _ | exact pl_nds _ | with_reducible refine tl_f ?_)
    rw [e0]; rfl
  | k + 1, hle, id, n, hn => by
    have ih := l02Deep_ok d hk hlen hks k (by omega)
    have hat := l02At_ok d id (by omega)
    obtain ⟨x, hx, ex, exn⟩ := at_some hn
    rw [ex] at hat
    have he : depthF d.nodes (k + 1 + 1) id = n.kids.foldl (fun m c => max m (depthF d.nodes (k + 1) c)) 0 + 1 := by simp only [depthF, kidsAt, hn, Option.map_some, Option.getD_some]
    have hd := depthF_le (fun n hn => by have := hks n hn; omega) (k + 1 + 1) id
    have hnk := hks n (ndAt_mem hn).1
    refine gcalls_of tbl_ok mixed Try.func85 rfl Try.ntmps85 (by kernel_rfl) (Nat.le_of_ble_eq_true rfl) rfl rfl trivial ?_
    conv => whnf
    refine ⟨fun h => by omega, fun h' => ?_⟩
    clear h'
    conv => whnf
    refine ⟨by kernel_rfl, ?_⟩
    conv => whnf
    refine ⟨([], _), hat, ?_⟩
    conv => whnf
    refine ⟨(x, ndL n), ⟨rfl, by simp [hx, exn]⟩, ?_⟩
    conv => whnf
    refine ⟨by kernel_rfl, ?_⟩
    conv => whnf
    refine ⟨fun (m : Nat) (es : Es) (hs : Hs) => ∃ i : Nat, m + i = n.kids.length ∧ es = [(9, .val false [.f (iL i)]), (8, .val false [.f (ints n.kids)]), (7, .val false [.f (iL ((n.kids.take i).foldl (fun m c => max m (depthF d.nodes (k + 1) c)) 0 : Nat))]), (3, .val false [.pt 64 0 0]), (2, .val false [.f (iL ((k + 1 : Nat) : Int))])] ∧ hs = [(64, some ⟨3, 3, [(dcL d).map .f]⟩)],
      ⟨n.kids.length, [], [], _, _, ⟨?_, ?_, ?_⟩, 0, rfl, rfl, rfl⟩, ?_⟩
    · rfl
    · (repeat' first | exact trivial | exact rfl | exact tl_pv rfl rfl rfl (List.cons_ne_nil _ _) | exact tl_ints rfl rfl rfl (by simp) | exact tl_txts rfl rfl rfl (by simp) | exact tl_nds rfl rfl rfl (by simp) | ((conv => whnf); first | exact trivial | exact rfl | exact .inr rfl | exact .inl ⟨rfl, rfl⟩ | apply And.intro) | refine tl_int ?_ | refine tl_bool ?_ | refine tl_str ?_ | refine tl_row rfl ?_ | exact cl_ints _ | exact cl_txts _ | exact cl_nds _ | exact cl_mp _ | exact Nat.succ_pos _ | exact pl_ints _ | exact pl_txts _ | exact pl_nds _ | with_reducible refine tl_f ?_)
    · (repeat' first | exact trivial | exact rfl | exact tl_pv rfl rfl rfl (List.cons_ne_nil _ _) | exact tl_ints rfl rfl rfl (by simp) | exact tl_txts rfl rfl rfl (by simp) | exact tl_nds rfl rfl rfl (by simp) | ((conv => whnf); first | exact trivial | exact rfl | exact .inr rfl | exact .inl ⟨rfl, rfl⟩ | apply And.intro) | refine tl_int ?_ | refine tl_bool ?_ | refine tl_str ?_ | refine tl_row rfl ?_ | exact cl_ints _ | exact cl_txts _ | exact cl_nds _ | exact cl_mp _ | exact Nat.succ_pos _ | exact pl_ints _ | exact pl_txts _ | exact pl_nds _ | with_reducible refine tl_f ?_)
    rintro m es hs ⟨i, hm, rfl, rfl⟩
    conv => whnf
    refine ⟨fun h => ?_, fun h => ?_⟩
    · have hi : i < n.kids.length := by simpa using h
      obtain ⟨c, hc⟩ := hk n (ndAt_mem hn).1 n.kids[i] (List.getElem_mem _)
      have ih := ih n.kids[i] c hc
      have e : IntKind.i64.wrap (((k + 1 : Nat) : Int) - 1) = ((k : Nat) : Int) := by rw [IntKind.wrap_i64]; omega
      rw [← e] at ih
      conv => whnf
      refine ⟨by kernel_rfl, ?_⟩
      conv => whnf
      refine ⟨(i, intE n.kids[i]), ⟨rfl, by simp [hi]⟩, ?_⟩
      conv => whnf
      refine ⟨([], _), ih, ?_⟩
      conv => whnf
      refine ⟨by kernel_rfl, ?_⟩
      conv => whnf
      refine ⟨m - 1, [], [], [(9, .val false [.f (iL (i + 1 : Nat))]), (8, .val false [.f (ints n.kids)]), (7, .val false [.f (iL ((n.kids.take (i + 1)).foldl (fun m c => max m (depthF d.nodes (k + 1) c)) 0 : Nat))]), (3, .val false [.pt 64 0 0]), (2, .val false [.f (iL ((k + 1 : Nat) : Int))])], [(64, some ⟨3, 3, [(dcL d).map .f]⟩)], by omega, ⟨?_, ?_, ?_⟩, i + 1, by omega, rfl, rfl⟩
      · rfl
      · (repeat' first | exact trivial | exact rfl | exact tl_pv rfl rfl rfl (List.cons_ne_nil _ _) | exact tl_ints rfl rfl rfl (by simp) | exact tl_txts rfl rfl rfl (by simp) | exact tl_nds rfl rfl rfl (by simp) | ((conv => whnf); first | exact trivial | exact rfl | exact .inr rfl | exact .inl ⟨rfl, rfl⟩ | apply And.intro) | refine tl_int ?_ | refine tl_bool ?_ | refine tl_str ?_ | refine tl_row rfl ?_ | exact cl_ints _ | exact cl_txts _ | exact cl_nds _ | exact cl_mp _ | exact Nat.succ_pos _ | exact pl_ints _ | exact pl_txts _ | exact pl_nds _ | with_reducible refine tl_f ?_)
        · exact wrap_suc (by omega)
        · rw [foldl_take hi]
          split <;> omega
      · (repeat' first | exact trivial | exact rfl | exact tl_pv rfl rfl rfl (List.cons_ne_nil _ _) | exact tl_ints rfl rfl rfl (by simp) | exact tl_txts rfl rfl rfl (by simp) | exact tl_nds rfl rfl rfl (by simp) | ((conv => whnf); first | exact trivial | exact rfl | exact .inr rfl | exact .inl ⟨rfl, rfl⟩ | apply And.intro) | refine tl_int ?_ | refine tl_bool ?_ | refine tl_str ?_ | refine tl_row rfl ?_ | exact cl_ints _ | exact cl_txts _ | exact cl_nds _ | exact cl_mp _ | exact Nat.succ_pos _ | exact pl_ints _ | exact pl_txts _ | exact pl_nds _ | with_reducible refine tl_f ?_)
    · have hi : n.kids.length ≤ i := by simpa using h
      conv => whnf
      refine ⟨[], [], ?_⟩
      (repeat' first | exact trivial | exact rfl | exact tl_pv rfl rfl rfl (List.cons_ne_nil _ _) | exact tl_ints rfl rfl rfl (by simp) | exact tl_txts rfl rfl rfl (by simp) | exact tl_nds rfl rfl rfl (by simp) | ((conv => whnf); first | exact trivial | exact rfl | exact .inr rfl | exact .inl ⟨rfl, rfl⟩ | apply And.intro) | refine tl_int ?_ | refine tl_bool ?_ | refine tl_str ?_ | refine tl_row rfl ?_ | exact cl_ints _ | exact cl_txts _ | exact cl_nds _ | exact cl_mp _ | exact Nat.succ_pos _ | exact pl_ints _ | exact pl_txts _ | exact pl_nds _ | with_reducible refine tl_f ?_)
      rw [List.take_of_length_le hi, he]
      exact wrap_suc (by omega)
end Go.Proofs.Ytfafehhallbjiaa.Ac
set_option linter.unusedVariables false
set_option linter.unusedSimpArgs false
namespace Go.Proofs.Ytfafehhallbjiaa.Ac
theorem len_le : ∀ {l1 l2 : List Int}, l1.Nodup → (∀ x ∈ l1, x ∈ l2) → l1.length ≤ l2.length
  | [], _, _, _ => Nat.zero_le _
  | a :: l1, l2, hn, hs => by
    have ha : a ∈ l2 := hs a (by simp)
    rw [List.nodup_cons] at hn
    have h1 := len_le (l1 := l1) (l2 := l2.erase a) hn.2 (fun x hx => (List.mem_erase_of_ne (fun (e : x = a) => hn.1 (by rw [← e]; exact hx))).2 (hs x (by simp [hx])))
    rw [List.length_erase_of_mem ha] at h1
    have : 0 < l2.length := List.length_pos_of_mem ha
    rw [List.length_cons]; omega
theorem sub_eq {l1 l2 : List Int} (hn : l1.Nodup) (hs : ∀ x ∈ l1, x ∈ l2) (hl : l2.length ≤ l1.length) : ∀ x ∈ l2, x ∈ l1 := by
  intro a ha
  by_cases h : a ∈ l1
  · exact h
  · have h1 := len_le (l1 := l1) (l2 := l2.erase a) hn (fun x hx => (List.mem_erase_of_ne (fun (e : x = a) => h (by rw [← e]; exact hx))).2 (hs x hx))
    rw [List.length_erase_of_mem ha] at h1
    have : 0 < l2.length := List.length_pos_of_mem ha
    omega
theorem nodup_flat {f : Int → List Int} : ∀ {L : List Int}, L.Nodup → (∀ k ∈ L, (f k).Nodup) → (∀ a ∈ L, ∀ b ∈ L, a ≠ b → ∀ x ∈ f a, x ∉ f b) → (L.flatMap f).Nodup
  | [], _, _, _ => List.nodup_nil
  | a :: L, hn, h1, h2 => by
    rw [List.nodup_cons] at hn
    rw [List.flatMap_cons, List.nodup_append]
    refine ⟨h1 a (by simp), nodup_flat hn.2 (fun k hk => h1 k (by simp [hk])) (fun x hx y hy => h2 x (by simp [hx]) y (by simp [hy])), fun x hx y hy e => ?_⟩
    subst e
    obtain ⟨k, hk, hx2⟩ := List.mem_flatMap.1 hy
    exact h2 a (by simp) k (by simp [hk]) (fun e => hn.1 (e ▸ hk)) x hx hx2
def upP (l : List Nd) : Nat → Int → Int
  | 0, x => x
  | s + 1, x => upP l s (parP l x)
theorem up_add (l : List Nd) : ∀ (a b : Nat) (x : Int), upP l (a + b) x = upP l b (upP l a x)
  | 0, b, x => by rw [Nat.zero_add]; rfl
  | a + 1, b, x => by rw [Nat.succ_add]; exact up_add l a b (parP l x)
theorem up_succ (l : List Nd) (s : Nat) (x : Int) : upP l (s + 1) x = parP l (upP l s x) := by rw [up_add]; rfl
structure Tree (root : Int) (l : List Nd) : Prop where
  rise : Rise l
  set : SetOK root l (kidsAll l)
  top : (ndAt l root).isSome
variable {root : Int} {l : List Nd}
theorem Tree.kin (hT : Tree root l) : Kids l := fun n hn c hc => Option.isSome_iff_exists.1 (hT.set.2 c (List.mem_flatMap.2 ⟨n, hn, hc⟩)).2
theorem has_pos (hT : Tree root l) {x : Int} (h : (ndAt l x).isSome) : 1 ≤ x := by
  obtain ⟨n, hn⟩ := Option.isSome_iff_exists.1 h
  obtain ⟨h1, rfl⟩ := ndAt_mem hn
  exact (hT.rise.1 n h1).1
theorem kidsAt_some {id : Int} {n : Nd} (hn : ndAt l id = some n) : kidsAt l id = n.kids := by simp only [kidsAt, hn, Option.map_some, Option.getD_some]
theorem one_parent (hT : Tree root l) {a b : Nat} (ha : a < l.length) (hb : b < l.length) {k : Int} (h1 : k ∈ l[a].kids) (h2 : k ∈ l[b].kids) : a = b := by
  have key : ∀ {a b : Nat} (ha : a < l.length) (hb : b < l.length), k ∈ l[a].kids → k ∈ l[b].kids → ¬ a < b := by
    intro a b ha hb h1 h2 hab
    have e1 : kidsAll l = kidsTo l (a + 1) ++ (l.drop (a + 1)).flatMap (·.kids) := by
      unfold kidsTo kidsAll
      rw [← List.flatMap_append, List.take_append_drop]
    have hn := hT.set.1
    rw [e1] at hn
    refine (List.nodup_append.1 hn).2.2 k ?_ k ?_ rfl
    · rw [kidsTo_step ha]; exact List.mem_append_right _ h1
    · refine List.mem_flatMap.2 ⟨l[b], ?_, h2⟩
      rw [List.mem_drop_iff_getElem]
      exact ⟨b - (a + 1), by omega, by congr 1; omega⟩
  have := key ha hb h1 h2
  have := key hb ha h2 h1
  omega
theorem par_of_mem (hT : Tree root l) {n : Nd} (hn : n ∈ l) {k : Int} (hk : k ∈ n.kids) : parP l k = n.id := by
  obtain ⟨t, ht, rfl⟩ := List.mem_iff_getElem.1 hn
  unfold parP
  cases e : l.find? (fun x => decide (k ∈ x.kids)) with
  | none =>
    have := List.find?_eq_none.1 e l[t] (List.getElem_mem ht)
    exact absurd hk (by simpa using this)
  | some y =>
    have hy := List.find?_some e
    obtain ⟨b, hb, rfl⟩ := List.getElem_of_mem (List.mem_of_find?_eq_some e)
    obtain rfl := one_parent hT ht hb hk (by simpa using hy)
    rfl
theorem par_none {x : Int} (h : ∀ n ∈ l, x ∉ n.kids) : parP l x = 0 := by
  unfold parP
  rw [List.find?_eq_none.2 (fun y hy => by simpa using h y hy)]
  rfl
theorem par_root (hT : Tree root l) : parP l root = 0 := par_none (fun n hn h => (hT.set.2 root (List.mem_flatMap.2 ⟨n, hn, h⟩)).1 rfl)
theorem par_zero (hT : Tree root l) : parP l 0 = 0 := par_none (fun n hn h => by have := has_pos hT (hT.set.2 0 (List.mem_flatMap.2 ⟨n, hn, h⟩)).2; omega)
theorem par_kid (hT : Tree root l) {z id : Int} (h : parP l z = id) (h1 : 1 ≤ id) : z ∈ kidsAt l id ∧ (ndAt l id).isSome := by
  unfold parP at h
  cases e : l.find? (fun x => decide (z ∈ x.kids)) with
  | none => rw [e] at h; simp at h; omega
  | some y =>
    rw [e] at h
    have hy := List.find?_some e
    obtain ⟨b, hb, rfl⟩ := List.getElem_of_mem (List.mem_of_find?_eq_some e)
    have h2 : l[b].id = id := by simpa using h
    have h3 := hT.rise.at hb
    rw [h2] at h3
    exact ⟨by rw [kidsAt_some h3]; simpa using hy, by rw [h3]; rfl⟩
theorem kid_par (hT : Tree root l) {k id : Int} (hh : (ndAt l id).isSome) (hk : k ∈ kidsAt l id) : parP l k = id ∧ (ndAt l k).isSome := by
  obtain ⟨n, hn⟩ := Option.isSome_iff_exists.1 hh
  rw [kidsAt_some hn] at hk
  obtain ⟨h1, rfl⟩ := ndAt_mem hn
  exact ⟨par_of_mem hT h1 hk, (hT.set.2 k (List.mem_flatMap.2 ⟨n, h1, hk⟩)).2⟩
theorem kids_nodup (hT : Tree root l) (id : Int) : (kidsAt l id).Nodup := by
  cases hn : ndAt l id with
  | none => simp [kidsAt, hn]
  | some n =>
    rw [kidsAt_some hn]
    obtain ⟨t, ht, rfl⟩ := List.mem_iff_getElem.1 (ndAt_mem hn).1
    have e1 : kidsAll l = kidsTo l (t + 1) ++ (l.drop (t + 1)).flatMap (·.kids) := by
      unfold kidsTo kidsAll
      rw [← List.flatMap_append, List.take_append_drop]
    have hn := hT.set.1
    rw [e1, kidsTo_step ht] at hn
    exact (List.nodup_append.1 (List.nodup_append.1 hn).1).2.1
theorem up_zero (hT : Tree root l) : ∀ s, upP l s 0 = 0
  | 0 => rfl
  | s + 1 => by show upP l s (parP l 0) = 0; rw [par_zero hT]; exact up_zero hT s
theorem no_cycle (hT : Tree root l) {id : Int} (h : ∃ t, upP l t id = root) (d : Nat) : upP l (d + 1) id ≠ id := by
  intro e
  obtain ⟨t, ht⟩ := h
  have h1 : upP l (t + (d + 1)) id = 0 := by
    rw [up_add, ht]
    show upP l d (parP l root) = 0
    rw [par_root hT]; exact up_zero hT d
  rw [Nat.add_comm, up_add, e, ht] at h1
  have := has_pos hT hT.top
  omega
theorem ord_up (hT : Tree root l) : ∀ (m : Nat) (id x : Int), (ndAt l id).isSome → x ∈ orderF l m id → ∃ s, upP l s x = id ∧ (ndAt l x).isSome
  | 0, id, x, _, h => by simp [orderF] at h
  | m + 1, id, x, hh, h => by
    rw [orderF, List.mem_cons] at h
    rcases h with rfl | h
    · exact ⟨0, rfl, hh⟩
    · obtain ⟨k, hk, hx⟩ := List.mem_flatMap.1 h
      obtain ⟨h1, h2⟩ := kid_par hT hh hk
      obtain ⟨s, hu, hp⟩ := ord_up hT m k x h2 hx
      exact ⟨s + 1, by rw [up_succ, hu, h1], hp⟩
theorem ord_nodup (hT : Tree root l) : ∀ (m : Nat) (id : Int), (ndAt l id).isSome → (∃ t, upP l t id = root) → (orderF l m id).Nodup
  | 0, _, _, _ => List.nodup_nil
  | m + 1, id, hh, hr => by
    have hkr : ∀ k ∈ kidsAt l id, ∃ t, upP l t k = root := fun k hk => by
      obtain ⟨t, ht⟩ := hr
      exact ⟨t + 1, by show upP l t (parP l k) = root; rw [(kid_par hT hh hk).1]; exact ht⟩
    rw [orderF, List.nodup_cons]
    refine ⟨fun h => ?_, nodup_flat (kids_nodup hT id) (fun k hk => ord_nodup hT m k (kid_par hT hh hk).2 (hkr k hk)) (fun a ha b hb hab x hxa hxb => ?_)⟩
    · obtain ⟨k, hk, hx⟩ := List.mem_flatMap.1 h
      obtain ⟨s, hu, _⟩ := ord_up hT m k id (kid_par hT hh hk).2 hx
      exact no_cycle hT hr s (by rw [up_succ, hu, (kid_par hT hh hk).1])
    · obtain ⟨s1, hu1, _⟩ := ord_up hT m a x (kid_par hT hh ha).2 hxa
      obtain ⟨s2, hu2, _⟩ := ord_up hT m b x (kid_par hT hh hb).2 hxb
      have key : ∀ {a b : Int} {s1 s2 : Nat}, a ∈ kidsAt l id → b ∈ kidsAt l id → a ≠ b → upP l s1 x = a → upP l s2 x = b → ¬ s1 ≤ s2 := by
        intro a b s1 s2 ha hb hab hu1 hu2 hle
        obtain ⟨d, rfl⟩ : ∃ d, s2 = s1 + d := ⟨s2 - s1, by omega⟩
        rw [up_add, hu1] at hu2
        cases d with
        | zero => exact hab hu2
        | succ d =>
          have h1 : upP l d id = b := by rw [← (kid_par hT hh ha).1]; exact hu2
          exact no_cycle hT hr d (by rw [up_succ, h1, (kid_par hT hh hb).1])
      have := key ha hb hab hu1 hu2
      have := key hb ha (fun e => hab e.symm) hu2 hu1
      omega
theorem up_ord (hT : Tree root l) : ∀ (s m : Nat) (id x : Int), Fits l m id → upP l s x = id → x ∈ orderF l m id
  | s, 0, id, x, hf, _ => hf.elim
  | 0, m + 1, id, x, _, h => by rw [orderF]; rw [show x = id from h]; simp
  | s + 1, m + 1, id, x, hf, h => by
    rw [up_succ] at h
    obtain ⟨n, hn, hfk⟩ := hf
    obtain ⟨hz, _⟩ := par_kid hT h (has_pos hT (by rw [hn]; rfl))
    rw [orderF, List.mem_cons]
    exact .inr (List.mem_flatMap.2 ⟨_, hz, up_ord hT s m _ x (hfk _ (by rw [kidsAt_some hn] at hz; exact hz)) rfl⟩)
theorem rch_up : ∀ (f : Nat) (x : Int), rch l root f x = true → ∃ s, s ≤ f ∧ upP l s x = root
  | 0, x, h => ⟨0, Nat.le_refl _, by simpa [rch, upP] using h⟩
  | f + 1, x, h => by
    by_cases e : x = root
    · exact ⟨0, Nat.zero_le _, e⟩
    · have h2 : rch l root f (parP l x) = true := by
        simp [rch, e] at h
        exact h.2
      obtain ⟨s, hs, hu⟩ := rch_up f (parP l x) h2
      exact ⟨s + 1, by omega, hu⟩
theorem par_nonneg (hT : Tree root l) (x : Int) : 0 ≤ parP l x := by
  unfold parP
  cases e : l.find? (fun y => decide (x ∈ y.kids)) with
  | none => simp
  | some y =>
    have := (hT.rise.1 y (List.mem_of_find?_eq_some e)).1
    simp; omega
theorem up_rch (hT : Tree root l) : ∀ (f : Nat) (x : Int) (s : Nat), 1 ≤ x → s ≤ f → upP l s x = root → rch l root f x = true
  | 0, x, s, _, hs, hu => by
    obtain rfl : s = 0 := by omega
    simp [rch, show x = root from hu]
  | f + 1, x, s, hx, hs, hu => by
    by_cases e : x = root
    · simp [rch, e]
    · cases s with
      | zero => exact absurd hu e
      | succ s =>
        have hu2 : upP l s (parP l x) = root := hu
        have hp : 1 ≤ parP l x := by
          have := par_nonneg hT x
          by_cases h0 : parP l x = 0
          · rw [h0, up_zero hT] at hu2
            have := has_pos hT hT.top
            omega
          · omega
        simp [rch, e, show x > 0 by omega, up_rch hT f (parP l x) s hp (by omega) hu2]
theorem ids_nodup (hs : Rise l) : (l.map (·.id)).Nodup := by
  rw [List.nodup_iff_pairwise_ne, List.pairwise_map]
  exact hs.2.imp fun h => by omega
theorem ord_short (hT : Tree root l) : ∀ (m : Nat) (id x : Int), (ndAt l id).isSome → x ∈ orderF l m id → ∃ s, s < (orderF l m id).length ∧ upP l s x = id
  | 0, id, x, _, h => by simp [orderF] at h
  | m + 1, id, x, hh, h => by
    rw [orderF, List.mem_cons] at h
    rcases h with rfl | h
    · exact ⟨0, by rw [orderF]; simp, rfl⟩
    · obtain ⟨k, hk, hx⟩ := List.mem_flatMap.1 h
      obtain ⟨h1, h2⟩ := kid_par hT hh hk
      obtain ⟨s, hs, hu⟩ := ord_short hT m k x h2 hx
      refine ⟨s + 1, ?_, by rw [up_succ, hu, h1]⟩
      rw [orderF, List.length_cons]
      have : (orderF l m k).length ≤ ((kidsAt l id).flatMap (orderF l m)).length := by
        obtain ⟨a, b, hab⟩ := List.append_of_mem hk
        rw [hab, List.flatMap_append, List.flatMap_cons]
        simp only [List.length_append]; omega
      omega
theorem reach_iff (hT : Tree root l) (hf : Fits l 6 root) : (l.all (fun x => rch l root (l.length + 1) x.id) = true) ↔ (orderF l 6 root).length = l.length := by
  have hnd := ord_nodup hT 6 root hT.top ⟨0, rfl⟩
  have hsub : ∀ x ∈ orderF l 6 root, x ∈ l.map (·.id) := fun x hx => by
    obtain ⟨_, _, hp⟩ := ord_up hT 6 root x hT.top hx
    obtain ⟨n, hn⟩ := Option.isSome_iff_exists.1 hp
    obtain ⟨h1, rfl⟩ := ndAt_mem hn
    exact List.mem_map.2 ⟨_, h1, rfl⟩
  have hle := len_le hnd hsub
  rw [List.length_map] at hle
  constructor
  · intro h
    have h2 : (l.map (·.id)).length ≤ (orderF l 6 root).length := len_le (ids_nodup hT.rise) (fun x hx => by
      obtain ⟨n, hn, rfl⟩ := List.mem_map.1 hx
      obtain ⟨s, _, hu⟩ := rch_up _ _ (List.all_eq_true.1 h n hn)
      exact up_ord hT s 6 root _ hf hu)
    rw [List.length_map] at h2
    omega
  · intro h
    refine List.all_eq_true.2 fun n hn => ?_
    have hin := sub_eq hnd hsub (by rw [List.length_map]; omega) n.id (List.mem_map.2 ⟨n, hn, rfl⟩)
    obtain ⟨s, hu, hp⟩ := ord_up hT 6 root n.id hT.top hin
    obtain ⟨s, hs, hu⟩ := ord_short hT 6 root n.id hT.top hin
    exact up_rch hT _ _ s (has_pos hT hp) (by omega) hu
theorem DOK.tree {d : Dc} (h : DOK d) : Tree d.root d.nodes := ⟨h.rise, h.2.2.2.1, h.2.2.2.2.1.1⟩
theorem DOK.fits {d : Dc} (h : DOK d) : Fits d.nodes 6 d.root := depthF_fits h.kids 6 d.root h.2.2.2.2.1.1 h.2.2.2.2.1.2.2
open Go.RowKit
set_option maxRecDepth 20000
set_option maxHeartbeats 2000000
theorem l02OK_ok (d : Dc) (h64 : Dc64 d) : FC Try.prog 45 [(true, dcL d)] [] [(false, [.f (bL (dokB d))])] := by
  by_cases c1 : 1 ≤ (d.nodes.length : Int) ∧ (d.nodes.length : Int) ≤ 40
  rotate_left
  · rw [dokB_no fun h => c1 (by have := h.1; omega)]
    refine gcalls_of tbl_ok mixed Try.func45 rfl Try.ntmps45 (by kernel_rfl) (Nat.le_of_ble_eq_true rfl) rfl rfl trivial ?_
    conv => whnf
    refine ⟨([], _), in_f (by simpa using c1), ?_⟩
    conv => whnf
    refine ⟨[], [], ?_⟩
    (repeat' first | exact trivial | exact rfl | exact tl_pv rfl rfl rfl (List.cons_ne_nil _ _) | exact tl_ints rfl rfl rfl (by simp) | exact tl_txts rfl rfl rfl (by simp) | exact tl_nds rfl rfl rfl (by simp) | ((conv => whnf); first | exact trivial | exact rfl | exact .inr rfl | exact .inl ⟨rfl, rfl⟩ | apply And.intro) | refine tl_int ?_ | refine tl_bool ?_ | refine tl_str ?_ | refine tl_row rfl ?_ | exact cl_ints _ | exact cl_txts _ | exact cl_nds _ | exact cl_mp _ | exact Nat.succ_pos _ | exact pl_ints _ | exact pl_txts _ | exact pl_nds _ | with_reducible refine tl_f ?_)
  by_cases c2 : 2 ≤ d.next ∧ d.next ≤ 999999
  rotate_left
  · rw [dokB_no fun h => c2 h.2.1]
    refine gcalls_of tbl_ok mixed Try.func45 rfl Try.ntmps45 (by kernel_rfl) (Nat.le_of_ble_eq_true rfl) rfl rfl trivial ?_
    conv => whnf
    refine ⟨([], _), in_t (by simpa using c1), ?_⟩
    conv => whnf
    refine ⟨([], _), in_f c2, ?_⟩
    conv => whnf
    refine ⟨[], [], ?_⟩
    (repeat' first | exact trivial | exact rfl | exact tl_pv rfl rfl rfl (List.cons_ne_nil _ _) | exact tl_ints rfl rfl rfl (by simp) | exact tl_txts rfl rfl rfl (by simp) | exact tl_nds rfl rfl rfl (by simp) | ((conv => whnf); first | exact trivial | exact rfl | exact .inr rfl | exact .inl ⟨rfl, rfl⟩ | apply And.intro) | refine tl_int ?_ | refine tl_bool ?_ | refine tl_str ?_ | refine tl_row rfl ?_ | exact cl_ints _ | exact cl_txts _ | exact cl_nds _ | exact cl_mp _ | exact Nat.succ_pos _ | exact pl_ints _ | exact pl_txts _ | exact pl_nds _ | with_reducible refine tl_f ?_)
  have hn := l02Nodes_ok d h64 (by omega) c2
  by_cases c3 : NODES d
  rotate_left
  · rw [nodesB_no c3] at hn
    rw [dokB_no fun h => c3 ⟨h.2.2.1, h.2.2.2.1, h.2.2.2.2.1.2.1, h.2.2.2.2.1.1⟩]
    refine gcalls_of tbl_ok mixed Try.func45 rfl Try.ntmps45 (by kernel_rfl) (Nat.le_of_ble_eq_true rfl) rfl rfl trivial ?_
    conv => whnf
    refine ⟨([], _), in_t (by simpa using c1), ?_⟩
    conv => whnf
    refine ⟨([], _), in_t c2, ?_⟩
    conv => whnf
    refine ⟨([], _), hn, ?_⟩
    conv => whnf
    refine ⟨[], [], ?_⟩
    (repeat' first | exact trivial | exact rfl | exact tl_pv rfl rfl rfl (List.cons_ne_nil _ _) | exact tl_ints rfl rfl rfl (by simp) | exact tl_txts rfl rfl rfl (by simp) | exact tl_nds rfl rfl rfl (by simp) | ((conv => whnf); first | exact trivial | exact rfl | exact .inr rfl | exact .inl ⟨rfl, rfl⟩ | apply And.intro) | refine tl_int ?_ | refine tl_bool ?_ | refine tl_str ?_ | refine tl_row rfl ?_ | exact cl_ints _ | exact cl_txts _ | exact cl_nds _ | exact cl_mp _ | exact Nat.succ_pos _ | exact pl_ints _ | exact pl_txts _ | exact pl_nds _ | with_reducible refine tl_f ?_)
  rw [nodesB_yes c3] at hn
  obtain ⟨n1, n2, n3, n4⟩ := c3
  have hks : ∀ n ∈ d.nodes, n.kids.length < 2 ^ 61 := fun n hn => by
    obtain ⟨t, ht, rfl⟩ := List.mem_iff_getElem.1 hn
    have := (n1 t ht).1.2.2.2.2; omega
  have hT : Tree d.root d.nodes := ⟨rise_of c2.2 n1, n2, n4⟩
  have hr := l02Reach_ok d (by omega) (fun n hn => by have := hks n hn; omega)
  obtain ⟨n0, hn0⟩ := Option.isSome_iff_exists.1 n4
  have hd := l02Deep_ok d hT.kin (by omega) hks 6 (Nat.le_refl _) d.root n0 hn0
  cases c4 : (d.nodes.all fun x => rch d.nodes d.root (d.nodes.length + 1) x.id) with
  | false =>
    rw [c4] at hr
    have hno : ¬ DOK d := fun h => by
      have := (reach_iff hT h.fits).2 h.2.2.2.2.2
      rw [c4] at this; cases this
    rw [dokB_no hno]
    refine gcalls_of tbl_ok mixed Try.func45 rfl Try.ntmps45 (by kernel_rfl) (Nat.le_of_ble_eq_true rfl) rfl rfl trivial ?_
    conv => whnf
    refine ⟨([], _), in_t (by simpa using c1), ?_⟩
    conv => whnf
    refine ⟨([], _), in_t c2, ?_⟩
    conv => whnf
    refine ⟨([], _), hn, ?_⟩
    conv => whnf
    refine ⟨([], _), hr, ?_⟩
    conv => whnf
    refine ⟨[], [], ?_⟩
    (repeat' first | exact trivial | exact rfl | exact tl_pv rfl rfl rfl (List.cons_ne_nil _ _) | exact tl_ints rfl rfl rfl (by simp) | exact tl_txts rfl rfl rfl (by simp) | exact tl_nds rfl rfl rfl (by simp) | ((conv => whnf); first | exact trivial | exact rfl | exact .inr rfl | exact .inl ⟨rfl, rfl⟩ | apply And.intro) | refine tl_int ?_ | refine tl_bool ?_ | refine tl_str ?_ | refine tl_row rfl ?_ | exact cl_ints _ | exact cl_txts _ | exact cl_nds _ | exact cl_mp _ | exact Nat.succ_pos _ | exact pl_ints _ | exact pl_txts _ | exact pl_nds _ | with_reducible refine tl_f ?_)
  | true =>
    rw [c4] at hr
    refine gcalls_of tbl_ok mixed Try.func45 rfl Try.ntmps45 (by kernel_rfl) (Nat.le_of_ble_eq_true rfl) rfl rfl trivial ?_
    conv => whnf
    refine ⟨([], _), in_t (by simpa using c1), ?_⟩
    conv => whnf
    refine ⟨([], _), in_t c2, ?_⟩
    conv => whnf
    refine ⟨([], _), hn, ?_⟩
    conv => whnf
    refine ⟨([], _), hr, ?_⟩
    conv => whnf
    refine ⟨([], _), hd, ?_⟩
    conv => whnf
    refine ⟨fun k => ?_, fun k => ?_⟩
    · conv => whnf
      refine ⟨[], [], ?_⟩
      (repeat' first | exact trivial | exact rfl | exact tl_pv rfl rfl rfl (List.cons_ne_nil _ _) | exact tl_ints rfl rfl rfl (by simp) | exact tl_txts rfl rfl rfl (by simp) | exact tl_nds rfl rfl rfl (by simp) | ((conv => whnf); first | exact trivial | exact rfl | exact .inr rfl | exact .inl ⟨rfl, rfl⟩ | apply And.intro) | refine tl_int ?_ | refine tl_bool ?_ | refine tl_str ?_ | refine tl_row rfl ?_ | exact cl_ints _ | exact cl_txts _ | exact cl_nds _ | exact cl_mp _ | exact Nat.succ_pos _ | exact pl_ints _ | exact pl_txts _ | exact pl_nds _ | with_reducible refine tl_f ?_)
      have k' : depthF d.nodes 7 d.root ≤ 6 := by
        have : ((depthF d.nodes (6 + 1) d.root : Nat) : Int) ≤ 6 := k
        show depthF d.nodes (6 + 1) d.root ≤ 6
        omega
      exact (dokB_yes ⟨by omega, c2, n1, n2, ⟨n4, n3, k'⟩, (reach_iff hT (depthF_fits hT.kin 6 d.root n4 k')).1 c4⟩).symm
    · conv => whnf
      refine ⟨[], [], ?_⟩
      (repeat' first | exact trivial | exact rfl | exact tl_pv rfl rfl rfl (List.cons_ne_nil _ _) | exact tl_ints rfl rfl rfl (by simp) | exact tl_txts rfl rfl rfl (by simp) | exact tl_nds rfl rfl rfl (by simp) | ((conv => whnf); first | exact trivial | exact rfl | exact .inr rfl | exact .inl ⟨rfl, rfl⟩ | apply And.intro) | refine tl_int ?_ | refine tl_bool ?_ | refine tl_str ?_ | refine tl_row rfl ?_ | exact cl_ints _ | exact cl_txts _ | exact cl_nds _ | exact cl_mp _ | exact Nat.succ_pos _ | exact pl_ints _ | exact pl_txts _ | exact pl_nds _ | with_reducible refine tl_f ?_)
      refine (dokB_no fun h => k ?_).symm
      have := h.2.2.2.2.1.2.2
      show ((depthF d.nodes (6 + 1) d.root : Nat) : Int) ≤ 6
      have e : depthF d.nodes (6 + 1) d.root ≤ 6 := this
      omega
end Go.Proofs.Ytfafehhallbjiaa.Ac
set_option linter.unusedVariables false
set_option linter.unusedSimpArgs false
set_option maxRecDepth 20000
set_option maxHeartbeats 2000000
namespace Go.Proofs.Ytfafehhallbjiaa.Ac
open Go.RowKit
noncomputable def eqB {α : Type} (a b : α) : Bool := @decide (a = b) (Classical.propDecidable _)
theorem eqB_iff {α : Type} {a b : α} : eqB a b = true ↔ a = b := by unfold eqB; exact @decide_eq_true_iff _ (Classical.propDecidable _)
theorem eqB_yes {α : Type} {a b : α} (h : a = b) : true = eqB a b := (eqB_iff.2 h).symm
theorem eqB_no {α : Type} {a b : α} (h : ¬ a = b) : false = eqB a b := by
  cases e : eqB a b with
  | false => rfl
  | true => exact absurd (eqB_iff.1 e) h
theorem equal_ok (x y : List Int) (hx : x.length < 2 ^ 62) : FC Try.prog 123 [(false, [ints x]), (false, [ints y])] [] [(false, [.f (bL (eqB x y))])] := by
  refine gcalls_of tbl_ok mixed Try.func123 rfl Try.ntmps123 (by kernel_rfl) (Nat.le_of_ble_eq_true rfl) rfl rfl trivial ?_
  conv => whnf
  refine ⟨fun h => ?_, fun h => ?_⟩
  · conv => whnf
    refine ⟨[], [], ?_⟩
    (repeat' first | exact trivial | exact rfl | exact tl_pv rfl rfl rfl (List.cons_ne_nil _ _) | exact tl_ints rfl rfl rfl (by simp) | exact tl_txts rfl rfl rfl (by simp) | exact tl_nds rfl rfl rfl (by simp) | ((conv => whnf); first | exact trivial | exact rfl | exact .inr rfl | exact .inl ⟨rfl, rfl⟩ | apply And.intro) | refine tl_int ?_ | refine tl_bool ?_ | refine tl_str ?_ | refine tl_row rfl ?_ | exact cl_ints _ | exact cl_txts _ | exact cl_nds _ | exact cl_mp _ | exact Nat.succ_pos _ | exact pl_ints _ | exact pl_txts _ | exact pl_nds _ | with_reducible refine tl_f ?_)
    exact eqB_no fun e => h (by rw [e])
  have hl : x.length = y.length := by simp at h; omega
  clear h
  conv => whnf
  refine ⟨fun (m : Nat) (es : Es) (hs : Hs) => ∃ i : Nat, m + i = x.length ∧ x.take i = y.take i ∧ es = [(13, .val false [.f (iL i)]), (12, .val false [.f (iL x.length)]), (1, .val false [.f (ints y)]), (0, .val false [.f (ints x)])] ∧ hs = [],
    ⟨x.length, [], [], _, _, ⟨?_, ?_, ?_⟩, 0, rfl, rfl, rfl, rfl⟩, ?_⟩
  · rfl
  · (repeat' first | exact trivial | exact rfl | exact tl_pv rfl rfl rfl (List.cons_ne_nil _ _) | exact tl_ints rfl rfl rfl (by simp) | exact tl_txts rfl rfl rfl (by simp) | exact tl_nds rfl rfl rfl (by simp) | ((conv => whnf); first | exact trivial | exact rfl | exact .inr rfl | exact .inl ⟨rfl, rfl⟩ | apply And.intro) | refine tl_int ?_ | refine tl_bool ?_ | refine tl_str ?_ | refine tl_row rfl ?_ | exact cl_ints _ | exact cl_txts _ | exact cl_nds _ | exact cl_mp _ | exact Nat.succ_pos _ | exact pl_ints _ | exact pl_txts _ | exact pl_nds _ | with_reducible refine tl_f ?_)
    simp
  · (repeat' first | exact trivial | exact rfl | exact tl_pv rfl rfl rfl (List.cons_ne_nil _ _) | exact tl_ints rfl rfl rfl (by simp) | exact tl_txts rfl rfl rfl (by simp) | exact tl_nds rfl rfl rfl (by simp) | ((conv => whnf); first | exact trivial | exact rfl | exact .inr rfl | exact .inl ⟨rfl, rfl⟩ | apply And.intro) | refine tl_int ?_ | refine tl_bool ?_ | refine tl_str ?_ | refine tl_row rfl ?_ | exact cl_ints _ | exact cl_txts _ | exact cl_nds _ | exact cl_mp _ | exact Nat.succ_pos _ | exact pl_ints _ | exact pl_txts _ | exact pl_nds _ | with_reducible refine tl_f ?_)
  rintro m es hs ⟨i, hm, ht, rfl, rfl⟩
  conv => whnf
  refine ⟨fun h => ?_, fun h => ?_⟩
  · have hi : i < x.length := by omega
    have hi' : i < y.length := by omega
    conv => whnf
    refine ⟨by kernel_rfl, ?_⟩
    conv => whnf
    refine ⟨(i, intE x[i]), ⟨rfl, by simp [hi]⟩, ?_⟩
    conv => whnf
    refine ⟨(i, intE y[i]), ⟨rfl, by simp [hi']⟩, ?_⟩
    conv => whnf
    refine ⟨fun k => ?_, fun k => ?_⟩
    · conv => whnf
      refine ⟨by kernel_rfl, ?_⟩
      conv => whnf
      refine ⟨[], [], ?_⟩
      (repeat' first | exact trivial | exact rfl | exact tl_pv rfl rfl rfl (List.cons_ne_nil _ _) | exact tl_ints rfl rfl rfl (by simp) | exact tl_txts rfl rfl rfl (by simp) | exact tl_nds rfl rfl rfl (by simp) | ((conv => whnf); first | exact trivial | exact rfl | exact .inr rfl | exact .inl ⟨rfl, rfl⟩ | apply And.intro) | refine tl_int ?_ | refine tl_bool ?_ | refine tl_str ?_ | refine tl_row rfl ?_ | exact cl_ints _ | exact cl_txts _ | exact cl_nds _ | exact cl_mp _ | exact Nat.succ_pos _ | exact pl_ints _ | exact pl_txts _ | exact pl_nds _ | with_reducible refine tl_f ?_)
      exact eqB_no fun e => k (by subst e; rfl)
    · conv => whnf
      refine ⟨by kernel_rfl, ?_⟩
      conv => whnf
      refine ⟨m - 1, [], [], [(13, .val false [.f (iL (i + 1 : Nat))]), (12, .val false [.f (iL x.length)]), (1, .val false [.f (ints y)]), (0, .val false [.f (ints x)])], [], by omega, ⟨?_, ?_, ?_⟩, i + 1, by omega, ?_, rfl, rfl⟩
      · rfl
      · (repeat' first | exact trivial | exact rfl | exact tl_pv rfl rfl rfl (List.cons_ne_nil _ _) | exact tl_ints rfl rfl rfl (by simp) | exact tl_txts rfl rfl rfl (by simp) | exact tl_nds rfl rfl rfl (by simp) | ((conv => whnf); first | exact trivial | exact rfl | exact .inr rfl | exact .inl ⟨rfl, rfl⟩ | apply And.intro) | refine tl_int ?_ | refine tl_bool ?_ | refine tl_str ?_ | refine tl_row rfl ?_ | exact cl_ints _ | exact cl_txts _ | exact cl_nds _ | exact cl_mp _ | exact Nat.succ_pos _ | exact pl_ints _ | exact pl_txts _ | exact pl_nds _ | with_reducible refine tl_f ?_)
        exact wrap_suc (by omega)
      · (repeat' first | exact trivial | exact rfl | exact tl_pv rfl rfl rfl (List.cons_ne_nil _ _) | exact tl_ints rfl rfl rfl (by simp) | exact tl_txts rfl rfl rfl (by simp) | exact tl_nds rfl rfl rfl (by simp) | ((conv => whnf); first | exact trivial | exact rfl | exact .inr rfl | exact .inl ⟨rfl, rfl⟩ | apply And.intro) | refine tl_int ?_ | refine tl_bool ?_ | refine tl_str ?_ | refine tl_row rfl ?_ | exact cl_ints _ | exact cl_txts _ | exact cl_nds _ | exact cl_mp _ | exact Nat.succ_pos _ | exact pl_ints _ | exact pl_txts _ | exact pl_nds _ | with_reducible refine tl_f ?_)
      · rw [List.take_succ_eq_append_getElem hi, List.take_succ_eq_append_getElem hi', ht, Classical.not_not.1 k]
  · have hi : x.length ≤ i := by omega
    conv => whnf
    refine ⟨[], [], ?_⟩
    (repeat' first | exact trivial | exact rfl | exact tl_pv rfl rfl rfl (List.cons_ne_nil _ _) | exact tl_ints rfl rfl rfl (by simp) | exact tl_txts rfl rfl rfl (by simp) | exact tl_nds rfl rfl rfl (by simp) | ((conv => whnf); first | exact trivial | exact rfl | exact .inr rfl | exact .inl ⟨rfl, rfl⟩ | apply And.intro) | refine tl_int ?_ | refine tl_bool ?_ | refine tl_str ?_ | refine tl_row rfl ?_ | exact cl_ints _ | exact cl_txts _ | exact cl_nds _ | exact cl_mp _ | exact Nat.succ_pos _ | exact pl_ints _ | exact pl_txts _ | exact pl_nds _ | with_reducible refine tl_f ?_)
    rw [List.take_of_length_le hi, List.take_of_length_le (by omega)] at ht
    exact eqB_yes ht
theorem l00Same_ok (x y : List Int) (hx : x.length < 2 ^ 62) : FC Try.prog 119 [(false, [ints x]), (false, [ints y])] [] [(false, [.f (bL (eqB x y))])] := by
  refine gcalls_of tbl_ok mixed Try.func119 rfl Try.ntmps119 (by kernel_rfl) (Nat.le_of_ble_eq_true rfl) rfl rfl trivial ?_
  conv => whnf
  refine ⟨fun h => ?_, fun h => ?_⟩
  · conv => whnf
    refine ⟨[], [], ?_⟩
    (repeat' first | exact trivial | exact rfl | exact tl_pv rfl rfl rfl (List.cons_ne_nil _ _) | exact tl_ints rfl rfl rfl (by simp) | exact tl_txts rfl rfl rfl (by simp) | exact tl_nds rfl rfl rfl (by simp) | ((conv => whnf); first | exact trivial | exact rfl | exact .inr rfl | exact .inl ⟨rfl, rfl⟩ | apply And.intro) | refine tl_int ?_ | refine tl_bool ?_ | refine tl_str ?_ | refine tl_row rfl ?_ | exact cl_ints _ | exact cl_txts _ | exact cl_nds _ | exact cl_mp _ | exact Nat.succ_pos _ | exact pl_ints _ | exact pl_txts _ | exact pl_nds _ | with_reducible refine tl_f ?_)
    exact eqB_no fun e => h (by rw [e])
  have hl : x.length = y.length := by simp at h; omega
  clear h
  conv => whnf
  refine ⟨fun (m : Nat) (es : Es) (hs : Hs) => ∃ i : Nat, m + i = x.length ∧ x.take i = y.take i ∧ es = [(5, .val false [.f (iL i)]), (1, .val false [.f (ints y)]), (0, .val false [.f (ints x)])] ∧ hs = [],
    ⟨x.length, [], [], _, _, ⟨?_, ?_, ?_⟩, 0, rfl, rfl, rfl, rfl⟩, ?_⟩
  · rfl
  · (repeat' first | exact trivial | exact rfl | exact tl_pv rfl rfl rfl (List.cons_ne_nil _ _) | exact tl_ints rfl rfl rfl (by simp) | exact tl_txts rfl rfl rfl (by simp) | exact tl_nds rfl rfl rfl (by simp) | ((conv => whnf); first | exact trivial | exact rfl | exact .inr rfl | exact .inl ⟨rfl, rfl⟩ | apply And.intro) | refine tl_int ?_ | refine tl_bool ?_ | refine tl_str ?_ | refine tl_row rfl ?_ | exact cl_ints _ | exact cl_txts _ | exact cl_nds _ | exact cl_mp _ | exact Nat.succ_pos _ | exact pl_ints _ | exact pl_txts _ | exact pl_nds _ | with_reducible refine tl_f ?_)
  · (repeat' first | exact trivial | exact rfl | exact tl_pv rfl rfl rfl (List.cons_ne_nil _ _) | exact tl_ints rfl rfl rfl (by simp) | exact tl_txts rfl rfl rfl (by simp) | exact tl_nds rfl rfl rfl (by simp) | ((conv => whnf); first | exact trivial | exact rfl | exact .inr rfl | exact .inl ⟨rfl, rfl⟩ | apply And.intro) | refine tl_int ?_ | refine tl_bool ?_ | refine tl_str ?_ | refine tl_row rfl ?_ | exact cl_ints _ | exact cl_txts _ | exact cl_nds _ | exact cl_mp _ | exact Nat.succ_pos _ | exact pl_ints _ | exact pl_txts _ | exact pl_nds _ | with_reducible refine tl_f ?_)
  rintro m es hs ⟨i, hm, ht, rfl, rfl⟩
  conv => whnf
  refine ⟨fun h => ?_, fun h => ?_⟩
  · have hi : i < x.length := by simpa using h
    have hi' : i < y.length := by omega
    conv => whnf
    refine ⟨by kernel_rfl, ?_⟩
    conv => whnf
    refine ⟨(i, intE x[i]), ⟨rfl, by simp [hi]⟩, ?_⟩
    conv => whnf
    refine ⟨(i, intE y[i]), ⟨rfl, by simp [hi']⟩, ?_⟩
    conv => whnf
    refine ⟨fun k => ?_, fun k => ?_⟩
    · conv => whnf
      refine ⟨by kernel_rfl, ?_⟩
      conv => whnf
      refine ⟨[], [], ?_⟩
      (repeat' first | exact trivial | exact rfl | exact tl_pv rfl rfl rfl (List.cons_ne_nil _ _) | exact tl_ints rfl rfl rfl (by simp) | exact tl_txts rfl rfl rfl (by simp) | exact tl_nds rfl rfl rfl (by simp) | ((conv => whnf); first | exact trivial | exact rfl | exact .inr rfl | exact .inl ⟨rfl, rfl⟩ | apply And.intro) | refine tl_int ?_ | refine tl_bool ?_ | refine tl_str ?_ | refine tl_row rfl ?_ | exact cl_ints _ | exact cl_txts _ | exact cl_nds _ | exact cl_mp _ | exact Nat.succ_pos _ | exact pl_ints _ | exact pl_txts _ | exact pl_nds _ | with_reducible refine tl_f ?_)
      exact eqB_no fun e => k (by subst e; rfl)
    · conv => whnf
      refine ⟨by kernel_rfl, ?_⟩
      conv => whnf
      refine ⟨m - 1, [], [], [(5, .val false [.f (iL (i + 1 : Nat))]), (1, .val false [.f (ints y)]), (0, .val false [.f (ints x)])], [], by omega, ⟨?_, ?_, ?_⟩, i + 1, by omega, ?_, rfl, rfl⟩
      · rfl
      · (repeat' first | exact trivial | exact rfl | exact tl_pv rfl rfl rfl (List.cons_ne_nil _ _) | exact tl_ints rfl rfl rfl (by simp) | exact tl_txts rfl rfl rfl (by simp) | exact tl_nds rfl rfl rfl (by simp) | ((conv => whnf); first | exact trivial | exact rfl | exact .inr rfl | exact .inl ⟨rfl, rfl⟩ | apply And.intro) | refine tl_int ?_ | refine tl_bool ?_ | refine tl_str ?_ | refine tl_row rfl ?_ | exact cl_ints _ | exact cl_txts _ | exact cl_nds _ | exact cl_mp _ | exact Nat.succ_pos _ | exact pl_ints _ | exact pl_txts _ | exact pl_nds _ | with_reducible refine tl_f ?_)
        exact wrap_suc (by omega)
      · (repeat' first | exact trivial | exact rfl | exact tl_pv rfl rfl rfl (List.cons_ne_nil _ _) | exact tl_ints rfl rfl rfl (by simp) | exact tl_txts rfl rfl rfl (by simp) | exact tl_nds rfl rfl rfl (by simp) | ((conv => whnf); first | exact trivial | exact rfl | exact .inr rfl | exact .inl ⟨rfl, rfl⟩ | apply And.intro) | refine tl_int ?_ | refine tl_bool ?_ | refine tl_str ?_ | refine tl_row rfl ?_ | exact cl_ints _ | exact cl_txts _ | exact cl_nds _ | exact cl_mp _ | exact Nat.succ_pos _ | exact pl_ints _ | exact pl_txts _ | exact pl_nds _ | with_reducible refine tl_f ?_)
      · rw [List.take_succ_eq_append_getElem hi, List.take_succ_eq_append_getElem hi', ht, Classical.not_not.1 k]
  · have hi : x.length ≤ i := by simpa using h
    conv => whnf
    refine ⟨[], [], ?_⟩
    (repeat' first | exact trivial | exact rfl | exact tl_pv rfl rfl rfl (List.cons_ne_nil _ _) | exact tl_ints rfl rfl rfl (by simp) | exact tl_txts rfl rfl rfl (by simp) | exact tl_nds rfl rfl rfl (by simp) | ((conv => whnf); first | exact trivial | exact rfl | exact .inr rfl | exact .inl ⟨rfl, rfl⟩ | apply And.intro) | refine tl_int ?_ | refine tl_bool ?_ | refine tl_str ?_ | refine tl_row rfl ?_ | exact cl_ints _ | exact cl_txts _ | exact cl_nds _ | exact cl_mp _ | exact Nat.succ_pos _ | exact pl_ints _ | exact pl_txts _ | exact pl_nds _ | with_reducible refine tl_f ?_)
    rw [List.take_of_length_le hi, List.take_of_length_le (by omega)] at ht
    exact eqB_yes ht
theorem nd_ext {a b : Nd} (h1 : a.id = b.id) (h2 : a.kind = b.kind) (h3 : a.attr = b.attr) (h4 : a.text = b.text) (h5 : a.kids = b.kids) : a = b := by
  cases a; cases b; simp_all
theorem isSame_ok (a b : Nd) (hk : a.kids.length < 2 ^ 62) : FC Try.prog 90 [(true, ndL a), (true, ndL b)] [] [(false, [.f (bL (eqB a b))])] := by
  have he := equal_ok a.kids b.kids hk
  refine gcalls_of tbl_ok mixed Try.func90 rfl Try.ntmps90 (by kernel_rfl) (Nat.le_of_ble_eq_true rfl) rfl rfl trivial ?_
  conv => whnf
  refine ⟨fun k1 => ?_, fun k1 => ?_⟩
  · conv => whnf
    refine ⟨fun k2 => ?_, fun k2 => ?_⟩
    · conv => whnf
      refine ⟨fun k3 => ?_, fun k3 => ?_⟩
      · conv => whnf
        refine ⟨fun k4 => ?_, fun k4 => ?_⟩
        · conv => whnf
          by_cases k5 : a.kids = b.kids
          · rw [eqB_iff.2 k5] at he
            refine ⟨([], _), he, ?_⟩
            conv => whnf
            refine ⟨[], [], ?_⟩
            (repeat' first | exact trivial | exact rfl | exact tl_pv rfl rfl rfl (List.cons_ne_nil _ _) | exact tl_ints rfl rfl rfl (by simp) | exact tl_txts rfl rfl rfl (by simp) | exact tl_nds rfl rfl rfl (by simp) | ((conv => whnf); first | exact trivial | exact rfl | exact .inr rfl | exact .inl ⟨rfl, rfl⟩ | apply And.intro) | refine tl_int ?_ | refine tl_bool ?_ | refine tl_str ?_ | refine tl_row rfl ?_ | exact cl_ints _ | exact cl_txts _ | exact cl_nds _ | exact cl_mp _ | exact Nat.succ_pos _ | exact pl_ints _ | exact pl_txts _ | exact pl_nds _ | with_reducible refine tl_f ?_)
            exact eqB_yes (nd_ext k1 k2 k3 k4 k5)
          · rw [← eqB_no k5] at he
            refine ⟨([], _), he, ?_⟩
            conv => whnf
            refine ⟨[], [], ?_⟩
            (repeat' first | exact trivial | exact rfl | exact tl_pv rfl rfl rfl (List.cons_ne_nil _ _) | exact tl_ints rfl rfl rfl (by simp) | exact tl_txts rfl rfl rfl (by simp) | exact tl_nds rfl rfl rfl (by simp) | ((conv => whnf); first | exact trivial | exact rfl | exact .inr rfl | exact .inl ⟨rfl, rfl⟩ | apply And.intro) | refine tl_int ?_ | refine tl_bool ?_ | refine tl_str ?_ | refine tl_row rfl ?_ | exact cl_ints _ | exact cl_txts _ | exact cl_nds _ | exact cl_mp _ | exact Nat.succ_pos _ | exact pl_ints _ | exact pl_txts _ | exact pl_nds _ | with_reducible refine tl_f ?_)
            exact eqB_no fun e => k5 (by rw [e])
        · skip
          conv => whnf
          refine ⟨[], [], ?_⟩
          (repeat' first | exact trivial | exact rfl | exact tl_pv rfl rfl rfl (List.cons_ne_nil _ _) | exact tl_ints rfl rfl rfl (by simp) | exact tl_txts rfl rfl rfl (by simp) | exact tl_nds rfl rfl rfl (by simp) | ((conv => whnf); first | exact trivial | exact rfl | exact .inr rfl | exact .inl ⟨rfl, rfl⟩ | apply And.intro) | refine tl_int ?_ | refine tl_bool ?_ | refine tl_str ?_ | refine tl_row rfl ?_ | exact cl_ints _ | exact cl_txts _ | exact cl_nds _ | exact cl_mp _ | exact Nat.succ_pos _ | exact pl_ints _ | exact pl_txts _ | exact pl_nds _ | with_reducible refine tl_f ?_)
          exact eqB_no fun e => k4 (by rw [e])
      · skip
        conv => whnf
        refine ⟨[], [], ?_⟩
        (repeat' first | exact trivial | exact rfl | exact tl_pv rfl rfl rfl (List.cons_ne_nil _ _) | exact tl_ints rfl rfl rfl (by simp) | exact tl_txts rfl rfl rfl (by simp) | exact tl_nds rfl rfl rfl (by simp) | ((conv => whnf); first | exact trivial | exact rfl | exact .inr rfl | exact .inl ⟨rfl, rfl⟩ | apply And.intro) | refine tl_int ?_ | refine tl_bool ?_ | refine tl_str ?_ | refine tl_row rfl ?_ | exact cl_ints _ | exact cl_txts _ | exact cl_nds _ | exact cl_mp _ | exact Nat.succ_pos _ | exact pl_ints _ | exact pl_txts _ | exact pl_nds _ | with_reducible refine tl_f ?_)
        exact eqB_no fun e => k3 (by rw [e])
    · skip
      conv => whnf
      refine ⟨[], [], ?_⟩
      (repeat' first | exact trivial | exact rfl | exact tl_pv rfl rfl rfl (List.cons_ne_nil _ _) | exact tl_ints rfl rfl rfl (by simp) | exact tl_txts rfl rfl rfl (by simp) | exact tl_nds rfl rfl rfl (by simp) | ((conv => whnf); first | exact trivial | exact rfl | exact .inr rfl | exact .inl ⟨rfl, rfl⟩ | apply And.intro) | refine tl_int ?_ | refine tl_bool ?_ | refine tl_str ?_ | refine tl_row rfl ?_ | exact cl_ints _ | exact cl_txts _ | exact cl_nds _ | exact cl_mp _ | exact Nat.succ_pos _ | exact pl_ints _ | exact pl_txts _ | exact pl_nds _ | with_reducible refine tl_f ?_)
      exact eqB_no fun e => k2 (by rw [e])
  · skip
    conv => whnf
    refine ⟨[], [], ?_⟩
    (repeat' first | exact trivial | exact rfl | exact tl_pv rfl rfl rfl (List.cons_ne_nil _ _) | exact tl_ints rfl rfl rfl (by simp) | exact tl_txts rfl rfl rfl (by simp) | exact tl_nds rfl rfl rfl (by simp) | ((conv => whnf); first | exact trivial | exact rfl | exact .inr rfl | exact .inl ⟨rfl, rfl⟩ | apply And.intro) | refine tl_int ?_ | refine tl_bool ?_ | refine tl_str ?_ | refine tl_row rfl ?_ | exact cl_ints _ | exact cl_txts _ | exact cl_nds _ | exact cl_mp _ | exact Nat.succ_pos _ | exact pl_ints _ | exact pl_txts _ | exact pl_nds _ | with_reducible refine tl_f ?_)
    exact eqB_no fun e => k1 (by rw [e])
theorem l02SameNode_ok (a b : Nd) (hk : a.kids.length < 2 ^ 62) : FC Try.prog 86 [(true, ndL a), (true, ndL b)] [] [(false, [.f (bL (eqB a b))])] := by
  have he := l00Same_ok a.kids b.kids hk
  refine gcalls_of tbl_ok mixed Try.func86 rfl Try.ntmps86 (by kernel_rfl) (Nat.le_of_ble_eq_true rfl) rfl rfl trivial ?_
  conv => whnf
  refine ⟨fun k1 => ?_, fun k1 => ?_⟩
  · conv => whnf
    refine ⟨fun k2 => ?_, fun k2 => ?_⟩
    · conv => whnf
      refine ⟨fun k3 => ?_, fun k3 => ?_⟩
      · conv => whnf
        refine ⟨fun k4 => ?_, fun k4 => ?_⟩
        · conv => whnf
          by_cases k5 : a.kids = b.kids
          · rw [eqB_iff.2 k5] at he
            refine ⟨([], _), he, ?_⟩
            conv => whnf
            refine ⟨[], [], ?_⟩
            (repeat' first | exact trivial | exact rfl | exact tl_pv rfl rfl rfl (List.cons_ne_nil _ _) | exact tl_ints rfl rfl rfl (by simp) | exact tl_txts rfl rfl rfl (by simp) | exact tl_nds rfl rfl rfl (by simp) | ((conv => whnf); first | exact trivial | exact rfl | exact .inr rfl | exact .inl ⟨rfl, rfl⟩ | apply And.intro) | refine tl_int ?_ | refine tl_bool ?_ | refine tl_str ?_ | refine tl_row rfl ?_ | exact cl_ints _ | exact cl_txts _ | exact cl_nds _ | exact cl_mp _ | exact Nat.succ_pos _ | exact pl_ints _ | exact pl_txts _ | exact pl_nds _ | with_reducible refine tl_f ?_)
            exact eqB_yes (nd_ext k1 k2 k3 k4 k5)
          · rw [← eqB_no k5] at he
            refine ⟨([], _), he, ?_⟩
            conv => whnf
            refine ⟨[], [], ?_⟩
            (repeat' first | exact trivial | exact rfl | exact tl_pv rfl rfl rfl (List.cons_ne_nil _ _) | exact tl_ints rfl rfl rfl (by simp) | exact tl_txts rfl rfl rfl (by simp) | exact tl_nds rfl rfl rfl (by simp) | ((conv => whnf); first | exact trivial | exact rfl | exact .inr rfl | exact .inl ⟨rfl, rfl⟩ | apply And.intro) | refine tl_int ?_ | refine tl_bool ?_ | refine tl_str ?_ | refine tl_row rfl ?_ | exact cl_ints _ | exact cl_txts _ | exact cl_nds _ | exact cl_mp _ | exact Nat.succ_pos _ | exact pl_ints _ | exact pl_txts _ | exact pl_nds _ | with_reducible refine tl_f ?_)
            exact eqB_no fun e => k5 (by rw [e])
        · skip
          conv => whnf
          refine ⟨[], [], ?_⟩
          (repeat' first | exact trivial | exact rfl | exact tl_pv rfl rfl rfl (List.cons_ne_nil _ _) | exact tl_ints rfl rfl rfl (by simp) | exact tl_txts rfl rfl rfl (by simp) | exact tl_nds rfl rfl rfl (by simp) | ((conv => whnf); first | exact trivial | exact rfl | exact .inr rfl | exact .inl ⟨rfl, rfl⟩ | apply And.intro) | refine tl_int ?_ | refine tl_bool ?_ | refine tl_str ?_ | refine tl_row rfl ?_ | exact cl_ints _ | exact cl_txts _ | exact cl_nds _ | exact cl_mp _ | exact Nat.succ_pos _ | exact pl_ints _ | exact pl_txts _ | exact pl_nds _ | with_reducible refine tl_f ?_)
          exact eqB_no fun e => k4 (by rw [e])
      · skip
        conv => whnf
        refine ⟨[], [], ?_⟩
        (repeat' first | exact trivial | exact rfl | exact tl_pv rfl rfl rfl (List.cons_ne_nil _ _) | exact tl_ints rfl rfl rfl (by simp) | exact tl_txts rfl rfl rfl (by simp) | exact tl_nds rfl rfl rfl (by simp) | ((conv => whnf); first | exact trivial | exact rfl | exact .inr rfl | exact .inl ⟨rfl, rfl⟩ | apply And.intro) | refine tl_int ?_ | refine tl_bool ?_ | refine tl_str ?_ | refine tl_row rfl ?_ | exact cl_ints _ | exact cl_txts _ | exact cl_nds _ | exact cl_mp _ | exact Nat.succ_pos _ | exact pl_ints _ | exact pl_txts _ | exact pl_nds _ | with_reducible refine tl_f ?_)
        exact eqB_no fun e => k3 (by rw [e])
    · skip
      conv => whnf
      refine ⟨[], [], ?_⟩
      (repeat' first | exact trivial | exact rfl | exact tl_pv rfl rfl rfl (List.cons_ne_nil _ _) | exact tl_ints rfl rfl rfl (by simp) | exact tl_txts rfl rfl rfl (by simp) | exact tl_nds rfl rfl rfl (by simp) | ((conv => whnf); first | exact trivial | exact rfl | exact .inr rfl | exact .inl ⟨rfl, rfl⟩ | apply And.intro) | refine tl_int ?_ | refine tl_bool ?_ | refine tl_str ?_ | refine tl_row rfl ?_ | exact cl_ints _ | exact cl_txts _ | exact cl_nds _ | exact cl_mp _ | exact Nat.succ_pos _ | exact pl_ints _ | exact pl_txts _ | exact pl_nds _ | with_reducible refine tl_f ?_)
      exact eqB_no fun e => k2 (by rw [e])
  · skip
    conv => whnf
    refine ⟨[], [], ?_⟩
    (repeat' first | exact trivial | exact rfl | exact tl_pv rfl rfl rfl (List.cons_ne_nil _ _) | exact tl_ints rfl rfl rfl (by simp) | exact tl_txts rfl rfl rfl (by simp) | exact tl_nds rfl rfl rfl (by simp) | ((conv => whnf); first | exact trivial | exact rfl | exact .inr rfl | exact .inl ⟨rfl, rfl⟩ | apply And.intro) | refine tl_int ?_ | refine tl_bool ?_ | refine tl_str ?_ | refine tl_row rfl ?_ | exact cl_ints _ | exact cl_txts _ | exact cl_nds _ | exact cl_mp _ | exact Nat.succ_pos _ | exact pl_ints _ | exact pl_txts _ | exact pl_nds _ | with_reducible refine tl_f ?_)
    exact eqB_no fun e => k1 (by rw [e])
def Rev (l : List Int) (i : Nat) (c : List Int) : Prop := c.length = l.length ∧ ∀ k, k < l.length → c[k]? = if k < i ∨ l.length < k + i + 1 then l[l.length - 1 - k]? else l[k]?
theorem Rev.step {l c : List Int} {i : Nat} (h : Rev l i c) (hi : 2 * i + 1 < l.length) {x y : Int} (hx : c[i]? = some x) (hy : c[l.length - 1 - i]? = some y) : Rev l (i + 1) ((c.set i y).set (l.length - 1 - i) x) := by
  obtain ⟨h1, h2⟩ := h
  refine ⟨by simp [h1], fun k hk => ?_⟩
  have ex : l[i]? = some x := by rw [← hx, h2 i (by omega), if_neg (by omega)]
  have ey : l[l.length - 1 - i]? = some y := by rw [← hy, h2 _ (by omega), if_neg (by omega)]
  by_cases k1 : l.length - 1 - i = k
  · subst k1
    rw [List.getElem?_set_self (by simp; omega), if_pos (by omega), show l.length - 1 - (l.length - 1 - i) = i by omega, ex]
  · rw [List.getElem?_set_ne k1]
    by_cases k2 : i = k
    · subst k2
      rw [List.getElem?_set_self (by omega), if_pos (by omega), ey]
    · rw [List.getElem?_set_ne k2, h2 k hk]
      by_cases k3 : k < i ∨ l.length < k + i + 1
      · rw [if_pos k3, if_pos (by omega)]
      · rw [if_neg k3, if_neg (by omega)]
theorem Rev.done {l c : List Int} {i : Nat} (h : Rev l i c) (hi : l.length ≤ 2 * i + 1) : c = l.reverse := by
  apply List.ext_getElem?
  intro k
  by_cases hk : k < l.length
  · rw [h.2 k hk, List.getElem?_reverse hk]
    by_cases k1 : k < i ∨ l.length < k + i + 1
    · rw [if_pos k1]
    · rw [if_neg k1, show l.length - 1 - k = k by omega]
  · rw [List.getElem?_eq_none (by rw [h.1]; omega), List.getElem?_eq_none (by simp; omega)]
end Go.Proofs.Ytfafehhallbjiaa.Ac
namespace Go.Proofs
open Go.Shelf
def Try.lays189_ren : Go.Shelf.Ren := ⟨fun | 189 => 91 | 125 => 125 | 257 => 124 | 128 => 156 | 129 => 157 | 294 => 147 | 295 => 148 | 296 => 149 | 297 => 150 | 298 => 151 | 299 => 152 | 216 => 153 | 300 => 154 | 301 => 155 | 328 => 174 | 329 => 175 | 330 => 176 | 331 => 177 | 332 => 178 | 215 => 179 | 343 => 184 | n => n, fun | 28 => 40 | 3 => 3 | 46 => 142 | 0 => 0 | 51 => 156 | 53 => 158 | 4 => 4 | 183 => 150 | 182 => 149 | 131 => 137 | 5 => 5 | 9 => 9 | 218 => 172 | 222 => 176 | 228 => 180 | 229 => 95 | n => n, fun | n => n⟩
theorem Try.lays189 : Go.Proofs.Lays.n189 Try.prog Try.lays189_ren := {
  mixed := by kernel_rfl
  f125 := Try.func125.trans (congrArg some (by kernel_rfl))
  f128 := Try.func156.trans (congrArg some (by kernel_rfl))
  f129 := Try.func157.trans (congrArg some (by kernel_rfl))
  f189 := Try.func91.trans (congrArg some (by kernel_rfl))
  f215 := Try.func179.trans (congrArg some (by kernel_rfl))
  f216 := Try.func153.trans (congrArg some (by kernel_rfl))
  f257 := Try.func124.trans (congrArg some (by kernel_rfl))
  f294 := Try.func147.trans (congrArg some (by kernel_rfl))
  f295 := Try.func148.trans (congrArg some (by kernel_rfl))
  f296 := Try.func149.trans (congrArg some (by kernel_rfl))
  f297 := Try.func150.trans (congrArg some (by kernel_rfl))
  f298 := Try.func151.trans (congrArg some (by kernel_rfl))
  f299 := Try.func152.trans (congrArg some (by kernel_rfl))
  f300 := Try.func154.trans (congrArg some (by kernel_rfl))
  f301 := Try.func155.trans (congrArg some (by kernel_rfl))
  f328 := Try.func174.trans (congrArg some (by kernel_rfl))
  f329 := Try.func175.trans (congrArg some (by kernel_rfl))
  f330 := Try.func176.trans (congrArg some (by kernel_rfl))
  f331 := Try.func177.trans (congrArg some (by kernel_rfl))
  f332 := Try.func178.trans (congrArg some (by kernel_rfl))
  f343 := Try.func184.trans (congrArg some (by kernel_rfl))
  t0 := Try.underlying0
  a0 := Try.isAgg0
  z0 := Try.sizeOf0
  v0 := Try.zeroValue0
  t3 := Try.underlying3
  a3 := Try.isAgg3
  z3 := Try.sizeOf3
  v3 := Try.zeroValue3
  t4 := Try.underlying4
  a4 := Try.isAgg4
  z4 := Try.sizeOf4
  v4 := Try.zeroValue4
  t5 := Try.underlying5
  a5 := Try.isAgg5
  z5 := Try.sizeOf5
  v5 := Try.zeroValue5
  t9 := Try.underlying9
  a9 := Try.isAgg9
  z9 := Try.sizeOf9
  v9 := Try.zeroValue9
  t28 := Try.underlying40
  a28 := Try.isAgg40
  z28 := Try.sizeOf40
  v28 := Try.zeroValue40
  t46 := Try.underlying142
  a46 := Try.isAgg142
  z46 := Try.sizeOf142
  v46 := Try.zeroValue142
  t51 := Try.underlying156
  a51 := Try.isAgg156
  z51 := Try.sizeOf156
  v51 := Try.zeroValue156
  t53 := Try.underlying158
  a53 := Try.isAgg158
  z53 := Try.sizeOf158
  v53 := Try.zeroValue158
  t131 := Try.underlying137
  a131 := Try.isAgg137
  z131 := Try.sizeOf137
  v131 := Try.zeroValue137
  t182 := Try.underlying149
  a182 := Try.isAgg149
  z182 := Try.sizeOf149
  v182 := Try.zeroValue149
  t183 := Try.underlying150
  a183 := Try.isAgg150
  z183 := Try.sizeOf150
  v183 := Try.zeroValue150
  t218 := Try.underlying172
  a218 := Try.isAgg172
  z218 := Try.sizeOf172
  v218 := Try.zeroValue172
  t222 := Try.underlying176
  a222 := Try.isAgg176
  z222 := Try.sizeOf176
  v222 := Try.zeroValue176
  t228 := Try.underlying180
  a228 := Try.isAgg180
  z228 := Try.sizeOf180
  v228 := Try.zeroValue180
  t229 := Try.underlying95
  a229 := Try.isAgg95
  z229 := Try.sizeOf95
  v229 := Try.zeroValue95 }
open Go.Sort Go.RowKit in
theorem Try.slices_Sort_int (blk off cap : Nat) (zs : List Int) (w : World) (hH : Holds (Value.int .i64) w blk off zs.toArray) (hblk : blk < w.heap.size) (hsz : zs.length < 4611686018427387904) :
    Calls Try.prog 91 #[.slice (some ⟨blk, off, none⟩) zs.length cap] w fun e w' =>
      e = .returned (.tuple #[]) ∧ ∃ n os, w' = grow (putRow (Value.int .i64) (Sort.ahead w n) blk off (zs.mergeSort fun x y => decide (x ≤ y)).toArray) os := Any.slices_Sort_int Try.lays189 blk off cap zs w hH hblk hsz
open Go.RowKit Go.Sort in
theorem Try.slices_Sort_int_none (p : Option Addr) (cap : Nat) (w : World) :
    Calls Try.prog 91 #[.slice p 0 cap] w fun e w' => e = .returned (.tuple #[]) ∧ w' = w := Any.slices_Sort_int_none Try.lays189 p cap w
end Go.Proofs
