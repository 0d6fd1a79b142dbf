/- Several of our texts, one behind the other, without what this claim does not need: Wm. -/
import Derived.Test.YtchfpgpboifbeaaGreatZ1dcf0445
set_option linter.unusedVariables false
set_option linter.unusedSimpArgs false
set_option maxRecDepth 20000
set_option maxHeartbeats 2000000
namespace Go.Proofs.YtchfpgpboifbeaaGreat.Ac
open Go.RowKit
theorem fill_set {α : Type} {f : α → List A} {z : List A} {x : List α} {i : Nat} (hi : i < x.length) : (((x.take i).map f) ++ List.replicate (x.length - i) z).set i (f x[i]) = (x.take (i + 1)).map f ++ List.replicate (x.length - (i + 1)) z := by
  have h1 : ((x.take i).map f).length = i := by simp; omega
  rw [List.set_append_right _ _ (by omega), h1, Nat.sub_self, show x.length - i = (x.length - (i + 1)) + 1 by omega, List.replicate_succ, List.set_cons_zero, List.take_succ_eq_append_getElem hi, List.map_append, List.append_assoc]
  rfl
theorem fill_get {α : Type} {f : α → List A} {z : List A} {x : List α} {i : Nat} (hi : i < x.length) : (((x.take i).map f) ++ List.replicate (x.length - i) z)[i]? = some z := by
  have h1 : ((x.take i).map f).length = i := by simp; omega
  rw [List.getElem?_append_right (by omega), h1, Nat.sub_self, show x.length - i = (x.length - (i + 1)) + 1 by omega, List.replicate_succ]
  rfl
theorem cl_rep {e : List A} (n : Nat) (h : clC e) : clR (List.replicate n e) := by
  induction n with
  | zero => trivial
  | succ n ih => exact ⟨h, ih⟩
theorem toIntS_ok (x : List Int) (hx : x.length < 2 ^ 28) : FC Tryz.prog 227 [(false, [ints x])] [(1000, some ⟨0, 1, x.map intW⟩)] [(false, [.row 1000 0 x.length])] := by
  refine gcalls_of tbl_ok mixed Tryz.func227 rfl Tryz.ntmps227 (by kernel_rfl) (Nat.le_of_ble_eq_true rfl) rfl rfl (⟨cl_ints _, trivial⟩) ?_
  (conv => whnf)
  refine ⟨(x.length, x.length), ⟨by simp, by simp, Nat.le_refl _, by dsimp only; omega⟩, ?_⟩
  (conv => whnf)
  refine ⟨fun (m : Nat) (es : Es) (hs : Hs) => ∃ i : Nat, m + i = x.length ∧ es = [(4, .val false [.f (iL i)]), (3, .val false [.row 3 0 x.length]), (0, .val false [.f (ints x)])] ∧ hs = [(3, some ⟨0, 1, (x.take i).map intW ++ List.replicate (x.length - i) (intW 0)⟩)],
    ⟨x.length, [], [(3, 128)], _, _, ⟨?_, ?_, ?_⟩, 0, rfl, rfl, rfl⟩, ?_⟩
  · rfl
  · (repeat' first | exact trivial | exact rfl | exact tl_pv rfl rfl rfl (List.cons_ne_nil _ _) | exact ⟨_, rfl, frzC_map _⟩ | exact tl_ints rfl rfl rfl (by simp) | exact tl_txts rfl rfl rfl (by simp) | exact tl_nds rfl rfl rfl (by simp) | ((conv => whnf); first | exact trivial | exact rfl | exact .inr rfl | exact .inl ⟨rfl, rfl⟩ | apply And.intro) | refine tl_int ?_ | refine tl_bool ?_ | refine tl_str ?_ | refine tl_row rfl ?_ | exact cl_ints _ | exact cl_txts _ | exact cl_nds _ | exact cl_mp _ | exact Nat.succ_pos _ | exact pl_ints _ | exact pl_txts _ | exact pl_nds _ | with_reducible refine tl_f ?_)
  · (repeat' first | exact trivial | exact rfl | exact tl_pv rfl rfl rfl (List.cons_ne_nil _ _) | exact ⟨_, rfl, frzC_map _⟩ | exact tl_ints rfl rfl rfl (by simp) | exact tl_txts rfl rfl rfl (by simp) | exact tl_nds rfl rfl rfl (by simp) | ((conv => whnf); first | exact trivial | exact rfl | exact .inr rfl | exact .inl ⟨rfl, rfl⟩ | apply And.intro) | refine tl_int ?_ | refine tl_bool ?_ | refine tl_str ?_ | refine tl_row rfl ?_ | exact cl_ints _ | exact cl_txts _ | exact cl_nds _ | exact cl_mp _ | exact Nat.succ_pos _ | exact pl_ints _ | exact pl_txts _ | exact pl_nds _ | with_reducible refine tl_f ?_)
    exact cl_app (cl_ints _) (cl_rep x.length ⟨trivial, trivial⟩)
  rintro m es hs ⟨i, hm, rfl, rfl⟩
  (conv => whnf)
  refine ⟨fun h => ?_, fun h => ?_⟩
  · have hi : i < x.length := by simpa using h
    (conv => whnf)
    refine ⟨(i, intE x[i]), ⟨rfl, by simp [hi]⟩, ?_⟩
    (conv => whnf)
    refine ⟨i, ⟨rfl, hi⟩, ?_⟩
    (conv => whnf)
    refine ⟨intW 0, fill_get hi, ?_⟩
    (conv => whnf)
    refine ⟨m - 1, [], [], [(4, .val false [.f (iL (i + 1 : Nat))]), (3, .val false [.row 3 0 x.length]), (0, .val false [.f (ints x)])], [(3, some ⟨0, 1, (x.take (i + 1)).map intW ++ List.replicate (x.length - (i + 1)) (intW 0)⟩)], by omega, ⟨?_, ?_, ?_⟩, i + 1, by omega, rfl, rfl⟩
    · rfl
    · (repeat' first | exact trivial | exact rfl | exact tl_pv rfl rfl rfl (List.cons_ne_nil _ _) | exact ⟨_, rfl, frzC_map _⟩ | exact tl_ints rfl rfl rfl (by simp) | exact tl_txts rfl rfl rfl (by simp) | exact tl_nds rfl rfl rfl (by simp) | ((conv => whnf); first | exact trivial | exact rfl | exact .inr rfl | exact .inl ⟨rfl, rfl⟩ | apply And.intro) | refine tl_int ?_ | refine tl_bool ?_ | refine tl_str ?_ | refine tl_row rfl ?_ | exact cl_ints _ | exact cl_txts _ | exact cl_nds _ | exact cl_mp _ | exact Nat.succ_pos _ | exact pl_ints _ | exact pl_txts _ | exact pl_nds _ | with_reducible refine tl_f ?_)
      exact wrap_suc (by omega)
    · (repeat' first | exact trivial | exact rfl | exact tl_pv rfl rfl rfl (List.cons_ne_nil _ _) | exact ⟨_, rfl, frzC_map _⟩ | exact tl_ints rfl rfl rfl (by simp) | exact tl_txts rfl rfl rfl (by simp) | exact tl_nds rfl rfl rfl (by simp) | ((conv => whnf); first | exact trivial | exact rfl | exact .inr rfl | exact .inl ⟨rfl, rfl⟩ | apply And.intro) | refine tl_int ?_ | refine tl_bool ?_ | refine tl_str ?_ | refine tl_row rfl ?_ | exact cl_ints _ | exact cl_txts _ | exact cl_nds _ | exact cl_mp _ | exact Nat.succ_pos _ | exact pl_ints _ | exact pl_txts _ | exact pl_nds _ | with_reducible refine tl_f ?_)
      · exact fill_set (f := intW) hi
      · exact cl_app (cl_ints _) (cl_rep _ ⟨trivial, trivial⟩)
  · have hi : x.length ≤ i := by simpa using h
    have e : (x.take i).map intW ++ List.replicate (x.length - i) (intW 0) = x.map intW := by rw [List.take_of_length_le hi, show x.length - i = 0 by omega]; simp
    rw [e]
    (conv => whnf)
    refine ⟨[], [(1000, 3)], ?_⟩
    (repeat' first | exact trivial | exact rfl | exact tl_pv rfl rfl rfl (List.cons_ne_nil _ _) | exact ⟨_, rfl, frzC_map _⟩ | exact tl_ints rfl rfl rfl (by simp) | exact tl_txts rfl rfl rfl (by simp) | exact tl_nds rfl rfl rfl (by simp) | ((conv => whnf); first | exact trivial | exact rfl | exact .inr rfl | exact .inl ⟨rfl, rfl⟩ | apply And.intro) | refine tl_int ?_ | refine tl_bool ?_ | refine tl_str ?_ | refine tl_row rfl ?_ | exact cl_ints _ | exact cl_txts _ | exact cl_nds _ | exact cl_mp _ | exact Nat.succ_pos _ | exact pl_ints _ | exact pl_txts _ | exact pl_nds _ | with_reducible refine tl_f ?_)
theorem toNode_ok (n : Nd) (hk : n.kids.length < 2 ^ 28) : FC Tryz.prog 154 [(true, ndL n)] [(1000, some ⟨0, 1, n.kids.map intW⟩)] [(true, [.f (iL n.id), .f (iL n.kind), .f (iL n.attr), .f (sL n.text), .row 1000 0 n.kids.length])] := by
  refine gcalls_of tbl_ok mixed Tryz.func154 rfl Tryz.ntmps154 (by kernel_rfl) (Nat.le_of_ble_eq_true rfl) rfl rfl (⟨cl_ints _, trivial⟩) ?_
  (conv => whnf)
  refine ⟨(_, _), toIntS_ok n.kids hk, ?_⟩
  (conv => whnf)
  refine ⟨[], [(1000, 304)], ?_⟩
  (repeat' first | exact trivial | exact rfl | exact tl_pv rfl rfl rfl (List.cons_ne_nil _ _) | exact ⟨_, rfl, frzC_map _⟩ | exact tl_ints rfl rfl rfl (by simp) | exact tl_txts rfl rfl rfl (by simp) | exact tl_nds rfl rfl rfl (by simp) | ((conv => whnf); first | exact trivial | exact rfl | exact .inr rfl | exact .inl ⟨rfl, rfl⟩ | apply And.intro) | refine tl_int ?_ | refine tl_bool ?_ | refine tl_str ?_ | refine tl_row rfl ?_ | exact cl_ints _ | exact cl_txts _ | exact cl_nds _ | exact cl_mp _ | exact Nat.succ_pos _ | exact pl_ints _ | exact pl_txts _ | exact pl_nds _ | with_reducible refine tl_f ?_)
@[reducible] def zNd : List A := [.f (iL 0), .f (iL 0), .f (iL 0), .f (sL ⟨#[]⟩), .nl]
theorem toNodeS_ok (x : List Nd) (hx : x.length < 2 ^ 28) (hk : ∀ n ∈ x, n.kids.length < 2 ^ 28) : FC Tryz.prog 73 [(false, [nds x])] [(1000, some ⟨0, 5, x.map ndW⟩)] [(false, [.row 1000 0 x.length])] := by
  refine gcalls_of tbl_ok mixed Tryz.func73 rfl Tryz.ntmps73 (by kernel_rfl) (Nat.le_of_ble_eq_true rfl) rfl rfl (⟨cl_nds _, trivial⟩) ?_
  (conv => whnf)
  refine ⟨(x.length, x.length), ⟨by simp, by simp, Nat.le_refl _, by dsimp only; omega⟩, ?_⟩
  (conv => whnf)
  refine ⟨fun (m : Nat) (es : Es) (hs : Hs) => ∃ i : Nat, m + i = x.length ∧ es = [(4, .val false [.f (iL i)]), (3, .val false [.row 3 0 x.length]), (0, .val false [.f (nds x)])] ∧ hs = [(3, some ⟨0, 5, (x.take i).map ndW ++ List.replicate (x.length - i) zNd⟩)],
    ⟨x.length, [], [(3, 128)], _, _, ⟨?_, ?_, ?_⟩, 0, rfl, rfl, rfl⟩, ?_⟩
  · rfl
  · (repeat' first | exact trivial | exact rfl | exact tl_pv rfl rfl rfl (List.cons_ne_nil _ _) | exact ⟨_, rfl, frzC_map _⟩ | exact tl_ints rfl rfl rfl (by simp) | exact tl_txts rfl rfl rfl (by simp) | exact tl_nds rfl rfl rfl (by simp) | ((conv => whnf); first | exact trivial | exact rfl | exact .inr rfl | exact .inl ⟨rfl, rfl⟩ | apply And.intro) | refine tl_int ?_ | refine tl_bool ?_ | refine tl_str ?_ | refine tl_row rfl ?_ | exact cl_ints _ | exact cl_txts _ | exact cl_nds _ | exact cl_mp _ | exact Nat.succ_pos _ | exact pl_ints _ | exact pl_txts _ | exact pl_nds _ | with_reducible refine tl_f ?_)
  · (repeat' first | exact trivial | exact rfl | exact tl_pv rfl rfl rfl (List.cons_ne_nil _ _) | exact ⟨_, rfl, frzC_map _⟩ | exact tl_ints rfl rfl rfl (by simp) | exact tl_txts rfl rfl rfl (by simp) | exact tl_nds rfl rfl rfl (by simp) | ((conv => whnf); first | exact trivial | exact rfl | exact .inr rfl | exact .inl ⟨rfl, rfl⟩ | apply And.intro) | refine tl_int ?_ | refine tl_bool ?_ | refine tl_str ?_ | refine tl_row rfl ?_ | exact cl_ints _ | exact cl_txts _ | exact cl_nds _ | exact cl_mp _ | exact Nat.succ_pos _ | exact pl_ints _ | exact pl_txts _ | exact pl_nds _ | with_reducible refine tl_f ?_)
    exact cl_app (cl_nds _) (cl_rep x.length ⟨trivial, trivial, trivial, trivial, trivial, trivial⟩)
  rintro m es hs ⟨i, hm, rfl, rfl⟩
  (conv => whnf)
  refine ⟨fun h => ?_, fun h => ?_⟩
  · have hi : i < x.length := by simpa using h
    (conv => whnf)
    refine ⟨(i, ndL x[i]), ⟨rfl, by simp [hi]⟩, ?_⟩
    (conv => whnf)
    refine ⟨(_, _), toNode_ok x[i] (hk _ (List.getElem_mem _)), ?_⟩
    (conv => whnf)
    refine ⟨i, ⟨rfl, hi⟩, ?_⟩
    (conv => whnf)
    refine ⟨zNd, fill_get hi, ?_⟩
    (conv => whnf)
    refine ⟨m - 1, [(336, 3, i, 4)], [], [(4, .val false [.f (iL (i + 1 : Nat))]), (3, .val false [.row 3 0 x.length]), (0, .val false [.f (nds x)])], [(3, some ⟨0, 5, (x.take (i + 1)).map ndW ++ List.replicate (x.length - (i + 1)) zNd⟩)], by omega, ?_, i + 1, by omega, rfl, rfl⟩
    (conv => whnf)
    refine ⟨_, List.getElem?_set_self (by simp; omega), ?_⟩
    (conv => whnf)
    refine ⟨x[i].kids.map intW, by rw [List.take_of_length_le (by simp)], ?_⟩
    (conv => whnf)
    refine ⟨?_, ?_, ?_⟩
    · rfl
    · (repeat' first | exact trivial | exact rfl | exact tl_pv rfl rfl rfl (List.cons_ne_nil _ _) | exact ⟨_, rfl, frzC_map _⟩ | exact tl_ints rfl rfl rfl (by simp) | exact tl_txts rfl rfl rfl (by simp) | exact tl_nds rfl rfl rfl (by simp) | ((conv => whnf); first | exact trivial | exact rfl | exact .inr rfl | exact .inl ⟨rfl, rfl⟩ | apply And.intro) | refine tl_int ?_ | refine tl_bool ?_ | refine tl_str ?_ | refine tl_row rfl ?_ | exact cl_ints _ | exact cl_txts _ | exact cl_nds _ | exact cl_mp _ | exact Nat.succ_pos _ | exact pl_ints _ | exact pl_txts _ | exact pl_nds _ | with_reducible refine tl_f ?_)
      exact wrap_suc (by omega)
    · (repeat' first | exact trivial | exact rfl | exact tl_pv rfl rfl rfl (List.cons_ne_nil _ _) | exact ⟨_, rfl, frzC_map _⟩ | exact tl_ints rfl rfl rfl (by simp) | exact tl_txts rfl rfl rfl (by simp) | exact tl_nds rfl rfl rfl (by simp) | ((conv => whnf); first | exact trivial | exact rfl | exact .inr rfl | exact .inl ⟨rfl, rfl⟩ | apply And.intro) | refine tl_int ?_ | refine tl_bool ?_ | refine tl_str ?_ | refine tl_row rfl ?_ | exact cl_ints _ | exact cl_txts _ | exact cl_nds _ | exact cl_mp _ | exact Nat.succ_pos _ | exact pl_ints _ | exact pl_txts _ | exact pl_nds _ | with_reducible refine tl_f ?_)
      · rw [List.set_set]
        exact fill_set (f := ndW) hi
      · exact cl_app (cl_nds _) (cl_rep _ ⟨trivial, trivial, trivial, trivial, trivial, trivial⟩)
  · have hi : x.length ≤ i := by simpa using h
    have e : (x.take i).map ndW ++ List.replicate (x.length - i) zNd = x.map ndW := by rw [List.take_of_length_le hi, show x.length - i = 0 by omega]; simp
    rw [e]
    (conv => whnf)
    refine ⟨[], [(1000, 3)], ?_⟩
    (repeat' first | exact trivial | exact rfl | exact tl_pv rfl rfl rfl (List.cons_ne_nil _ _) | exact ⟨_, rfl, frzC_map _⟩ | exact tl_ints rfl rfl rfl (by simp) | exact tl_txts rfl rfl rfl (by simp) | exact tl_nds rfl rfl rfl (by simp) | ((conv => whnf); first | exact trivial | exact rfl | exact .inr rfl | exact .inl ⟨rfl, rfl⟩ | apply And.intro) | refine tl_int ?_ | refine tl_bool ?_ | refine tl_str ?_ | refine tl_row rfl ?_ | exact cl_ints _ | exact cl_txts _ | exact cl_nds _ | exact cl_mp _ | exact Nat.succ_pos _ | exact pl_ints _ | exact pl_txts _ | exact pl_nds _ | with_reducible refine tl_f ?_)
theorem toDoc_ok (d : Dc) (hx : d.nodes.length < 2 ^ 28) (hk : ∀ n ∈ d.nodes, n.kids.length < 2 ^ 28) : FC Tryz.prog 18 [(true, dcL d)] [(1000, some ⟨0, 5, d.nodes.map ndW⟩)] [(true, [.f (iL d.root), .f (iL d.next), .row 1000 0 d.nodes.length])] := by
  refine gcalls_of tbl_ok mixed Tryz.func18 rfl Tryz.ntmps18 (by kernel_rfl) (Nat.le_of_ble_eq_true rfl) rfl rfl (⟨cl_nds _, trivial⟩) ?_
  (conv => whnf)
  refine ⟨(_, _), toNodeS_ok d.nodes hx hk, ?_⟩
  (conv => whnf)
  refine ⟨[], [(1000, 208)], ?_⟩
  (repeat' first | exact trivial | exact rfl | exact tl_pv rfl rfl rfl (List.cons_ne_nil _ _) | exact ⟨_, rfl, frzC_map _⟩ | exact tl_ints rfl rfl rfl (by simp) | exact tl_txts rfl rfl rfl (by simp) | exact tl_nds rfl rfl rfl (by simp) | ((conv => whnf); first | exact trivial | exact rfl | exact .inr rfl | exact .inl ⟨rfl, rfl⟩ | apply And.intro) | refine tl_int ?_ | refine tl_bool ?_ | refine tl_str ?_ | refine tl_row rfl ?_ | exact cl_ints _ | exact cl_txts _ | exact cl_nds _ | exact cl_mp _ | exact Nat.succ_pos _ | exact pl_ints _ | exact pl_txts _ | exact pl_nds _ | with_reducible refine tl_f ?_)
end Go.Proofs.YtchfpgpboifbeaaGreat.Ac
