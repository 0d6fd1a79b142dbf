/- Several of our texts, one behind the other, without what this claim does not need: Rs, Wb. -/
import Derived.Test.YtchfpgpboifbeaaGreatZ7a97f5de
import Derived.Test.YtchfpgpboifbeaaGreatZ0728e469
set_option linter.unusedVariables false
set_option linter.unusedSimpArgs false
set_option maxRecDepth 20000
set_option maxHeartbeats 20000000
namespace Go.Proofs.YtchfpgpboifbeaaGreat.Ac
open Go.RowKit
theorem toDoc_sz (x : Dc) (h : szD x ≤ 2 ^ 20) : FC Tryz.prog 18 [(true, dcL x)] [(1000, some ⟨0, 5, x.nodes.map ndW⟩)] [(true, [.f (iL x.root), .f (iL x.next), .row 1000 0 x.nodes.length])] := toDoc_ok x (by unfold szD at h; omega) fun n hn => by have := szN_le hn; unfold szD at h; unfold szN at this; omega
theorem toIntS_sz (x : List Int) (h : x.length ≤ 2 ^ 20) : FC Tryz.prog 227 [(false, [ints x])] [(1000, some ⟨0, 1, x.map intW⟩)] [(false, [.row 1000 0 x.length])] := toIntS_ok x (by omega)
theorem eqIntS_sz (x : List Int) (h : x.length ≤ 2 ^ 20) : FC Tryz.prog 32 [(false, [ints x]), (false, [ints x])] [] [(false, [.f (bL true)])] := eqIntS_refl x (by omega)
theorem eqDoc_sz (x : Dc) (h : szD x ≤ 2 ^ 20) : FC Tryz.prog 22 [(true, dcL x), (true, dcL x)] [] [(false, [.f (bL true)])] := eqDoc_refl x (by unfold szD at h; omega) fun n hn => by have := szN_le hn; unfold szD at h; unfold szN at this; omega
theorem szDoc_in (x : Dc) (left : Int) (h0 : 0 ≤ left ∧ left ≤ 2 ^ 20) (hx : DcIn x) : FC Tryz.prog 15 [(true, dcL x), (false, [iL left])] [] [(false, [.f (iL (szL (szD x) left))])] := szDoc_ok x left h0 hx.len hx.txt hx.kid
theorem szIntS_in (x : List Int) (left : Int) (h0 : 0 ≤ left ∧ left ≤ 2 ^ 20) (hx : ListIn I64 x) : FC Tryz.prog 220 [(false, [ints x]), (false, [iL left])] [] [(false, [.f (iL (szL x.length left))])] := szIntS_ok x left h0 hx.1
theorem szTerm_ok (x : Tm) (left : Int) (h0 : 0 ≤ left ∧ left ≤ 2 ^ 20) (hx : TmIn x) : FC Tryz.prog 219 [(true, tmL x), (false, [iL left])] [] [(false, [.f (iL (szL (szTm x) left))])] := by
  have hz : szTm x = x.kinds.length := rfl
  refine gcalls_run tbl_ok mixed Tryz.func219 rfl Tryz.ntmps219 (by kernel_rfl) (Nat.le_of_ble_eq_true rfl) rfl rfl trivial ?_; (conv => whnf)
  have c0 := szIntS_in x.kinds (left) (by omega) (hx.1)
  (refine ⟨([], _), c0, ?_⟩; (conv => whnf))
  (refine ⟨fun h => ?_, fun h => ?_⟩ <;> ((conv => whnf)))
  (refine ⟨[], [], ?_⟩; rotate_left)
  have e0 : szL (x.kinds.length) (left) = left - ((x.kinds.length : Nat) : Int) := by unfold szL at h ⊢; split at h <;> split <;> omega
  rw [e0] at h
  rw [e0]
  have g0 := Int.not_lt.1 h
  (refine ⟨[], [], ?_⟩; rotate_left)
  all_goals (try (repeat' first | exact trivial | exact rfl | exact tl_pv rfl rfl rfl (List.cons_ne_nil _ _) | exact ⟨_, rfl, frzC_map _⟩ | exact tl_ints rfl rfl rfl (by simp) | exact tl_txts rfl rfl rfl (by simp) | exact tl_nds rfl rfl rfl (by simp) | exact tl_tms rfl rfl rfl (by simp) | exact tl_rus rfl rfl rfl (by simp) | exact tl_eds rfl rfl rfl (by simp) | exact tl_hos rfl rfl rfl (by simp) | exact tl_tbs rfl rfl rfl (by simp) | exact tl_ses rfl rfl rfl (by simp) | exact tl_evs rfl rfl rfl (by simp) | ((conv => whnf); first | exact trivial | exact rfl | exact .inr rfl | exact .inl ⟨rfl, rfl⟩ | apply And.intro) | refine tl_int ?_ | refine tl_bool ?_ | refine tl_str ?_ | refine tl_row rfl ?_ | exact cl_ints _ | exact cl_txts _ | exact cl_nds _ | exact cl_tms _ | exact cl_rus _ | exact cl_eds _ | exact cl_hos _ | exact cl_tbs _ | exact cl_ses _ | exact cl_evs _ | exact cl_mp _ | exact Nat.succ_pos _ | exact pl_ints _ | exact pl_txts _ | exact pl_nds _ | exact pl_tms _ | exact pl_rus _ | exact pl_eds _ | exact pl_hos _ | exact pl_tbs _ | exact pl_ses _ | exact pl_evs _ | with_reducible refine tl_f ?_)); all_goals (try first | rfl | assumption | exact q.symm | omega | (rw [IntKind.wrap_i64]; omega) | (simp; done) | (simp; omega))
  all_goals first
    | (unfold szL; rw [if_pos (by omega)]; omega)
    | (unfold szL; rw [if_neg (by omega)])
    | (unfold szL at *; repeat' (first | omega | split at *))
theorem szTermS_ok (x : List Tm) (left : Int) (h0 : 0 ≤ left ∧ left ≤ 2 ^ 20) (hx : ListIn TmIn x) : FC Tryz.prog 144 [(false, [tms x]), (false, [iL left])] [] [(false, [.f (iL (szL (x.length + szTms x) left))])] := by
  have hw : IntKind.i64.wrap (left - ((x.map tmL).length : Int)) = left - x.length := by have h1 := hx.1; rw [IntKind.wrap_i64]; simp; omega
  refine gcalls_run tbl_ok mixed Tryz.func144 rfl Tryz.ntmps144 (by kernel_rfl) (Nat.le_of_ble_eq_true rfl) rfl rfl trivial ?_; (conv => whnf)
  rw [hw]
  (refine ⟨fun h => ?_, fun h => ?_⟩ <;> ((conv => whnf)))
  (refine ⟨[], [], ?_⟩; rotate_left)
  have h1 := Int.not_lt.1 h
  (refine ⟨fun (m : Nat) (es : Es) (hs : Hs) => ∃ (i : Nat) (lf : Int), (m + i = x.length) ∧ (0 ≤ lf ∧ lf ≤ 2 ^ 20) ∧ (szL (szTms (x.drop i)) lf = szL (x.length + szTms x) left) ∧ es = [(5, .val false [.f (iL i)]), (1, .val false [.f (iL lf)]), (0, .val false [.f (tms x)])] ∧ hs = [], ⟨x.length, [], [], _, _, ⟨rfl, ?_, ?_⟩, 0, (left - x.length), ?_, ?_, ?_, rfl, rfl⟩, ?_⟩; rotate_left 5; rintro m es hs ⟨i, lf, hSTm0, hSTm1, hSTm2, rfl, rfl⟩; (conv => whnf))
  (refine ⟨fun h => ?_, fun h => ?_⟩ <;> ((conv => whnf)))
  have hi : i < x.length := by simpa using h
  rw [List.drop_eq_getElem_cons hi, szTms_cons] at hSTm2
  have hc := szTerm_ok x[i] lf hSTm1 (hx.2 _ (List.getElem_mem _))
  (refine ⟨(i, tmL x[i]), ⟨rfl, by simp [hi]⟩, ?_⟩; (conv => whnf))
  (refine ⟨([], _), hc, ?_⟩; (conv => whnf))
  (refine ⟨fun h => ?_, fun h => ?_⟩ <;> ((conv => whnf)))
  (refine ⟨[], [], ?_⟩; rotate_left)
  (refine ⟨m - 1, [], [], [(5, .val false [.f (iL (i + 1))]), (1, .val false [.f (iL (szL (szTm x[i]) lf))]), (0, .val false [.f (tms x)])], [], by omega, ⟨rfl, ?_, ?_⟩, (i + 1), (szL (szTm x[i]) lf), ?_, ?_, ?_, rfl, rfl⟩; rotate_left 5)
  have hi : x.length ≤ i := by simpa using h
  (refine ⟨[], [], ?_⟩; rotate_left)
  all_goals (try (repeat' first | exact trivial | exact rfl | exact tl_pv rfl rfl rfl (List.cons_ne_nil _ _) | exact ⟨_, rfl, frzC_map _⟩ | exact tl_ints rfl rfl rfl (by simp) | exact tl_txts rfl rfl rfl (by simp) | exact tl_nds rfl rfl rfl (by simp) | exact tl_tms rfl rfl rfl (by simp) | exact tl_rus rfl rfl rfl (by simp) | exact tl_eds rfl rfl rfl (by simp) | exact tl_hos rfl rfl rfl (by simp) | exact tl_tbs rfl rfl rfl (by simp) | exact tl_ses rfl rfl rfl (by simp) | exact tl_evs rfl rfl rfl (by simp) | ((conv => whnf); first | exact trivial | exact rfl | exact .inr rfl | exact .inl ⟨rfl, rfl⟩ | apply And.intro) | refine tl_int ?_ | refine tl_bool ?_ | refine tl_str ?_ | refine tl_row rfl ?_ | exact cl_ints _ | exact cl_txts _ | exact cl_nds _ | exact cl_tms _ | exact cl_rus _ | exact cl_eds _ | exact cl_hos _ | exact cl_tbs _ | exact cl_ses _ | exact cl_evs _ | exact cl_mp _ | exact Nat.succ_pos _ | exact pl_ints _ | exact pl_txts _ | exact pl_nds _ | exact pl_tms _ | exact pl_rus _ | exact pl_eds _ | exact pl_hos _ | exact pl_tbs _ | exact pl_ses _ | exact pl_evs _ | with_reducible refine tl_f ?_)); all_goals (try first | rfl | assumption | exact q.symm | omega | (rw [IntKind.wrap_i64]; omega) | (simp; done) | (simp; omega))
  all_goals first
    | (unfold szL; rw [if_neg (by omega)])
    | (rw [List.drop_zero]; unfold szL; split <;> split <;> omega)
    | (rw [← hSTm2, List.drop_eq_nil_of_le hi]; unfold szL szTms; simp; omega)
    | (rw [← hSTm2]; unfold szL at h ⊢; split at h <;> split <;> omega)
    | (rw [← hSTm2]; unfold szL at h ⊢; split at h <;> split <;> split <;> omega)
    | (unfold szL at h ⊢; split at h <;> split <;> omega)
theorem toTerm_ok (x : Tm) (hs : szTm x ≤ 2 ^ 20) : FC Tryz.prog 226 [(true, tmL x)] [(1000, some ⟨0, 1, x.kinds.map intW⟩)] [(true, [.row 1000 0 x.kinds.length, .f (iL x.many)])] := by
  have hz : szTm x = x.kinds.length := rfl
  have t0 := toIntS_sz x.kinds (by omega)
  refine gcalls_run tbl_ok mixed Tryz.func226 rfl Tryz.ntmps226 (by kernel_rfl) (Nat.le_of_ble_eq_true rfl) rfl rfl (⟨cl_ints _, trivial⟩) ?_; (conv => whnf)
  (refine ⟨(_, _), t0, ?_⟩; (conv => whnf))
  (refine ⟨[], [(1000, 112)], ?_⟩; rotate_left)
  all_goals try exact don
theorem toTermS_ok (x : List Tm) (hs : x.length + szTms x ≤ 2 ^ 20) : FC Tryz.prog 153 [(false, [tms x])] [(1000, some ⟨0, 2, x.map tmW⟩)] [(false, [.row 1000 0 x.length])] := by
  refine gcalls_run tbl_ok mixed Tryz.func153 rfl Tryz.ntmps153 (by kernel_rfl) (Nat.le_of_ble_eq_true rfl) rfl rfl (⟨cl_tms _, trivial⟩) ?_; (conv => whnf)
  (refine ⟨(x.length, x.length), ⟨by simp, by simp, Nat.le_refl _, by dsimp only; omega⟩, ?_⟩; (conv => whnf))
  (refine ⟨fun (m : Nat) (es : Es) (hs : Hs) => ∃ (i : Nat), (m + i = x.length) ∧ es = [(4, .val false [.f (iL i)]), (3, .val false [.row 3 0 x.length]), (0, .val false [.f (tms x)])] ∧ hs = [(3, some ⟨0, 2, (x.take i).map tmW ++ List.replicate (x.length - i) zTm⟩)], ⟨x.length, [], [(3, 128)], _, _, ⟨rfl, ?_, ?_⟩, 0, ?_, rfl, rfl⟩, ?_⟩; rotate_left 3; rintro m es hs ⟨i, hTTm0, rfl, rfl⟩; (conv => whnf))
  (refine ⟨fun h => ?_, fun h => ?_⟩ <;> ((conv => whnf)))
  have hi : i < x.length := by simpa using h
  (refine ⟨(i, tmL x[i]), ⟨rfl, by simp [hi]⟩, ?_⟩; (conv => whnf))
  (refine ⟨(_, _), toTerm_ok x[i] (by have := szTm_le (List.getElem_mem hi); omega), ?_⟩; (conv => whnf))
  (refine ⟨i, ⟨rfl, hi⟩, ?_⟩; (conv => whnf))
  (refine ⟨zTm, fill_get hi, ?_⟩; (conv => whnf))
  (refine ⟨m - 1, [(336, 3, i, 0)], [], [(4, .val false [.f (iL (i + 1))]), (3, .val false [.row 3 0 x.length]), (0, .val false [.f (tms x)])], [(3, some ⟨0, 2, (x.take (i + 1)).map tmW ++ List.replicate (x.length - (i + 1)) zTm⟩)], by omega, ?_, (i + 1), ?_, rfl, rfl⟩; (conv => whnf))
  (refine ⟨_, List.getElem?_set_self (by simp; omega), ?_⟩; (conv => whnf))
  (refine ⟨x[i].kinds.map intW, by rw [List.take_of_length_le (by simp)], ?_⟩; (conv => whnf))
  (refine ⟨rfl, ?_, ?_⟩; rotate_left 3)
  have hi : x.length ≤ i := by simpa using h
  have e : (x.take i).map tmW ++ List.replicate (x.length - i) zTm = x.map tmW := by rw [List.take_of_length_le hi, show x.length - i = 0 by omega]; simp
  rw [e]
  (refine ⟨[], [(1000, 3)], ?_⟩; rotate_left)
  all_goals (try (repeat' first | exact trivial | exact rfl | exact tl_pv rfl rfl rfl (List.cons_ne_nil _ _) | exact ⟨_, rfl, frzC_map _⟩ | exact tl_ints rfl rfl rfl (by simp) | exact tl_txts rfl rfl rfl (by simp) | exact tl_nds rfl rfl rfl (by simp) | exact tl_tms rfl rfl rfl (by simp) | exact tl_rus rfl rfl rfl (by simp) | exact tl_eds rfl rfl rfl (by simp) | exact tl_hos rfl rfl rfl (by simp) | exact tl_tbs rfl rfl rfl (by simp) | exact tl_ses rfl rfl rfl (by simp) | exact tl_evs rfl rfl rfl (by simp) | ((conv => whnf); first | exact trivial | exact rfl | exact .inr rfl | exact .inl ⟨rfl, rfl⟩ | apply And.intro) | refine tl_int ?_ | refine tl_bool ?_ | refine tl_str ?_ | refine tl_row rfl ?_ | exact cl_ints _ | exact cl_txts _ | exact cl_nds _ | exact cl_tms _ | exact cl_rus _ | exact cl_eds _ | exact cl_hos _ | exact cl_tbs _ | exact cl_ses _ | exact cl_evs _ | exact cl_mp _ | exact Nat.succ_pos _ | exact pl_ints _ | exact pl_txts _ | exact pl_nds _ | exact pl_tms _ | exact pl_rus _ | exact pl_eds _ | exact pl_hos _ | exact pl_tbs _ | exact pl_ses _ | exact pl_evs _ | with_reducible refine tl_f ?_)); all_goals (try first | rfl | assumption | exact q.symm | omega | (rw [IntKind.wrap_i64]; omega) | (simp; done) | (simp; omega))
  all_goals first
    | exact cl_app (cl_tms _) (cl_rep _ ⟨trivial, trivial, trivial⟩)
    | (simp only [List.set_set]; exact fill_set (f := tmW) hi)
    | (dsimp only; simp only [List.set_set]; exact fill_set (f := tmW) hi)
theorem eqTerm_refl (x : Tm) (hs : szTm x ≤ 2 ^ 20) : FC Tryz.prog 235 [(true, tmL x), (true, tmL x)] [] [(false, [.f (bL true)])] := by
  have hz : szTm x = x.kinds.length := rfl
  have t0 := eqIntS_sz x.kinds (by omega)
  refine gcalls_run tbl_ok mixed Tryz.func235 rfl Tryz.ntmps235 (by kernel_rfl) (Nat.le_of_ble_eq_true rfl) rfl rfl trivial ?_; (conv => whnf)
  (refine ⟨([], _), t0, ?_⟩; (conv => whnf))
  (refine ⟨fun h => absurd rfl h, fun h => ?_⟩; (conv => whnf))
  (refine ⟨[], [], ?_⟩; rotate_left)
  all_goals try exact don
theorem eqTermS_refl (x : List Tm) (hs : x.length + szTms x ≤ 2 ^ 20) : FC Tryz.prog 163 [(false, [tms x]), (false, [tms x])] [] [(false, [.f (bL true)])] := by
  refine gcalls_run tbl_ok mixed Tryz.func163 rfl Tryz.ntmps163 (by kernel_rfl) (Nat.le_of_ble_eq_true rfl) rfl rfl trivial ?_; (conv => whnf)
  (refine ⟨fun h => absurd rfl h, fun h => ?_⟩; (conv => whnf))
  (refine ⟨fun (m : Nat) (es : Es) (hs : Hs) => ∃ (i : Nat), (m + i = x.length) ∧ es = [(5, .val false [.f (iL i)]), (1, .val false [.f (tms x)]), (0, .val false [.f (tms x)])] ∧ hs = [], ⟨x.length, [], [], _, _, ⟨rfl, ?_, ?_⟩, 0, ?_, rfl, rfl⟩, ?_⟩; rotate_left 3; rintro m es hs ⟨i, hETm0, rfl, rfl⟩; (conv => whnf))
  (refine ⟨fun h => ?_, fun h => ?_⟩ <;> ((conv => whnf)))
  have hi : i < x.length := by simpa using h
  (refine ⟨by kernel_rfl, ?_⟩; (conv => whnf))
  (refine ⟨(i, tmL x[i]), ⟨rfl, by simp [hi]⟩, ?_⟩; (conv => whnf))
  (refine ⟨(i, tmL x[i]), ⟨rfl, by simp [hi]⟩, ?_⟩; (conv => whnf))
  (refine ⟨([], _), eqTerm_refl x[i] (by have := szTm_le (List.getElem_mem hi); omega), ?_⟩; (conv => whnf))
  (refine ⟨by kernel_rfl, ?_⟩; (conv => whnf))
  (refine ⟨m - 1, [], [], [(5, .val false [.f (iL (i + 1))]), (1, .val false [.f (tms x)]), (0, .val false [.f (tms x)])], [], by omega, ⟨rfl, ?_, ?_⟩, (i + 1), ?_, rfl, rfl⟩; rotate_left 3)
  (refine ⟨[], [], ?_⟩; rotate_left)
  all_goals try exact don
theorem szRule_ok (x : Ru) (left : Int) (h0 : 0 ≤ left ∧ left ≤ 2 ^ 20) (hx : RuIn x) : FC Tryz.prog 64 [(true, ruL x), (false, [iL left])] [] [(false, [.f (iL (szL (szRu x) left))])] := by
  have hz : szRu x = x.name.size + (x.terms.length + szTms x.terms) := rfl
  refine gcalls_run tbl_ok mixed Tryz.func64 rfl Tryz.ntmps64 (by kernel_rfl) (Nat.le_of_ble_eq_true rfl) rfl rfl trivial ?_; (conv => whnf)
  have w0 : IntKind.i64.wrap (left - (x.name.size : Int)) = left - x.name.size := by have hs := hx.1; rw [IntKind.wrap_i64]; omega
  rw [w0]
  (refine ⟨fun h => ?_, fun h => ?_⟩ <;> ((conv => whnf)))
  (refine ⟨[], [], ?_⟩; rotate_left)
  have e0 : left - (x.name.size : Int) = left - ((x.name.size : Nat) : Int) := by omega
  rw [e0] at h
  rw [e0]
  have g0 := Int.not_lt.1 h
  have c1 := szTermS_ok x.terms (left - ((x.name.size : Nat) : Int)) (by omega) (hx.2.2)
  (refine ⟨([], _), c1, ?_⟩; (conv => whnf))
  (refine ⟨fun h => ?_, fun h => ?_⟩ <;> ((conv => whnf)))
  (refine ⟨[], [], ?_⟩; rotate_left)
  have e1 : szL ((x.terms.length + szTms x.terms)) (left - ((x.name.size : Nat) : Int)) = left - ((x.name.size + (x.terms.length + szTms x.terms) : Nat) : Int) := by unfold szL at h ⊢; split at h <;> split <;> omega
  rw [e1] at h
  rw [e1]
  have g1 := Int.not_lt.1 h
  (refine ⟨[], [], ?_⟩; rotate_left)
  all_goals (try (repeat' first | exact trivial | exact rfl | exact tl_pv rfl rfl rfl (List.cons_ne_nil _ _) | exact ⟨_, rfl, frzC_map _⟩ | exact tl_ints rfl rfl rfl (by simp) | exact tl_txts rfl rfl rfl (by simp) | exact tl_nds rfl rfl rfl (by simp) | exact tl_tms rfl rfl rfl (by simp) | exact tl_rus rfl rfl rfl (by simp) | exact tl_eds rfl rfl rfl (by simp) | exact tl_hos rfl rfl rfl (by simp) | exact tl_tbs rfl rfl rfl (by simp) | exact tl_ses rfl rfl rfl (by simp) | exact tl_evs rfl rfl rfl (by simp) | ((conv => whnf); first | exact trivial | exact rfl | exact .inr rfl | exact .inl ⟨rfl, rfl⟩ | apply And.intro) | refine tl_int ?_ | refine tl_bool ?_ | refine tl_str ?_ | refine tl_row rfl ?_ | exact cl_ints _ | exact cl_txts _ | exact cl_nds _ | exact cl_tms _ | exact cl_rus _ | exact cl_eds _ | exact cl_hos _ | exact cl_tbs _ | exact cl_ses _ | exact cl_evs _ | exact cl_mp _ | exact Nat.succ_pos _ | exact pl_ints _ | exact pl_txts _ | exact pl_nds _ | exact pl_tms _ | exact pl_rus _ | exact pl_eds _ | exact pl_hos _ | exact pl_tbs _ | exact pl_ses _ | exact pl_evs _ | with_reducible refine tl_f ?_)); all_goals (try first | rfl | assumption | exact q.symm | omega | (rw [IntKind.wrap_i64]; omega) | (simp; done) | (simp; omega))
  all_goals first
    | (unfold szL; rw [if_pos (by omega)]; omega)
    | (unfold szL; rw [if_neg (by omega)])
    | (unfold szL at *; repeat' (first | omega | split at *))
theorem szRuleS_ok (x : List Ru) (left : Int) (h0 : 0 ≤ left ∧ left ≤ 2 ^ 20) (hx : ListIn RuIn x) : FC Tryz.prog 14 [(false, [rus x]), (false, [iL left])] [] [(false, [.f (iL (szL (x.length + szRus x) left))])] := by
  have hw : IntKind.i64.wrap (left - ((x.map ruL).length : Int)) = left - x.length := by have h1 := hx.1; rw [IntKind.wrap_i64]; simp; omega
  refine gcalls_run tbl_ok mixed Tryz.func14 rfl Tryz.ntmps14 (by kernel_rfl) (Nat.le_of_ble_eq_true rfl) rfl rfl trivial ?_; (conv => whnf)
  rw [hw]
  (refine ⟨fun h => ?_, fun h => ?_⟩ <;> ((conv => whnf)))
  (refine ⟨[], [], ?_⟩; rotate_left)
  have h1 := Int.not_lt.1 h
  (refine ⟨fun (m : Nat) (es : Es) (hs : Hs) => ∃ (i : Nat) (lf : Int), (m + i = x.length) ∧ (0 ≤ lf ∧ lf ≤ 2 ^ 20) ∧ (szL (szRus (x.drop i)) lf = szL (x.length + szRus x) left) ∧ es = [(5, .val false [.f (iL i)]), (1, .val false [.f (iL lf)]), (0, .val false [.f (rus x)])] ∧ hs = [], ⟨x.length, [], [], _, _, ⟨rfl, ?_, ?_⟩, 0, (left - x.length), ?_, ?_, ?_, rfl, rfl⟩, ?_⟩; rotate_left 5; rintro m es hs ⟨i, lf, hSRu0, hSRu1, hSRu2, rfl, rfl⟩; (conv => whnf))
  (refine ⟨fun h => ?_, fun h => ?_⟩ <;> ((conv => whnf)))
  have hi : i < x.length := by simpa using h
  rw [List.drop_eq_getElem_cons hi, szRus_cons] at hSRu2
  have hc := szRule_ok x[i] lf hSRu1 (hx.2 _ (List.getElem_mem _))
  (refine ⟨(i, ruL x[i]), ⟨rfl, by simp [hi]⟩, ?_⟩; (conv => whnf))
  (refine ⟨([], _), hc, ?_⟩; (conv => whnf))
  (refine ⟨fun h => ?_, fun h => ?_⟩ <;> ((conv => whnf)))
  (refine ⟨[], [], ?_⟩; rotate_left)
  (refine ⟨m - 1, [], [], [(5, .val false [.f (iL (i + 1))]), (1, .val false [.f (iL (szL (szRu x[i]) lf))]), (0, .val false [.f (rus x)])], [], by omega, ⟨rfl, ?_, ?_⟩, (i + 1), (szL (szRu x[i]) lf), ?_, ?_, ?_, rfl, rfl⟩; rotate_left 5)
  have hi : x.length ≤ i := by simpa using h
  (refine ⟨[], [], ?_⟩; rotate_left)
  all_goals (try (repeat' first | exact trivial | exact rfl | exact tl_pv rfl rfl rfl (List.cons_ne_nil _ _) | exact ⟨_, rfl, frzC_map _⟩ | exact tl_ints rfl rfl rfl (by simp) | exact tl_txts rfl rfl rfl (by simp) | exact tl_nds rfl rfl rfl (by simp) | exact tl_tms rfl rfl rfl (by simp) | exact tl_rus rfl rfl rfl (by simp) | exact tl_eds rfl rfl rfl (by simp) | exact tl_hos rfl rfl rfl (by simp) | exact tl_tbs rfl rfl rfl (by simp) | exact tl_ses rfl rfl rfl (by simp) | exact tl_evs rfl rfl rfl (by simp) | ((conv => whnf); first | exact trivial | exact rfl | exact .inr rfl | exact .inl ⟨rfl, rfl⟩ | apply And.intro) | refine tl_int ?_ | refine tl_bool ?_ | refine tl_str ?_ | refine tl_row rfl ?_ | exact cl_ints _ | exact cl_txts _ | exact cl_nds _ | exact cl_tms _ | exact cl_rus _ | exact cl_eds _ | exact cl_hos _ | exact cl_tbs _ | exact cl_ses _ | exact cl_evs _ | exact cl_mp _ | exact Nat.succ_pos _ | exact pl_ints _ | exact pl_txts _ | exact pl_nds _ | exact pl_tms _ | exact pl_rus _ | exact pl_eds _ | exact pl_hos _ | exact pl_tbs _ | exact pl_ses _ | exact pl_evs _ | with_reducible refine tl_f ?_)); all_goals (try first | rfl | assumption | exact q.symm | omega | (rw [IntKind.wrap_i64]; omega) | (simp; done) | (simp; omega))
  all_goals first
    | (unfold szL; rw [if_neg (by omega)])
    | (rw [List.drop_zero]; unfold szL; split <;> split <;> omega)
    | (rw [← hSRu2, List.drop_eq_nil_of_le hi]; unfold szL szRus; simp; omega)
    | (rw [← hSRu2]; unfold szL at h ⊢; split at h <;> split <;> omega)
    | (rw [← hSRu2]; unfold szL at h ⊢; split at h <;> split <;> split <;> omega)
    | (unfold szL at h ⊢; split at h <;> split <;> omega)
theorem toRule_ok (x : Ru) (hs : szRu x ≤ 2 ^ 20) : FC Tryz.prog 72 [(true, ruL x)] [(1000, some ⟨0, 2, x.terms.map tmW⟩)] [(true, [.f (sL x.name), .f (bL x.leaf), .row 1000 0 x.terms.length])] := by
  have hz : szRu x = x.name.size + (x.terms.length + szTms x.terms) := rfl
  have t0 := toTermS_ok x.terms (by omega)
  refine gcalls_run tbl_ok mixed Tryz.func72 rfl Tryz.ntmps72 (by kernel_rfl) (Nat.le_of_ble_eq_true rfl) rfl rfl (⟨cl_tms _, trivial⟩) ?_; (conv => whnf)
  (refine ⟨(_, _), t0, ?_⟩; (conv => whnf))
  (refine ⟨[], [(1000, 208)], ?_⟩; rotate_left)
  all_goals try exact don
theorem toRuleS_ok (x : List Ru) (hs : x.length + szRus x ≤ 2 ^ 20) : FC Tryz.prog 17 [(false, [rus x])] [(1000, some ⟨0, 3, x.map ruW⟩)] [(false, [.row 1000 0 x.length])] := by
  refine gcalls_run tbl_ok mixed Tryz.func17 rfl Tryz.ntmps17 (by kernel_rfl) (Nat.le_of_ble_eq_true rfl) rfl rfl (⟨cl_rus _, trivial⟩) ?_; (conv => whnf)
  (refine ⟨(x.length, x.length), ⟨by simp, by simp, Nat.le_refl _, by dsimp only; omega⟩, ?_⟩; (conv => whnf))
  (refine ⟨fun (m : Nat) (es : Es) (hs : Hs) => ∃ (i : Nat), (m + i = x.length) ∧ es = [(4, .val false [.f (iL i)]), (3, .val false [.row 3 0 x.length]), (0, .val false [.f (rus x)])] ∧ hs = [(3, some ⟨0, 3, (x.take i).map ruW ++ List.replicate (x.length - i) zRu⟩)], ⟨x.length, [], [(3, 128)], _, _, ⟨rfl, ?_, ?_⟩, 0, ?_, rfl, rfl⟩, ?_⟩; rotate_left 3; rintro m es hs ⟨i, hTRu0, rfl, rfl⟩; (conv => whnf))
  (refine ⟨fun h => ?_, fun h => ?_⟩ <;> ((conv => whnf)))
  have hi : i < x.length := by simpa using h
  (refine ⟨(i, ruL x[i]), ⟨rfl, by simp [hi]⟩, ?_⟩; (conv => whnf))
  (refine ⟨(_, _), toRule_ok x[i] (by have := szRu_le (List.getElem_mem hi); omega), ?_⟩; (conv => whnf))
  (refine ⟨i, ⟨rfl, hi⟩, ?_⟩; (conv => whnf))
  (refine ⟨zRu, fill_get hi, ?_⟩; (conv => whnf))
  (refine ⟨m - 1, [(336, 3, i, 2)], [], [(4, .val false [.f (iL (i + 1))]), (3, .val false [.row 3 0 x.length]), (0, .val false [.f (rus x)])], [(3, some ⟨0, 3, (x.take (i + 1)).map ruW ++ List.replicate (x.length - (i + 1)) zRu⟩)], by omega, ?_, (i + 1), ?_, rfl, rfl⟩; (conv => whnf))
  (refine ⟨_, List.getElem?_set_self (by simp; omega), ?_⟩; (conv => whnf))
  (refine ⟨x[i].terms.map tmW, by rw [List.take_of_length_le (by simp)], ?_⟩; (conv => whnf))
  (refine ⟨rfl, ?_, ?_⟩; rotate_left 3)
  have hi : x.length ≤ i := by simpa using h
  have e : (x.take i).map ruW ++ List.replicate (x.length - i) zRu = x.map ruW := by rw [List.take_of_length_le hi, show x.length - i = 0 by omega]; simp
  rw [e]
  (refine ⟨[], [(1000, 3)], ?_⟩; rotate_left)
  all_goals (try (repeat' first | exact trivial | exact rfl | exact tl_pv rfl rfl rfl (List.cons_ne_nil _ _) | exact ⟨_, rfl, frzC_map _⟩ | exact tl_ints rfl rfl rfl (by simp) | exact tl_txts rfl rfl rfl (by simp) | exact tl_nds rfl rfl rfl (by simp) | exact tl_tms rfl rfl rfl (by simp) | exact tl_rus rfl rfl rfl (by simp) | exact tl_eds rfl rfl rfl (by simp) | exact tl_hos rfl rfl rfl (by simp) | exact tl_tbs rfl rfl rfl (by simp) | exact tl_ses rfl rfl rfl (by simp) | exact tl_evs rfl rfl rfl (by simp) | ((conv => whnf); first | exact trivial | exact rfl | exact .inr rfl | exact .inl ⟨rfl, rfl⟩ | apply And.intro) | refine tl_int ?_ | refine tl_bool ?_ | refine tl_str ?_ | refine tl_row rfl ?_ | exact cl_ints _ | exact cl_txts _ | exact cl_nds _ | exact cl_tms _ | exact cl_rus _ | exact cl_eds _ | exact cl_hos _ | exact cl_tbs _ | exact cl_ses _ | exact cl_evs _ | exact cl_mp _ | exact Nat.succ_pos _ | exact pl_ints _ | exact pl_txts _ | exact pl_nds _ | exact pl_tms _ | exact pl_rus _ | exact pl_eds _ | exact pl_hos _ | exact pl_tbs _ | exact pl_ses _ | exact pl_evs _ | with_reducible refine tl_f ?_)); all_goals (try first | rfl | assumption | exact q.symm | omega | (rw [IntKind.wrap_i64]; omega) | (simp; done) | (simp; omega))
  all_goals first
    | exact cl_app (cl_rus _) (cl_rep _ ⟨trivial, trivial, trivial, trivial⟩)
    | (simp only [List.set_set]; exact fill_set (f := ruW) hi)
    | (dsimp only; simp only [List.set_set]; exact fill_set (f := ruW) hi)
theorem eqRule_refl (x : Ru) (hs : szRu x ≤ 2 ^ 20) : FC Tryz.prog 83 [(true, ruL x), (true, ruL x)] [] [(false, [.f (bL true)])] := by
  have hz : szRu x = x.name.size + (x.terms.length + szTms x.terms) := rfl
  have t0 := eqTermS_refl x.terms (by omega)
  refine gcalls_run tbl_ok mixed Tryz.func83 rfl Tryz.ntmps83 (by kernel_rfl) (Nat.le_of_ble_eq_true rfl) rfl rfl trivial ?_; (conv => whnf)
  (refine ⟨fun h => absurd rfl h, fun h => ?_⟩; (conv => whnf))
  (refine ⟨fun h => absurd rfl h, fun h => ?_⟩; (conv => whnf))
  (refine ⟨([], _), t0, ?_⟩; (conv => whnf))
  (refine ⟨[], [], ?_⟩; rotate_left)
  all_goals try exact don
theorem eqRuleS_refl (x : List Ru) (hs : x.length + szRus x ≤ 2 ^ 20) : FC Tryz.prog 21 [(false, [rus x]), (false, [rus x])] [] [(false, [.f (bL true)])] := by
  refine gcalls_run tbl_ok mixed Tryz.func21 rfl Tryz.ntmps21 (by kernel_rfl) (Nat.le_of_ble_eq_true rfl) rfl rfl trivial ?_; (conv => whnf)
  (refine ⟨fun h => absurd rfl h, fun h => ?_⟩; (conv => whnf))
  (refine ⟨fun (m : Nat) (es : Es) (hs : Hs) => ∃ (i : Nat), (m + i = x.length) ∧ es = [(5, .val false [.f (iL i)]), (1, .val false [.f (rus x)]), (0, .val false [.f (rus x)])] ∧ hs = [], ⟨x.length, [], [], _, _, ⟨rfl, ?_, ?_⟩, 0, ?_, rfl, rfl⟩, ?_⟩; rotate_left 3; rintro m es hs ⟨i, hERu0, rfl, rfl⟩; (conv => whnf))
  (refine ⟨fun h => ?_, fun h => ?_⟩ <;> ((conv => whnf)))
  have hi : i < x.length := by simpa using h
  (refine ⟨by kernel_rfl, ?_⟩; (conv => whnf))
  (refine ⟨(i, ruL x[i]), ⟨rfl, by simp [hi]⟩, ?_⟩; (conv => whnf))
  (refine ⟨(i, ruL x[i]), ⟨rfl, by simp [hi]⟩, ?_⟩; (conv => whnf))
  (refine ⟨([], _), eqRule_refl x[i] (by have := szRu_le (List.getElem_mem hi); omega), ?_⟩; (conv => whnf))
  (refine ⟨by kernel_rfl, ?_⟩; (conv => whnf))
  (refine ⟨m - 1, [], [], [(5, .val false [.f (iL (i + 1))]), (1, .val false [.f (rus x)]), (0, .val false [.f (rus x)])], [], by omega, ⟨rfl, ?_, ?_⟩, (i + 1), ?_, rfl, rfl⟩; rotate_left 3)
  (refine ⟨[], [], ?_⟩; rotate_left)
  all_goals try exact don
theorem eqHold_refl (x : Ho) (hs : True) : FC Tryz.prog 137 [(true, hoL x), (true, hoL x)] [] [(false, [.f (bL true)])] := by
  refine gcalls_run tbl_ok mixed Tryz.func137 rfl Tryz.ntmps137 (by kernel_rfl) (Nat.le_of_ble_eq_true rfl) rfl rfl trivial ?_; (conv => whnf)
  (refine ⟨fun h => absurd rfl h, fun h => ?_⟩; (conv => whnf))
  (refine ⟨fun h => absurd rfl h, fun h => ?_⟩; (conv => whnf))
  (refine ⟨fun h => absurd rfl h, fun h => ?_⟩; (conv => whnf))
  (refine ⟨[], [], ?_⟩; rotate_left)
  all_goals try exact don
theorem eqHoldS_refl (x : List Ho) (hs : x.length ≤ 2 ^ 20) : FC Tryz.prog 54 [(false, [hos x]), (false, [hos x])] [] [(false, [.f (bL true)])] := by
  refine gcalls_run tbl_ok mixed Tryz.func54 rfl Tryz.ntmps54 (by kernel_rfl) (Nat.le_of_ble_eq_true rfl) rfl rfl trivial ?_; (conv => whnf)
  (refine ⟨fun h => absurd rfl h, fun h => ?_⟩; (conv => whnf))
  (refine ⟨fun (m : Nat) (es : Es) (hs : Hs) => ∃ (i : Nat), (m + i = x.length) ∧ es = [(5, .val false [.f (iL i)]), (1, .val false [.f (hos x)]), (0, .val false [.f (hos x)])] ∧ hs = [], ⟨x.length, [], [], _, _, ⟨rfl, ?_, ?_⟩, 0, ?_, rfl, rfl⟩, ?_⟩; rotate_left 3; rintro m es hs ⟨i, hEHo0, rfl, rfl⟩; (conv => whnf))
  (refine ⟨fun h => ?_, fun h => ?_⟩ <;> ((conv => whnf)))
  have hi : i < x.length := by simpa using h
  (refine ⟨by kernel_rfl, ?_⟩; (conv => whnf))
  (refine ⟨(i, hoL x[i]), ⟨rfl, by simp [hi]⟩, ?_⟩; (conv => whnf))
  (refine ⟨(i, hoL x[i]), ⟨rfl, by simp [hi]⟩, ?_⟩; (conv => whnf))
  (refine ⟨([], _), eqHold_refl x[i] trivial, ?_⟩; (conv => whnf))
  (refine ⟨by kernel_rfl, ?_⟩; (conv => whnf))
  (refine ⟨m - 1, [], [], [(5, .val false [.f (iL (i + 1))]), (1, .val false [.f (hos x)]), (0, .val false [.f (hos x)])], [], by omega, ⟨rfl, ?_, ?_⟩, (i + 1), ?_, rfl, rfl⟩; rotate_left 3)
  (refine ⟨[], [], ?_⟩; rotate_left)
  all_goals try exact don
theorem eqTable_refl (x : Tb) (hs : szTb x ≤ 2 ^ 20) : FC Tryz.prog 31 [(true, tbL x), (true, tbL x)] [] [(false, [.f (bL true)])] := by
  have hz : szTb x = x.holds.length + x.waits.length := rfl
  have t0 := eqHoldS_refl x.holds (by omega)
  have t1 := eqHoldS_refl x.waits (by omega)
  refine gcalls_run tbl_ok mixed Tryz.func31 rfl Tryz.ntmps31 (by kernel_rfl) (Nat.le_of_ble_eq_true rfl) rfl rfl trivial ?_; (conv => whnf)
  (refine ⟨([], _), t0, ?_⟩; (conv => whnf))
  (refine ⟨([], _), t1, ?_⟩; (conv => whnf))
  (refine ⟨[], [], ?_⟩; rotate_left)
  all_goals try exact don
theorem eqSession_refl (x : Se) (hs : szSe x ≤ 2 ^ 20) : FC Tryz.prog 61 [(true, seL x), (true, seL x)] [] [(false, [.f (bL true)])] := by
  have hz : szSe x = szD x.copy := rfl
  have t0 := eqDoc_sz x.copy (by omega)
  refine gcalls_run tbl_ok mixed Tryz.func61 rfl Tryz.ntmps61 (by kernel_rfl) (Nat.le_of_ble_eq_true rfl) rfl rfl trivial ?_; (conv => whnf)
  (refine ⟨fun h => absurd rfl h, fun h => ?_⟩; (conv => whnf))
  (refine ⟨fun h => absurd rfl h, fun h => ?_⟩; (conv => whnf))
  (refine ⟨fun h => absurd rfl h, fun h => ?_⟩; (conv => whnf))
  (refine ⟨([], _), t0, ?_⟩; (conv => whnf))
  (refine ⟨[], [], ?_⟩; rotate_left)
  all_goals try exact don
theorem eqSessionS_refl (x : List Se) (hs : x.length + szSes x ≤ 2 ^ 20) : FC Tryz.prog 81 [(false, [ses x]), (false, [ses x])] [] [(false, [.f (bL true)])] := by
  refine gcalls_run tbl_ok mixed Tryz.func81 rfl Tryz.ntmps81 (by kernel_rfl) (Nat.le_of_ble_eq_true rfl) rfl rfl trivial ?_; (conv => whnf)
  (refine ⟨fun h => absurd rfl h, fun h => ?_⟩; (conv => whnf))
  (refine ⟨fun (m : Nat) (es : Es) (hs : Hs) => ∃ (i : Nat), (m + i = x.length) ∧ es = [(5, .val false [.f (iL i)]), (1, .val false [.f (ses x)]), (0, .val false [.f (ses x)])] ∧ hs = [], ⟨x.length, [], [], _, _, ⟨rfl, ?_, ?_⟩, 0, ?_, rfl, rfl⟩, ?_⟩; rotate_left 3; rintro m es hs ⟨i, hESe0, rfl, rfl⟩; (conv => whnf))
  (refine ⟨fun h => ?_, fun h => ?_⟩ <;> ((conv => whnf)))
  have hi : i < x.length := by simpa using h
  (refine ⟨by kernel_rfl, ?_⟩; (conv => whnf))
  (refine ⟨(i, seL x[i]), ⟨rfl, by simp [hi]⟩, ?_⟩; (conv => whnf))
  (refine ⟨(i, seL x[i]), ⟨rfl, by simp [hi]⟩, ?_⟩; (conv => whnf))
  (refine ⟨([], _), eqSession_refl x[i] (by have := szSe_le (List.getElem_mem hi); omega), ?_⟩; (conv => whnf))
  (refine ⟨by kernel_rfl, ?_⟩; (conv => whnf))
  (refine ⟨m - 1, [], [], [(5, .val false [.f (iL (i + 1))]), (1, .val false [.f (ses x)]), (0, .val false [.f (ses x)])], [], by omega, ⟨rfl, ?_, ?_⟩, (i + 1), ?_, rfl, rfl⟩; rotate_left 3)
  (refine ⟨[], [], ?_⟩; rotate_left)
  all_goals try exact don
theorem eqEvent_refl (x : Ev) (hs : True) : FC Tryz.prog 162 [(true, evL x), (true, evL x)] [] [(false, [.f (bL true)])] := by
  refine gcalls_run tbl_ok mixed Tryz.func162 rfl Tryz.ntmps162 (by kernel_rfl) (Nat.le_of_ble_eq_true rfl) rfl rfl trivial ?_; (conv => whnf)
  (refine ⟨fun h => absurd rfl h, fun h => ?_⟩; (conv => whnf))
  (refine ⟨fun h => absurd rfl h, fun h => ?_⟩; (conv => whnf))
  (refine ⟨fun h => absurd rfl h, fun h => ?_⟩; (conv => whnf))
  (refine ⟨[], [], ?_⟩; rotate_left)
  all_goals try exact don
theorem eqEventS_refl (x : List Ev) (hs : x.length ≤ 2 ^ 20) : FC Tryz.prog 82 [(false, [evs x]), (false, [evs x])] [] [(false, [.f (bL true)])] := by
  refine gcalls_run tbl_ok mixed Tryz.func82 rfl Tryz.ntmps82 (by kernel_rfl) (Nat.le_of_ble_eq_true rfl) rfl rfl trivial ?_; (conv => whnf)
  (refine ⟨fun h => absurd rfl h, fun h => ?_⟩; (conv => whnf))
  (refine ⟨fun (m : Nat) (es : Es) (hs : Hs) => ∃ (i : Nat), (m + i = x.length) ∧ es = [(5, .val false [.f (iL i)]), (1, .val false [.f (evs x)]), (0, .val false [.f (evs x)])] ∧ hs = [], ⟨x.length, [], [], _, _, ⟨rfl, ?_, ?_⟩, 0, ?_, rfl, rfl⟩, ?_⟩; rotate_left 3; rintro m es hs ⟨i, hEEv0, rfl, rfl⟩; (conv => whnf))
  (refine ⟨fun h => ?_, fun h => ?_⟩ <;> ((conv => whnf)))
  have hi : i < x.length := by simpa using h
  (refine ⟨by kernel_rfl, ?_⟩; (conv => whnf))
  (refine ⟨(i, evL x[i]), ⟨rfl, by simp [hi]⟩, ?_⟩; (conv => whnf))
  (refine ⟨(i, evL x[i]), ⟨rfl, by simp [hi]⟩, ?_⟩; (conv => whnf))
  (refine ⟨([], _), eqEvent_refl x[i] trivial, ?_⟩; (conv => whnf))
  (refine ⟨by kernel_rfl, ?_⟩; (conv => whnf))
  (refine ⟨m - 1, [], [], [(5, .val false [.f (iL (i + 1))]), (1, .val false [.f (evs x)]), (0, .val false [.f (evs x)])], [], by omega, ⟨rfl, ?_, ?_⟩, (i + 1), ?_, rfl, rfl⟩; rotate_left 3)
  (refine ⟨[], [], ?_⟩; rotate_left)
  all_goals try exact don
theorem eqHost_refl (x : Ht) (hs : szHt x ≤ 2 ^ 20) : FC Tryz.prog 20 [(true, htL x), (true, htL x)] [] [(false, [.f (bL true)])] := by
  have hz : szHt x = (x.schema.length + szRus x.schema) + szD x.doc + (x.sessions.length + szSes x.sessions) + szTb x.table + x.events.length := rfl
  have t0 := eqRuleS_refl x.schema (by omega)
  have t1 := eqDoc_sz x.doc (by omega)
  have t2 := eqSessionS_refl x.sessions (by omega)
  have t3 := eqTable_refl x.table (by omega)
  have t4 := eqEventS_refl x.events (by omega)
  refine gcalls_run tbl_ok mixed Tryz.func20 rfl Tryz.ntmps20 (by kernel_rfl) (Nat.le_of_ble_eq_true rfl) rfl rfl trivial ?_; (conv => whnf)
  (refine ⟨([], _), t0, ?_⟩; (conv => whnf))
  (refine ⟨([], _), t1, ?_⟩; (conv => whnf))
  (refine ⟨fun h => absurd rfl h, fun h => ?_⟩; (conv => whnf))
  (refine ⟨fun h => absurd rfl h, fun h => ?_⟩; (conv => whnf))
  (refine ⟨fun h => absurd rfl h, fun h => ?_⟩; (conv => whnf))
  (refine ⟨([], _), t2, ?_⟩; (conv => whnf))
  (refine ⟨([], _), t3, ?_⟩; (conv => whnf))
  (refine ⟨([], _), t4, ?_⟩; (conv => whnf))
  (refine ⟨[], [], ?_⟩; rotate_left)
  all_goals try exact don
end Go.Proofs.YtchfpgpboifbeaaGreat.Ac
set_option linter.unusedVariables false
set_option linter.unusedSimpArgs false
namespace Go.Proofs.YtchfpgpboifbeaaGreat.Ac
open Go.RowKit
def bsAt (c : Nat → Bool) (i j : Nat) : Nat := if h : i < j then (if c ((i + j) / 2) then bsAt c ((i + j) / 2 + 1) j else bsAt c i ((i + j) / 2)) else i
  termination_by j - i
  decreasing_by all_goals omega
theorem bsAt_yes {c : Nat → Bool} {i j : Nat} (h : i < j) (hc : c ((i + j) / 2) = true) : bsAt c ((i + j) / 2 + 1) j = bsAt c i j := by
  conv => rhs; rw [bsAt]
  rw [dif_pos h, if_pos hc]
theorem bsAt_no {c : Nat → Bool} {i j : Nat} (h : i < j) (hc : c ((i + j) / 2) = false) : bsAt c i ((i + j) / 2) = bsAt c i j := by
  conv => rhs; rw [bsAt]
  rw [dif_pos h, if_neg (by simp [hc])]
theorem bsAt_end {c : Nat → Bool} (i : Nat) : bsAt c i i = i := by rw [bsAt, dif_neg (Nat.lt_irrefl _)]
def idD (l : List Nd) (id : Int) (i : Nat) : Int := IntKind.i64.wrap ((l[i]?.getD ⟨0, 0, 0, .empty, []⟩).id - id)
def bsIx (l : List Nd) (id : Int) : Nat := bsAt (fun i => decide (idD l id i < 0)) 0 l.length
theorem find1_ok (n : Nd) (id : Int) : FC Tryz.prog 269 [(true, ndL n), (false, [iL id])] [] [(false, [.f (iL (IntKind.i64.wrap (n.id - id)))])] := by
  refine gcalls_of tbl_ok mixed Tryz.func269 rfl Tryz.ntmps269 (by kernel_rfl) (Nat.le_of_ble_eq_true rfl) rfl rfl trivial ?_
  (conv => whnf)
  refine ⟨[], [], ?_⟩
  (repeat' first | exact trivial | exact rfl | exact tl_pv rfl rfl rfl (List.cons_ne_nil _ _) | exact ⟨_, rfl, frzC_map _⟩ | exact tl_ints rfl rfl rfl (by simp) | exact tl_txts rfl rfl rfl (by simp) | exact tl_nds rfl rfl rfl (by simp) | ((conv => whnf); first | exact trivial | exact rfl | exact .inr rfl | exact .inl ⟨rfl, rfl⟩ | apply And.intro) | refine tl_int ?_ | refine tl_bool ?_ | refine tl_str ?_ | refine tl_row rfl ?_ | exact cl_ints _ | exact cl_txts _ | exact cl_nds _ | exact cl_mp _ | exact Nat.succ_pos _ | exact pl_ints _ | exact pl_txts _ | exact pl_nds _ | with_reducible refine tl_f ?_)
theorem half {i j n : Nat} (hi : i ≤ n) (hj : j ≤ n) (hn : n < 2 ^ 62) : IntKind.i64.wrap ((IntKind.u64.wrap (IntKind.i64.wrap ((i : Int) + j))).fdiv (2 ^ min (Int.toNat 1) IntKind.u64.bits)) = (((i + j) / 2 : Nat) : Int) := by
  have h1 : IntKind.i64.wrap ((i : Int) + j) = ((i + j : Nat) : Int) := by rw [IntKind.wrap_i64]; omega
  have h2 : IntKind.u64.wrap ((i + j : Nat) : Int) = ((i + j : Nat) : Int) := by simp [IntKind.wrap, IntKind.bits, IntKind.signed]; omega
  have h3 : (2 : Int) ^ min (Int.toNat 1) IntKind.u64.bits = 2 := rfl
  rw [h1, h2, h3, Int.fdiv_eq_ediv_of_nonneg _ (by omega), IntKind.wrap_i64]
  omega
theorem bsearch_ok (l : List Nd) (id : Int) (hlen : l.length < 2 ^ 62) : FC Tryz.prog 268 [(false, [nds l]), (false, [iL id]), (false, [.cl 269 []])] []
    [(false, [.f (iL (bsIx l id))]), (false, [.f (bL (decide (bsIx l id < l.length ∧ idD l id (bsIx l id) = 0)))])] := by
  refine gcalls_of tbl_ok mixed Tryz.func268 rfl Tryz.ntmps268 (by kernel_rfl) (Nat.le_of_ble_eq_true rfl) rfl rfl trivial ?_
  (conv => whnf)
  refine ⟨fun (n : Nat) (es : Es) (hs : Hs) => ∃ i j : Nat, n = j - i ∧ i ≤ j ∧ j ≤ l.length ∧ bsAt (fun i => decide (idD l id i < 0)) i j = bsIx l id ∧ es = [(10, .val false [.f (iL j)]), (9, .val false [.f (iL i)]), (8, .val false [.f (iL l.length)]), (2, .val false [.f (.cl 269 [])]), (1, .val false [.f (iL id)]), (0, .val false [.f (nds l)])] ∧ hs = [],
    ⟨l.length, [], [], _, _, ⟨?_, ?_, ?_⟩, 0, l.length, rfl, Nat.zero_le _, Nat.le_refl _, rfl, rfl, rfl⟩, ?_⟩
  · rfl
  · (repeat' first | exact trivial | exact rfl | exact tl_pv rfl rfl rfl (List.cons_ne_nil _ _) | exact ⟨_, rfl, frzC_map _⟩ | exact tl_ints rfl rfl rfl (by simp) | exact tl_txts rfl rfl rfl (by simp) | exact tl_nds rfl rfl rfl (by simp) | ((conv => whnf); first | exact trivial | exact rfl | exact .inr rfl | exact .inl ⟨rfl, rfl⟩ | apply And.intro) | refine tl_int ?_ | refine tl_bool ?_ | refine tl_str ?_ | refine tl_row rfl ?_ | exact cl_ints _ | exact cl_txts _ | exact cl_nds _ | exact cl_mp _ | exact Nat.succ_pos _ | exact pl_ints _ | exact pl_txts _ | exact pl_nds _ | with_reducible refine tl_f ?_)
    all_goals simp
  · (repeat' first | exact trivial | exact rfl | exact tl_pv rfl rfl rfl (List.cons_ne_nil _ _) | exact ⟨_, rfl, frzC_map _⟩ | exact tl_ints rfl rfl rfl (by simp) | exact tl_txts rfl rfl rfl (by simp) | exact tl_nds rfl rfl rfl (by simp) | ((conv => whnf); first | exact trivial | exact rfl | exact .inr rfl | exact .inl ⟨rfl, rfl⟩ | apply And.intro) | refine tl_int ?_ | refine tl_bool ?_ | refine tl_str ?_ | refine tl_row rfl ?_ | exact cl_ints _ | exact cl_txts _ | exact cl_nds _ | exact cl_mp _ | exact Nat.succ_pos _ | exact pl_ints _ | exact pl_txts _ | exact pl_nds _ | with_reducible refine tl_f ?_)
  rintro n es hs ⟨i, j, rfl, hij, hj, hb, rfl, rfl⟩
  (conv => whnf)
  refine ⟨fun h => ?_, fun h => ?_⟩
  · have h' : i < j := by omega
    have hm : (i + j) / 2 < l.length := by omega
    have hh := half (n := l.length) (by omega : i ≤ l.length) hj hlen
    (conv => whnf)
    refine ⟨by decide, ?_⟩
    (conv => whnf)
    refine ⟨((i + j) / 2, ndL l[(i + j) / 2]), ⟨hh, by simp [hm]⟩, ?_⟩
    (conv => whnf)
    refine ⟨([], [(false, [.f (iL (idD l id ((i + j) / 2)))])]), ?_, ?_⟩
    · rw [show idD l id ((i + j) / 2) = IntKind.i64.wrap (l[(i + j) / 2].id - id) by simp [idD, hm]]
      exact find1_ok l[(i + j) / 2] id
    (conv => whnf)
    refine ⟨fun h => ?_, fun h => ?_⟩
    · (conv => whnf)
      refine ⟨j - ((i + j) / 2 + 1), [], [], [(10, .val false [.f (iL j)]), (9, .val false [.f (iL ((i + j) / 2 + 1 : Nat))]), (8, .val false [.f (iL l.length)]), (2, .val false [.f (.cl 269 [])]), (1, .val false [.f (iL id)]), (0, .val false [.f (nds l)])], [], by omega, ⟨?_, ?_, ?_⟩, (i + j) / 2 + 1, j, rfl, by omega, hj, ?_, rfl, rfl⟩
      · rfl
      · (repeat' first | exact trivial | exact rfl | exact tl_pv rfl rfl rfl (List.cons_ne_nil _ _) | exact ⟨_, rfl, frzC_map _⟩ | exact tl_ints rfl rfl rfl (by simp) | exact tl_txts rfl rfl rfl (by simp) | exact tl_nds rfl rfl rfl (by simp) | ((conv => whnf); first | exact trivial | exact rfl | exact .inr rfl | exact .inl ⟨rfl, rfl⟩ | apply And.intro) | refine tl_int ?_ | refine tl_bool ?_ | refine tl_str ?_ | refine tl_row rfl ?_ | exact cl_ints _ | exact cl_txts _ | exact cl_nds _ | exact cl_mp _ | exact Nat.succ_pos _ | exact pl_ints _ | exact pl_txts _ | exact pl_nds _ | with_reducible refine tl_f ?_)
        rw [hh]; exact wrap_suc (by omega)
      · (repeat' first | exact trivial | exact rfl | exact tl_pv rfl rfl rfl (List.cons_ne_nil _ _) | exact ⟨_, rfl, frzC_map _⟩ | exact tl_ints rfl rfl rfl (by simp) | exact tl_txts rfl rfl rfl (by simp) | exact tl_nds rfl rfl rfl (by simp) | ((conv => whnf); first | exact trivial | exact rfl | exact .inr rfl | exact .inl ⟨rfl, rfl⟩ | apply And.intro) | refine tl_int ?_ | refine tl_bool ?_ | refine tl_str ?_ | refine tl_row rfl ?_ | exact cl_ints _ | exact cl_txts _ | exact cl_nds _ | exact cl_mp _ | exact Nat.succ_pos _ | exact pl_ints _ | exact pl_txts _ | exact pl_nds _ | with_reducible refine tl_f ?_)
      · exact (bsAt_yes h' (by simpa using h)).trans hb
    · (conv => whnf)
      refine ⟨(i + j) / 2 - i, [], [], [(10, .val false [.f (iL ((i + j) / 2 : Nat))]), (9, .val false [.f (iL i)]), (8, .val false [.f (iL l.length)]), (2, .val false [.f (.cl 269 [])]), (1, .val false [.f (iL id)]), (0, .val false [.f (nds l)])], [], by omega, ⟨?_, ?_, ?_⟩, i, (i + j) / 2, rfl, by omega, by omega, ?_, rfl, rfl⟩
      · rfl
      · (repeat' first | exact trivial | exact rfl | exact tl_pv rfl rfl rfl (List.cons_ne_nil _ _) | exact ⟨_, rfl, frzC_map _⟩ | exact tl_ints rfl rfl rfl (by simp) | exact tl_txts rfl rfl rfl (by simp) | exact tl_nds rfl rfl rfl (by simp) | ((conv => whnf); first | exact trivial | exact rfl | exact .inr rfl | exact .inl ⟨rfl, rfl⟩ | apply And.intro) | refine tl_int ?_ | refine tl_bool ?_ | refine tl_str ?_ | refine tl_row rfl ?_ | exact cl_ints _ | exact cl_txts _ | exact cl_nds _ | exact cl_mp _ | exact Nat.succ_pos _ | exact pl_ints _ | exact pl_txts _ | exact pl_nds _ | with_reducible refine tl_f ?_)
        exact hh
      · (repeat' first | exact trivial | exact rfl | exact tl_pv rfl rfl rfl (List.cons_ne_nil _ _) | exact ⟨_, rfl, frzC_map _⟩ | exact tl_ints rfl rfl rfl (by simp) | exact tl_txts rfl rfl rfl (by simp) | exact tl_nds rfl rfl rfl (by simp) | ((conv => whnf); first | exact trivial | exact rfl | exact .inr rfl | exact .inl ⟨rfl, rfl⟩ | apply And.intro) | refine tl_int ?_ | refine tl_bool ?_ | refine tl_str ?_ | refine tl_row rfl ?_ | exact cl_ints _ | exact cl_txts _ | exact cl_nds _ | exact cl_mp _ | exact Nat.succ_pos _ | exact pl_ints _ | exact pl_txts _ | exact pl_nds _ | with_reducible refine tl_f ?_)
      · exact (bsAt_no h' (by simpa using h)).trans hb
  · have h' : i = j := by omega
    subst h'
    have hx : i = bsIx l id := by rw [← hb, bsAt_end]
    (conv => whnf)
    refine ⟨fun h => ?_, fun h => ?_⟩
    · have hm : i < l.length := by omega
      (conv => whnf)
      refine ⟨(i, ndL l[i]), ⟨rfl, by simp [hm]⟩, ?_⟩
      (conv => whnf)
      refine ⟨([], [(false, [.f (iL (idD l id i))])]), ?_, ?_⟩
      · rw [show idD l id i = IntKind.i64.wrap (l[i].id - id) by simp [idD, hm]]
        exact find1_ok l[i] id
      (conv => whnf)
      refine ⟨fun h => ?_, fun h => ?_⟩
      · (conv => whnf)
        refine ⟨[], [], ?_⟩
        (repeat' first | exact trivial | exact rfl | exact tl_pv rfl rfl rfl (List.cons_ne_nil _ _) | exact ⟨_, rfl, frzC_map _⟩ | exact tl_ints rfl rfl rfl (by simp) | exact tl_txts rfl rfl rfl (by simp) | exact tl_nds rfl rfl rfl (by simp) | ((conv => whnf); first | exact trivial | exact rfl | exact .inr rfl | exact .inl ⟨rfl, rfl⟩ | apply And.intro) | refine tl_int ?_ | refine tl_bool ?_ | refine tl_str ?_ | refine tl_row rfl ?_ | exact cl_ints _ | exact cl_txts _ | exact cl_nds _ | exact cl_mp _ | exact Nat.succ_pos _ | exact pl_ints _ | exact pl_txts _ | exact pl_nds _ | with_reducible refine tl_f ?_)
        · rw [hx]
        · exact b_true ⟨hx ▸ hm, hx ▸ h⟩
      · (conv => whnf)
        refine ⟨[], [], ?_⟩
        (repeat' first | exact trivial | exact rfl | exact tl_pv rfl rfl rfl (List.cons_ne_nil _ _) | exact ⟨_, rfl, frzC_map _⟩ | exact tl_ints rfl rfl rfl (by simp) | exact tl_txts rfl rfl rfl (by simp) | exact tl_nds rfl rfl rfl (by simp) | ((conv => whnf); first | exact trivial | exact rfl | exact .inr rfl | exact .inl ⟨rfl, rfl⟩ | apply And.intro) | refine tl_int ?_ | refine tl_bool ?_ | refine tl_str ?_ | refine tl_row rfl ?_ | exact cl_ints _ | exact cl_txts _ | exact cl_nds _ | exact cl_mp _ | exact Nat.succ_pos _ | exact pl_ints _ | exact pl_txts _ | exact pl_nds _ | with_reducible refine tl_f ?_)
        · rw [hx]
        · exact b_false fun e => h (hx.symm ▸ e.2)
    · (conv => whnf)
      refine ⟨[], [], ?_⟩
      (repeat' first | exact trivial | exact rfl | exact tl_pv rfl rfl rfl (List.cons_ne_nil _ _) | exact ⟨_, rfl, frzC_map _⟩ | exact tl_ints rfl rfl rfl (by simp) | exact tl_txts rfl rfl rfl (by simp) | exact tl_nds rfl rfl rfl (by simp) | ((conv => whnf); first | exact trivial | exact rfl | exact .inr rfl | exact .inl ⟨rfl, rfl⟩ | apply And.intro) | refine tl_int ?_ | refine tl_bool ?_ | refine tl_str ?_ | refine tl_row rfl ?_ | exact cl_ints _ | exact cl_txts _ | exact cl_nds _ | exact cl_mp _ | exact Nat.succ_pos _ | exact pl_ints _ | exact pl_txts _ | exact pl_nds _ | with_reducible refine tl_f ?_)
      · rw [hx]
      · exact b_false fun e => h (by rw [hx]; exact_mod_cast e.1)
end Go.Proofs.YtchfpgpboifbeaaGreat.Ac
