/- Several of our texts, one behind the other, without what this claim does not need: Rs. -/
import Derived.Test.YtecnmodeggnjoaaGreatZ2e4902f1
import Derived.Test.YtecnmodeggnjoaaGreatZe0d619a2
import Derived.Test.YtecnmodeggnjoaaGreatZ4671c32c
set_option linter.unusedVariables false
set_option linter.unusedSimpArgs false
set_option maxRecDepth 20000
set_option maxHeartbeats 20000000
namespace Go.Proofs.YtecnmodeggnjoaaGreat.Ac
open Go.RowKit
theorem toDoc_sz (x : Dc) (h : szD x ≤ 2 ^ 20) : FC Tryz.prog 18 [(true, dcL x)] [(1000, some ⟨0, 5, x.nodes.map ndW⟩)] [(true, [.f (iL x.root), .f (iL x.next), .row 1000 0 x.nodes.length])] := toDoc_ok x (by unfold szD at h; omega) fun n hn => by have := szN_le hn; unfold szD at h; unfold szN at this; omega
theorem toIntS_sz (x : List Int) (h : x.length ≤ 2 ^ 20) : FC Tryz.prog 248 [(false, [ints x])] [(1000, some ⟨0, 1, x.map intW⟩)] [(false, [.row 1000 0 x.length])] := toIntS_ok x (by omega)
theorem eqIntS_sz (x : List Int) (h : x.length ≤ 2 ^ 20) : FC Tryz.prog 22 [(false, [ints x]), (false, [ints x])] [] [(false, [.f (bL true)])] := eqIntS_refl x (by omega)
theorem eqDoc_sz (x : Dc) (h : szD x ≤ 2 ^ 20) : FC Tryz.prog 23 [(true, dcL x), (true, dcL x)] [] [(false, [.f (bL true)])] := eqDoc_refl x (by unfold szD at h; omega) fun n hn => by have := szN_le hn; unfold szD at h; unfold szN at this; omega
theorem szDoc_in (x : Dc) (left : Int) (h0 : 0 ≤ left ∧ left ≤ 2 ^ 20) (hx : DcIn x) : FC Tryz.prog 15 [(true, dcL x), (false, [iL left])] [] [(false, [.f (iL (szL (szD x) left))])] := szDoc_ok x left h0 hx.len hx.txt hx.kid
theorem szIntS_in (x : List Int) (left : Int) (h0 : 0 ≤ left ∧ left ≤ 2 ^ 20) (hx : ListIn I64 x) : FC Tryz.prog 241 [(false, [ints x]), (false, [iL left])] [] [(false, [.f (iL (szL x.length left))])] := szIntS_ok x left h0 hx.1
theorem szTerm_ok (x : Tm) (left : Int) (h0 : 0 ≤ left ∧ left ≤ 2 ^ 20) (hx : TmIn x) : FC Tryz.prog 325 [(true, tmL x), (false, [iL left])] [] [(false, [.f (iL (szL (szTm x) left))])] := by
  have hz : szTm x = x.kinds.length := rfl
  refine gr1 Tryz.func325 Tryz.ntmps325 trivial ?_
  have c0 := szIntS_in x.kinds (left) (by omega) (hx.1)
  refine ⟨([], _), c0, nw ?_⟩
  refine ⟨fun h => nw ?_, fun h => nw ?_⟩
  (refine ⟨[], [], ?_⟩; rotate_left)
  have e0 : szL (x.kinds.length) (left) = left - ((x.kinds.length : Nat) : Int) := by unfold szL at h ⊢; split at h <;> split <;> omega
  rw [e0] at h
  rw [e0]
  have g0 := Int.not_lt.1 h
  (refine ⟨[], [], ?_⟩; rotate_left)
  all_goals (try (repeat' first | exact trivial | exact rfl | exact tl_pv rfl rfl rfl (List.cons_ne_nil _ _) | exact ⟨_, rfl, frzC_map _⟩ | exact tl_ints rfl rfl rfl (by simp) | exact tl_txts rfl rfl rfl (by simp) | exact tl_nds rfl rfl rfl (by simp) | exact tl_tms rfl rfl rfl (by simp) | exact tl_rus rfl rfl rfl (by simp) | exact tl_eds rfl rfl rfl (by simp) | exact tl_hos rfl rfl rfl (by simp) | exact tl_tbs rfl rfl rfl (by simp) | exact tl_ses rfl rfl rfl (by simp) | exact tl_evs rfl rfl rfl (by simp) | ((conv => whnf); first | exact trivial | exact rfl | exact .inr rfl | exact .inl ⟨rfl, rfl⟩ | apply And.intro) | refine tl_int ?_ | refine tl_bool ?_ | refine tl_str ?_ | refine tl_row rfl ?_ | exact cl_ints _ | exact cl_txts _ | exact cl_nds _ | exact cl_tms _ | exact cl_rus _ | exact cl_eds _ | exact cl_hos _ | exact cl_tbs _ | exact cl_ses _ | exact cl_evs _ | exact cl_mp _ | exact Nat.succ_pos _ | exact pl_ints _ | exact pl_txts _ | exact pl_nds _ | exact pl_tms _ | exact pl_rus _ | exact pl_eds _ | exact pl_hos _ | exact pl_tbs _ | exact pl_ses _ | exact pl_evs _ | with_reducible refine tl_f ?_)); all_goals (try first | rfl | assumption | exact q.symm | omega | (rw [IntKind.wrap_i64]; omega) | (simp; done) | (simp; omega))
  all_goals first
    | (unfold szL; rw [if_pos (by omega)]; omega)
    | (unfold szL; rw [if_neg (by omega)])
    | (unfold szL at *; repeat' (first | omega | split at *))
theorem szTermS_ok (x : List Tm) (left : Int) (h0 : 0 ≤ left ∧ left ≤ 2 ^ 20) (hx : ListIn TmIn x) : FC Tryz.prog 263 [(false, [tms x]), (false, [iL left])] [] [(false, [.f (iL (szL (x.length + szTms x) left))])] := by
  have hw : IntKind.i64.wrap (left - ((x.map tmL).length : Int)) = left - x.length := by have h1 := hx.1; rw [IntKind.wrap_i64]; simp; omega
  refine gr1 Tryz.func263 Tryz.ntmps263 trivial ?_
  rw [hw]
  refine ⟨fun h => nw ?_, fun h => nw ?_⟩
  (refine ⟨[], [], ?_⟩; rotate_left)
  have h1 := Int.not_lt.1 h
  (refine ⟨fun m es hs => ∃ (i : Nat) (lf : Int), (m + i = x.length) ∧ (0 ≤ lf ∧ lf ≤ 2 ^ 20) ∧ (szL (szTms (x.drop i)) lf = szL (x.length + szTms x) left) ∧ es = [(5, .val false [.f (iL i)]), (1, .val false [.f (iL lf)]), (0, .val false [.f (tms x)])] ∧ hs = [], ⟨x.length, [], [], _, _, ⟨rfl, ?_, ?_⟩, 0, (left - x.length), ?_, ?_, ?_, rfl, rfl⟩, ?_⟩; rotate_left 5; rintro m _ _ ⟨i, lf, hSTm0, hSTm1, hSTm2, rfl, rfl⟩; refine nw ?_)
  refine ⟨fun h => nw ?_, fun h => nw ?_⟩
  have hi : i < x.length := by simpa using h
  rw [List.drop_eq_getElem_cons hi, szTms_cons] at hSTm2
  have hc := szTerm_ok x[i] lf hSTm1 (hx.2 _ (List.getElem_mem _))
  refine ⟨(i, tmL x[i]), ⟨rfl, by simp [hi]⟩, nw ?_⟩
  refine ⟨([], _), hc, nw ?_⟩
  refine ⟨fun h => nw ?_, fun h => nw ?_⟩
  (refine ⟨[], [], ?_⟩; rotate_left)
  (refine ⟨m - 1, [], [], [(5, .val false [.f (iL (i + 1))]), (1, .val false [.f (iL (szL (szTm x[i]) lf))]), (0, .val false [.f (tms x)])], [], by omega, ⟨rfl, ?_, ?_⟩, (i + 1), (szL (szTm x[i]) lf), ?_, ?_, ?_, rfl, rfl⟩; rotate_left 5)
  have hi : x.length ≤ i := by simpa using h
  (refine ⟨[], [], ?_⟩; rotate_left)
  all_goals (try (repeat' first | exact trivial | exact rfl | exact tl_pv rfl rfl rfl (List.cons_ne_nil _ _) | exact ⟨_, rfl, frzC_map _⟩ | exact tl_ints rfl rfl rfl (by simp) | exact tl_txts rfl rfl rfl (by simp) | exact tl_nds rfl rfl rfl (by simp) | exact tl_tms rfl rfl rfl (by simp) | exact tl_rus rfl rfl rfl (by simp) | exact tl_eds rfl rfl rfl (by simp) | exact tl_hos rfl rfl rfl (by simp) | exact tl_tbs rfl rfl rfl (by simp) | exact tl_ses rfl rfl rfl (by simp) | exact tl_evs rfl rfl rfl (by simp) | ((conv => whnf); first | exact trivial | exact rfl | exact .inr rfl | exact .inl ⟨rfl, rfl⟩ | apply And.intro) | refine tl_int ?_ | refine tl_bool ?_ | refine tl_str ?_ | refine tl_row rfl ?_ | exact cl_ints _ | exact cl_txts _ | exact cl_nds _ | exact cl_tms _ | exact cl_rus _ | exact cl_eds _ | exact cl_hos _ | exact cl_tbs _ | exact cl_ses _ | exact cl_evs _ | exact cl_mp _ | exact Nat.succ_pos _ | exact pl_ints _ | exact pl_txts _ | exact pl_nds _ | exact pl_tms _ | exact pl_rus _ | exact pl_eds _ | exact pl_hos _ | exact pl_tbs _ | exact pl_ses _ | exact pl_evs _ | with_reducible refine tl_f ?_)); all_goals (try first | rfl | assumption | exact q.symm | omega | (rw [IntKind.wrap_i64]; omega) | (simp; done) | (simp; omega))
  all_goals first
    | (unfold szL; rw [if_neg (by omega)])
    | (rw [List.drop_zero]; unfold szL; split <;> split <;> omega)
    | (rw [← hSTm2, List.drop_eq_nil_of_le hi]; unfold szL szTms; simp; omega)
    | (rw [← hSTm2]; unfold szL at h ⊢; split at h <;> split <;> omega)
    | (rw [← hSTm2]; unfold szL at h ⊢; split at h <;> split <;> split <;> omega)
    | (unfold szL at h ⊢; split at h <;> split <;> omega)
theorem toTerm_ok (x : Tm) (hs : szTm x ≤ 2 ^ 20) : FC Tryz.prog 328 [(true, tmL x)] [(1000, some ⟨0, 1, x.kinds.map intW⟩)] [(true, [.row 1000 0 x.kinds.length, .f (iL x.many)])] := by
  have hz : szTm x = x.kinds.length := rfl
  have t0 := toIntS_sz x.kinds (by omega)
  refine gr1 Tryz.func328 Tryz.ntmps328 (⟨cl_ints _, trivial⟩) ?_
  refine ⟨(_, _), t0, nw ?_⟩
  exact ⟨[], [(1000, 112)], don⟩
theorem toTermS_ok (x : List Tm) (hs : x.length + szTms x ≤ 2 ^ 20) : FC Tryz.prog 267 [(false, [tms x])] [(1000, some ⟨0, 2, x.map tmW⟩)] [(false, [.row 1000 0 x.length])] := by
  refine gr1 Tryz.func267 Tryz.ntmps267 (⟨cl_tms _, trivial⟩) ?_
  refine ⟨(x.length, x.length), ⟨by simp, by simp, Nat.le_refl _, by dsimp only; omega⟩, nw ?_⟩
  (refine ⟨fun m es hs => ∃ (i : Nat), (m + i = x.length) ∧ es = [(4, .val false [.f (iL i)]), (3, .val false [.row 3 0 x.length]), (0, .val false [.f (tms x)])] ∧ hs = [(3, some ⟨0, 2, (x.take i).map tmW ++ List.replicate (x.length - i) zTm⟩)], ⟨x.length, [], [(3, 128)], _, _, ⟨rfl, ?_, ?_⟩, 0, ?_, rfl, rfl⟩, ?_⟩; rotate_left 3; rintro m _ _ ⟨i, hTTm0, rfl, rfl⟩; refine nw ?_)
  refine ⟨fun h => nw ?_, fun h => nw ?_⟩
  have hi : i < x.length := by simpa using h
  refine ⟨(i, tmL x[i]), ⟨rfl, by simp [hi]⟩, nw ?_⟩
  refine ⟨(_, _), toTerm_ok x[i] (by have := szTm_le (List.getElem_mem hi); omega), nw ?_⟩
  refine ⟨i, ⟨rfl, hi⟩, nw ?_⟩
  refine ⟨zTm, fill_get hi, nw ?_⟩
  refine ⟨m - 1, [(336, 3, i, 0)], [], [(4, .val false [.f (iL (i + 1))]), (3, .val false [.row 3 0 x.length]), (0, .val false [.f (tms x)])], [(3, some ⟨0, 2, (x.take (i + 1)).map tmW ++ List.replicate (x.length - (i + 1)) zTm⟩)], by omega, nw ?_, (i + 1), ?_, rfl, rfl⟩
  refine ⟨_, List.getElem?_set_self (by simp; omega), nw ?_⟩
  refine ⟨x[i].kinds.map intW, by rw [List.take_of_length_le (by simp)], nw ?_⟩
  (refine ⟨rfl, ?_, ?_⟩; rotate_left 3)
  have hi : x.length ≤ i := by simpa using h
  have e : (x.take i).map tmW ++ List.replicate (x.length - i) zTm = x.map tmW := by rw [List.take_of_length_le hi, show x.length - i = 0 by omega]; simp
  rw [e]
  (refine ⟨[], [(1000, 3)], ?_⟩; rotate_left)
  all_goals (try (repeat' first | exact trivial | exact rfl | exact tl_pv rfl rfl rfl (List.cons_ne_nil _ _) | exact ⟨_, rfl, frzC_map _⟩ | exact tl_ints rfl rfl rfl (by simp) | exact tl_txts rfl rfl rfl (by simp) | exact tl_nds rfl rfl rfl (by simp) | exact tl_tms rfl rfl rfl (by simp) | exact tl_rus rfl rfl rfl (by simp) | exact tl_eds rfl rfl rfl (by simp) | exact tl_hos rfl rfl rfl (by simp) | exact tl_tbs rfl rfl rfl (by simp) | exact tl_ses rfl rfl rfl (by simp) | exact tl_evs rfl rfl rfl (by simp) | ((conv => whnf); first | exact trivial | exact rfl | exact .inr rfl | exact .inl ⟨rfl, rfl⟩ | apply And.intro) | refine tl_int ?_ | refine tl_bool ?_ | refine tl_str ?_ | refine tl_row rfl ?_ | exact cl_ints _ | exact cl_txts _ | exact cl_nds _ | exact cl_tms _ | exact cl_rus _ | exact cl_eds _ | exact cl_hos _ | exact cl_tbs _ | exact cl_ses _ | exact cl_evs _ | exact cl_mp _ | exact Nat.succ_pos _ | exact pl_ints _ | exact pl_txts _ | exact pl_nds _ | exact pl_tms _ | exact pl_rus _ | exact pl_eds _ | exact pl_hos _ | exact pl_tbs _ | exact pl_ses _ | exact pl_evs _ | with_reducible refine tl_f ?_)); all_goals (try first | rfl | assumption | exact q.symm | omega | (rw [IntKind.wrap_i64]; omega) | (simp; done) | (simp; omega))
  all_goals first
    | exact cl_app (cl_tms _) (cl_rep _ ⟨trivial, trivial, trivial⟩)
    | (simp only [List.set_set]; exact fill_set (f := tmW) hi)
    | (dsimp only; simp only [List.set_set]; exact fill_set (f := tmW) hi)
theorem eqTerm_refl (x : Tm) (hs : szTm x ≤ 2 ^ 20) : FC Tryz.prog 336 [(true, tmL x), (true, tmL x)] [] [(false, [.f (bL true)])] := by
  have hz : szTm x = x.kinds.length := rfl
  have t0 := eqIntS_sz x.kinds (by omega)
  refine gr1 Tryz.func336 Tryz.ntmps336 trivial ?_
  refine ⟨([], _), t0, nw ?_⟩
  refine ⟨fun h => absurd rfl h, fun h => nw ?_⟩
  exact ⟨[], [], don⟩
theorem eqTermS_refl (x : List Tm) (hs : x.length + szTms x ≤ 2 ^ 20) : FC Tryz.prog 280 [(false, [tms x]), (false, [tms x])] [] [(false, [.f (bL true)])] := by
  refine gr1 Tryz.func280 Tryz.ntmps280 trivial ?_
  refine ⟨fun h => absurd rfl h, fun h => nw ?_⟩
  (refine ⟨fun m es hs => ∃ (i : Nat), (m + i = x.length) ∧ es = [(5, .val false [.f (iL i)]), (1, .val false [.f (tms x)]), (0, .val false [.f (tms x)])] ∧ hs = [], ⟨x.length, [], [], _, _, don, 0, don, rfl, rfl⟩, ?_⟩; rintro m _ _ ⟨i, hETm0, rfl, rfl⟩; refine nw ?_)
  refine ⟨fun h => nw ?_, fun h => nw ?_⟩
  have hi : i < x.length := by simpa using h
  refine ⟨by kernel_rfl, nw ?_⟩
  refine ⟨(i, tmL x[i]), ⟨rfl, by simp [hi]⟩, nw ?_⟩
  refine ⟨(i, tmL x[i]), ⟨rfl, by simp [hi]⟩, nw ?_⟩
  refine ⟨([], _), eqTerm_refl x[i] (by have := szTm_le (List.getElem_mem hi); omega), nw ?_⟩
  refine ⟨by kernel_rfl, nw ?_⟩
  exact ⟨m - 1, [], [], _, _, by omega, don, (i + 1), don, rfl, rfl⟩
  exact ⟨[], [], don⟩
theorem szRule_ok (x : Ru) (left : Int) (h0 : 0 ≤ left ∧ left ≤ 2 ^ 20) (hx : RuIn x) : FC Tryz.prog 182 [(true, ruL x), (false, [iL left])] [] [(false, [.f (iL (szL (szRu x) left))])] := by
  have hz : szRu x = x.name.size + (x.terms.length + szTms x.terms) := rfl
  refine gr1 Tryz.func182 Tryz.ntmps182 trivial ?_
  have w0 : IntKind.i64.wrap (left - (x.name.size : Int)) = left - x.name.size := by have hs := hx.1; rw [IntKind.wrap_i64]; omega
  rw [w0]
  refine ⟨fun h => nw ?_, fun h => nw ?_⟩
  (refine ⟨[], [], ?_⟩; rotate_left)
  have e0 : left - (x.name.size : Int) = left - ((x.name.size : Nat) : Int) := by omega
  rw [e0] at h
  rw [e0]
  have g0 := Int.not_lt.1 h
  have c1 := szTermS_ok x.terms (left - ((x.name.size : Nat) : Int)) (by omega) (hx.2.2)
  refine ⟨([], _), c1, nw ?_⟩
  refine ⟨fun h => nw ?_, fun h => nw ?_⟩
  (refine ⟨[], [], ?_⟩; rotate_left)
  have e1 : szL ((x.terms.length + szTms x.terms)) (left - ((x.name.size : Nat) : Int)) = left - ((x.name.size + (x.terms.length + szTms x.terms) : Nat) : Int) := by unfold szL at h ⊢; split at h <;> split <;> omega
  rw [e1] at h
  rw [e1]
  have g1 := Int.not_lt.1 h
  (refine ⟨[], [], ?_⟩; rotate_left)
  all_goals (try (repeat' first | exact trivial | exact rfl | exact tl_pv rfl rfl rfl (List.cons_ne_nil _ _) | exact ⟨_, rfl, frzC_map _⟩ | exact tl_ints rfl rfl rfl (by simp) | exact tl_txts rfl rfl rfl (by simp) | exact tl_nds rfl rfl rfl (by simp) | exact tl_tms rfl rfl rfl (by simp) | exact tl_rus rfl rfl rfl (by simp) | exact tl_eds rfl rfl rfl (by simp) | exact tl_hos rfl rfl rfl (by simp) | exact tl_tbs rfl rfl rfl (by simp) | exact tl_ses rfl rfl rfl (by simp) | exact tl_evs rfl rfl rfl (by simp) | ((conv => whnf); first | exact trivial | exact rfl | exact .inr rfl | exact .inl ⟨rfl, rfl⟩ | apply And.intro) | refine tl_int ?_ | refine tl_bool ?_ | refine tl_str ?_ | refine tl_row rfl ?_ | exact cl_ints _ | exact cl_txts _ | exact cl_nds _ | exact cl_tms _ | exact cl_rus _ | exact cl_eds _ | exact cl_hos _ | exact cl_tbs _ | exact cl_ses _ | exact cl_evs _ | exact cl_mp _ | exact Nat.succ_pos _ | exact pl_ints _ | exact pl_txts _ | exact pl_nds _ | exact pl_tms _ | exact pl_rus _ | exact pl_eds _ | exact pl_hos _ | exact pl_tbs _ | exact pl_ses _ | exact pl_evs _ | with_reducible refine tl_f ?_)); all_goals (try first | rfl | assumption | exact q.symm | omega | (rw [IntKind.wrap_i64]; omega) | (simp; done) | (simp; omega))
  all_goals first
    | (unfold szL; rw [if_pos (by omega)]; omega)
    | (unfold szL; rw [if_neg (by omega)])
    | (unfold szL at *; repeat' (first | omega | split at *))
theorem szRuleS_ok (x : List Ru) (left : Int) (h0 : 0 ≤ left ∧ left ≤ 2 ^ 20) (hx : ListIn RuIn x) : FC Tryz.prog 100 [(false, [rus x]), (false, [iL left])] [] [(false, [.f (iL (szL (x.length + szRus x) left))])] := by
  have hw : IntKind.i64.wrap (left - ((x.map ruL).length : Int)) = left - x.length := by have h1 := hx.1; rw [IntKind.wrap_i64]; simp; omega
  refine gr1 Tryz.func100 Tryz.ntmps100 trivial ?_
  rw [hw]
  refine ⟨fun h => nw ?_, fun h => nw ?_⟩
  (refine ⟨[], [], ?_⟩; rotate_left)
  have h1 := Int.not_lt.1 h
  (refine ⟨fun m es hs => ∃ (i : Nat) (lf : Int), (m + i = x.length) ∧ (0 ≤ lf ∧ lf ≤ 2 ^ 20) ∧ (szL (szRus (x.drop i)) lf = szL (x.length + szRus x) left) ∧ es = [(5, .val false [.f (iL i)]), (1, .val false [.f (iL lf)]), (0, .val false [.f (rus x)])] ∧ hs = [], ⟨x.length, [], [], _, _, ⟨rfl, ?_, ?_⟩, 0, (left - x.length), ?_, ?_, ?_, rfl, rfl⟩, ?_⟩; rotate_left 5; rintro m _ _ ⟨i, lf, hSRu0, hSRu1, hSRu2, rfl, rfl⟩; refine nw ?_)
  refine ⟨fun h => nw ?_, fun h => nw ?_⟩
  have hi : i < x.length := by simpa using h
  rw [List.drop_eq_getElem_cons hi, szRus_cons] at hSRu2
  have hc := szRule_ok x[i] lf hSRu1 (hx.2 _ (List.getElem_mem _))
  refine ⟨(i, ruL x[i]), ⟨rfl, by simp [hi]⟩, nw ?_⟩
  refine ⟨([], _), hc, nw ?_⟩
  refine ⟨fun h => nw ?_, fun h => nw ?_⟩
  (refine ⟨[], [], ?_⟩; rotate_left)
  (refine ⟨m - 1, [], [], [(5, .val false [.f (iL (i + 1))]), (1, .val false [.f (iL (szL (szRu x[i]) lf))]), (0, .val false [.f (rus x)])], [], by omega, ⟨rfl, ?_, ?_⟩, (i + 1), (szL (szRu x[i]) lf), ?_, ?_, ?_, rfl, rfl⟩; rotate_left 5)
  have hi : x.length ≤ i := by simpa using h
  (refine ⟨[], [], ?_⟩; rotate_left)
  all_goals (try (repeat' first | exact trivial | exact rfl | exact tl_pv rfl rfl rfl (List.cons_ne_nil _ _) | exact ⟨_, rfl, frzC_map _⟩ | exact tl_ints rfl rfl rfl (by simp) | exact tl_txts rfl rfl rfl (by simp) | exact tl_nds rfl rfl rfl (by simp) | exact tl_tms rfl rfl rfl (by simp) | exact tl_rus rfl rfl rfl (by simp) | exact tl_eds rfl rfl rfl (by simp) | exact tl_hos rfl rfl rfl (by simp) | exact tl_tbs rfl rfl rfl (by simp) | exact tl_ses rfl rfl rfl (by simp) | exact tl_evs rfl rfl rfl (by simp) | ((conv => whnf); first | exact trivial | exact rfl | exact .inr rfl | exact .inl ⟨rfl, rfl⟩ | apply And.intro) | refine tl_int ?_ | refine tl_bool ?_ | refine tl_str ?_ | refine tl_row rfl ?_ | exact cl_ints _ | exact cl_txts _ | exact cl_nds _ | exact cl_tms _ | exact cl_rus _ | exact cl_eds _ | exact cl_hos _ | exact cl_tbs _ | exact cl_ses _ | exact cl_evs _ | exact cl_mp _ | exact Nat.succ_pos _ | exact pl_ints _ | exact pl_txts _ | exact pl_nds _ | exact pl_tms _ | exact pl_rus _ | exact pl_eds _ | exact pl_hos _ | exact pl_tbs _ | exact pl_ses _ | exact pl_evs _ | with_reducible refine tl_f ?_)); all_goals (try first | rfl | assumption | exact q.symm | omega | (rw [IntKind.wrap_i64]; omega) | (simp; done) | (simp; omega))
  all_goals first
    | (unfold szL; rw [if_neg (by omega)])
    | (rw [List.drop_zero]; unfold szL; split <;> split <;> omega)
    | (rw [← hSRu2, List.drop_eq_nil_of_le hi]; unfold szL szRus; simp; omega)
    | (rw [← hSRu2]; unfold szL at h ⊢; split at h <;> split <;> omega)
    | (rw [← hSRu2]; unfold szL at h ⊢; split at h <;> split <;> split <;> omega)
    | (unfold szL at h ⊢; split at h <;> split <;> omega)
theorem toRule_ok (x : Ru) (hs : szRu x ≤ 2 ^ 20) : FC Tryz.prog 188 [(true, ruL x)] [(1000, some ⟨0, 2, x.terms.map tmW⟩)] [(true, [.f (sL x.name), .f (bL x.leaf), .row 1000 0 x.terms.length])] := by
  have hz : szRu x = x.name.size + (x.terms.length + szTms x.terms) := rfl
  have t0 := toTermS_ok x.terms (by omega)
  refine gr1 Tryz.func188 Tryz.ntmps188 (⟨cl_tms _, trivial⟩) ?_
  refine ⟨(_, _), t0, nw ?_⟩
  exact ⟨[], [(1000, 208)], don⟩
theorem toRuleS_ok (x : List Ru) (hs : x.length + szRus x ≤ 2 ^ 20) : FC Tryz.prog 106 [(false, [rus x])] [(1000, some ⟨0, 3, x.map ruW⟩)] [(false, [.row 1000 0 x.length])] := by
  refine gr1 Tryz.func106 Tryz.ntmps106 (⟨cl_rus _, trivial⟩) ?_
  refine ⟨(x.length, x.length), ⟨by simp, by simp, Nat.le_refl _, by dsimp only; omega⟩, nw ?_⟩
  (refine ⟨fun m es hs => ∃ (i : Nat), (m + i = x.length) ∧ es = [(4, .val false [.f (iL i)]), (3, .val false [.row 3 0 x.length]), (0, .val false [.f (rus x)])] ∧ hs = [(3, some ⟨0, 3, (x.take i).map ruW ++ List.replicate (x.length - i) zRu⟩)], ⟨x.length, [], [(3, 128)], _, _, ⟨rfl, ?_, ?_⟩, 0, ?_, rfl, rfl⟩, ?_⟩; rotate_left 3; rintro m _ _ ⟨i, hTRu0, rfl, rfl⟩; refine nw ?_)
  refine ⟨fun h => nw ?_, fun h => nw ?_⟩
  have hi : i < x.length := by simpa using h
  refine ⟨(i, ruL x[i]), ⟨rfl, by simp [hi]⟩, nw ?_⟩
  refine ⟨(_, _), toRule_ok x[i] (by have := szRu_le (List.getElem_mem hi); omega), nw ?_⟩
  refine ⟨i, ⟨rfl, hi⟩, nw ?_⟩
  refine ⟨zRu, fill_get hi, nw ?_⟩
  refine ⟨m - 1, [(336, 3, i, 2)], [], [(4, .val false [.f (iL (i + 1))]), (3, .val false [.row 3 0 x.length]), (0, .val false [.f (rus x)])], [(3, some ⟨0, 3, (x.take (i + 1)).map ruW ++ List.replicate (x.length - (i + 1)) zRu⟩)], by omega, nw ?_, (i + 1), ?_, rfl, rfl⟩
  refine ⟨_, List.getElem?_set_self (by simp; omega), nw ?_⟩
  refine ⟨x[i].terms.map tmW, by rw [List.take_of_length_le (by simp)], nw ?_⟩
  (refine ⟨rfl, ?_, ?_⟩; rotate_left 3)
  have hi : x.length ≤ i := by simpa using h
  have e : (x.take i).map ruW ++ List.replicate (x.length - i) zRu = x.map ruW := by rw [List.take_of_length_le hi, show x.length - i = 0 by omega]; simp
  rw [e]
  (refine ⟨[], [(1000, 3)], ?_⟩; rotate_left)
  all_goals (try (repeat' first | exact trivial | exact rfl | exact tl_pv rfl rfl rfl (List.cons_ne_nil _ _) | exact ⟨_, rfl, frzC_map _⟩ | exact tl_ints rfl rfl rfl (by simp) | exact tl_txts rfl rfl rfl (by simp) | exact tl_nds rfl rfl rfl (by simp) | exact tl_tms rfl rfl rfl (by simp) | exact tl_rus rfl rfl rfl (by simp) | exact tl_eds rfl rfl rfl (by simp) | exact tl_hos rfl rfl rfl (by simp) | exact tl_tbs rfl rfl rfl (by simp) | exact tl_ses rfl rfl rfl (by simp) | exact tl_evs rfl rfl rfl (by simp) | ((conv => whnf); first | exact trivial | exact rfl | exact .inr rfl | exact .inl ⟨rfl, rfl⟩ | apply And.intro) | refine tl_int ?_ | refine tl_bool ?_ | refine tl_str ?_ | refine tl_row rfl ?_ | exact cl_ints _ | exact cl_txts _ | exact cl_nds _ | exact cl_tms _ | exact cl_rus _ | exact cl_eds _ | exact cl_hos _ | exact cl_tbs _ | exact cl_ses _ | exact cl_evs _ | exact cl_mp _ | exact Nat.succ_pos _ | exact pl_ints _ | exact pl_txts _ | exact pl_nds _ | exact pl_tms _ | exact pl_rus _ | exact pl_eds _ | exact pl_hos _ | exact pl_tbs _ | exact pl_ses _ | exact pl_evs _ | with_reducible refine tl_f ?_)); all_goals (try first | rfl | assumption | exact q.symm | omega | (rw [IntKind.wrap_i64]; omega) | (simp; done) | (simp; omega))
  all_goals first
    | exact cl_app (cl_rus _) (cl_rep _ ⟨trivial, trivial, trivial, trivial⟩)
    | (simp only [List.set_set]; exact fill_set (f := ruW) hi)
    | (dsimp only; simp only [List.set_set]; exact fill_set (f := ruW) hi)
theorem eqRule_refl (x : Ru) (hs : szRu x ≤ 2 ^ 20) : FC Tryz.prog 199 [(true, ruL x), (true, ruL x)] [] [(false, [.f (bL true)])] := by
  have hz : szRu x = x.name.size + (x.terms.length + szTms x.terms) := rfl
  have t0 := eqTermS_refl x.terms (by omega)
  refine gr1 Tryz.func199 Tryz.ntmps199 trivial ?_
  refine ⟨fun h => absurd rfl h, fun h => nw ?_⟩
  refine ⟨fun h => absurd rfl h, fun h => nw ?_⟩
  refine ⟨([], _), t0, nw ?_⟩
  exact ⟨[], [], don⟩
theorem eqRuleS_refl (x : List Ru) (hs : x.length + szRus x ≤ 2 ^ 20) : FC Tryz.prog 111 [(false, [rus x]), (false, [rus x])] [] [(false, [.f (bL true)])] := by
  refine gr1 Tryz.func111 Tryz.ntmps111 trivial ?_
  refine ⟨fun h => absurd rfl h, fun h => nw ?_⟩
  (refine ⟨fun m es hs => ∃ (i : Nat), (m + i = x.length) ∧ es = [(5, .val false [.f (iL i)]), (1, .val false [.f (rus x)]), (0, .val false [.f (rus x)])] ∧ hs = [], ⟨x.length, [], [], _, _, don, 0, don, rfl, rfl⟩, ?_⟩; rintro m _ _ ⟨i, hERu0, rfl, rfl⟩; refine nw ?_)
  refine ⟨fun h => nw ?_, fun h => nw ?_⟩
  have hi : i < x.length := by simpa using h
  refine ⟨by kernel_rfl, nw ?_⟩
  refine ⟨(i, ruL x[i]), ⟨rfl, by simp [hi]⟩, nw ?_⟩
  refine ⟨(i, ruL x[i]), ⟨rfl, by simp [hi]⟩, nw ?_⟩
  refine ⟨([], _), eqRule_refl x[i] (by have := szRu_le (List.getElem_mem hi); omega), nw ?_⟩
  refine ⟨by kernel_rfl, nw ?_⟩
  exact ⟨m - 1, [], [], _, _, by omega, don, (i + 1), don, rfl, rfl⟩
  exact ⟨[], [], don⟩
theorem szHoldS_ok (x : List Ho) (left : Int) (h0 : 0 ≤ left ∧ left ≤ 2 ^ 20) (hx : ListIn HoIn x) : FC Tryz.prog 75 [(false, [hos x]), (false, [iL left])] [] [(false, [.f (iL (szL x.length left))])] := by
  have hw : IntKind.i64.wrap (left - ((x.map hoL).length : Int)) = left - x.length := by have h1 := hx.1; rw [IntKind.wrap_i64]; simp; omega
  refine gr1 Tryz.func75 Tryz.ntmps75 trivial ?_
  rw [hw]
  refine ⟨fun h => nw ?_, fun h => nw ?_⟩
  (refine ⟨[], [], ?_⟩; rotate_left)
  (refine ⟨[], [], ?_⟩; rotate_left)
  all_goals (try (repeat' first | exact trivial | exact rfl | exact tl_pv rfl rfl rfl (List.cons_ne_nil _ _) | exact ⟨_, rfl, frzC_map _⟩ | exact tl_ints rfl rfl rfl (by simp) | exact tl_txts rfl rfl rfl (by simp) | exact tl_nds rfl rfl rfl (by simp) | exact tl_tms rfl rfl rfl (by simp) | exact tl_rus rfl rfl rfl (by simp) | exact tl_eds rfl rfl rfl (by simp) | exact tl_hos rfl rfl rfl (by simp) | exact tl_tbs rfl rfl rfl (by simp) | exact tl_ses rfl rfl rfl (by simp) | exact tl_evs rfl rfl rfl (by simp) | ((conv => whnf); first | exact trivial | exact rfl | exact .inr rfl | exact .inl ⟨rfl, rfl⟩ | apply And.intro) | refine tl_int ?_ | refine tl_bool ?_ | refine tl_str ?_ | refine tl_row rfl ?_ | exact cl_ints _ | exact cl_txts _ | exact cl_nds _ | exact cl_tms _ | exact cl_rus _ | exact cl_eds _ | exact cl_hos _ | exact cl_tbs _ | exact cl_ses _ | exact cl_evs _ | exact cl_mp _ | exact Nat.succ_pos _ | exact pl_ints _ | exact pl_txts _ | exact pl_nds _ | exact pl_tms _ | exact pl_rus _ | exact pl_eds _ | exact pl_hos _ | exact pl_tbs _ | exact pl_ses _ | exact pl_evs _ | with_reducible refine tl_f ?_)); all_goals (try first | rfl | assumption | exact q.symm | omega | (rw [IntKind.wrap_i64]; omega) | (simp; done) | (simp; omega))
  all_goals first
    | (unfold szL; rw [if_neg (by omega)])
    | (unfold szL; rw [if_pos (by omega)])
theorem toHold_ok (x : Ho) (hs : True) : FC Tryz.prog 34 [(true, hoL x)] [] [(true, [.f (iL x.session), .f (iL x.node), .f (iL x.mode)])] := by
  refine gr1 Tryz.func34 Tryz.ntmps34 (trivial) ?_
  exact ⟨[], [], don⟩
theorem toHoldS_ok (x : List Ho) (hs : x.length ≤ 2 ^ 20) : FC Tryz.prog 80 [(false, [hos x])] [(1000, some ⟨0, 3, x.map hoW⟩)] [(false, [.row 1000 0 x.length])] := by
  refine gr1 Tryz.func80 Tryz.ntmps80 (⟨cl_hos _, trivial⟩) ?_
  refine ⟨(x.length, x.length), ⟨by simp, by simp, Nat.le_refl _, by dsimp only; omega⟩, nw ?_⟩
  (refine ⟨fun m es hs => ∃ (i : Nat), (m + i = x.length) ∧ es = [(4, .val false [.f (iL i)]), (3, .val false [.row 3 0 x.length]), (0, .val false [.f (hos x)])] ∧ hs = [(3, some ⟨0, 3, (x.take i).map hoW ++ List.replicate (x.length - i) zHo⟩)], ⟨x.length, [], [(3, 128)], _, _, ⟨rfl, ?_, ?_⟩, 0, ?_, rfl, rfl⟩, ?_⟩; rotate_left 3; rintro m _ _ ⟨i, hTHo0, rfl, rfl⟩; refine nw ?_)
  refine ⟨fun h => nw ?_, fun h => nw ?_⟩
  have hi : i < x.length := by simpa using h
  refine ⟨(i, hoL x[i]), ⟨rfl, by simp [hi]⟩, nw ?_⟩
  refine ⟨(_, _), toHold_ok x[i] trivial, nw ?_⟩
  refine ⟨i, ⟨rfl, hi⟩, nw ?_⟩
  refine ⟨zHo, fill_get hi, nw ?_⟩
  (refine ⟨m - 1, [], [], [(4, .val false [.f (iL (i + 1))]), (3, .val false [.row 3 0 x.length]), (0, .val false [.f (hos x)])], [(3, some ⟨0, 3, (x.take (i + 1)).map hoW ++ List.replicate (x.length - (i + 1)) zHo⟩)], by omega, ⟨rfl, ?_, ?_⟩, (i + 1), ?_, rfl, rfl⟩; rotate_left 3)
  have hi : x.length ≤ i := by simpa using h
  have e : (x.take i).map hoW ++ List.replicate (x.length - i) zHo = x.map hoW := by rw [List.take_of_length_le hi, show x.length - i = 0 by omega]; simp
  rw [e]
  (refine ⟨[], [(1000, 3)], ?_⟩; rotate_left)
  all_goals (try (repeat' first | exact trivial | exact rfl | exact tl_pv rfl rfl rfl (List.cons_ne_nil _ _) | exact ⟨_, rfl, frzC_map _⟩ | exact tl_ints rfl rfl rfl (by simp) | exact tl_txts rfl rfl rfl (by simp) | exact tl_nds rfl rfl rfl (by simp) | exact tl_tms rfl rfl rfl (by simp) | exact tl_rus rfl rfl rfl (by simp) | exact tl_eds rfl rfl rfl (by simp) | exact tl_hos rfl rfl rfl (by simp) | exact tl_tbs rfl rfl rfl (by simp) | exact tl_ses rfl rfl rfl (by simp) | exact tl_evs rfl rfl rfl (by simp) | ((conv => whnf); first | exact trivial | exact rfl | exact .inr rfl | exact .inl ⟨rfl, rfl⟩ | apply And.intro) | refine tl_int ?_ | refine tl_bool ?_ | refine tl_str ?_ | refine tl_row rfl ?_ | exact cl_ints _ | exact cl_txts _ | exact cl_nds _ | exact cl_tms _ | exact cl_rus _ | exact cl_eds _ | exact cl_hos _ | exact cl_tbs _ | exact cl_ses _ | exact cl_evs _ | exact cl_mp _ | exact Nat.succ_pos _ | exact pl_ints _ | exact pl_txts _ | exact pl_nds _ | exact pl_tms _ | exact pl_rus _ | exact pl_eds _ | exact pl_hos _ | exact pl_tbs _ | exact pl_ses _ | exact pl_evs _ | with_reducible refine tl_f ?_)); all_goals (try first | rfl | assumption | exact q.symm | omega | (rw [IntKind.wrap_i64]; omega) | (simp; done) | (simp; omega))
  all_goals first
    | exact cl_app (cl_hos _) (cl_rep _ ⟨trivial, trivial, trivial, trivial⟩)
    | (simp only [List.set_set]; exact fill_set (f := hoW) hi)
    | (dsimp only; simp only [List.set_set]; exact fill_set (f := hoW) hi)
theorem eqHold_refl (x : Ho) (hs : True) : FC Tryz.prog 122 [(true, hoL x), (true, hoL x)] [] [(false, [.f (bL true)])] := by
  refine gr1 Tryz.func122 Tryz.ntmps122 trivial ?_
  refine ⟨fun h => absurd rfl h, fun h => nw ?_⟩
  refine ⟨fun h => absurd rfl h, fun h => nw ?_⟩
  refine ⟨fun h => absurd rfl h, fun h => nw ?_⟩
  exact ⟨[], [], don⟩
theorem eqHoldS_refl (x : List Ho) (hs : x.length ≤ 2 ^ 20) : FC Tryz.prog 45 [(false, [hos x]), (false, [hos x])] [] [(false, [.f (bL true)])] := by
  refine gr1 Tryz.func45 Tryz.ntmps45 trivial ?_
  refine ⟨fun h => absurd rfl h, fun h => nw ?_⟩
  (refine ⟨fun m es hs => ∃ (i : Nat), (m + i = x.length) ∧ es = [(5, .val false [.f (iL i)]), (1, .val false [.f (hos x)]), (0, .val false [.f (hos x)])] ∧ hs = [], ⟨x.length, [], [], _, _, don, 0, don, rfl, rfl⟩, ?_⟩; rintro m _ _ ⟨i, hEHo0, rfl, rfl⟩; refine nw ?_)
  refine ⟨fun h => nw ?_, fun h => nw ?_⟩
  have hi : i < x.length := by simpa using h
  refine ⟨by kernel_rfl, nw ?_⟩
  refine ⟨(i, hoL x[i]), ⟨rfl, by simp [hi]⟩, nw ?_⟩
  refine ⟨(i, hoL x[i]), ⟨rfl, by simp [hi]⟩, nw ?_⟩
  refine ⟨([], _), eqHold_refl x[i] trivial, nw ?_⟩
  refine ⟨by kernel_rfl, nw ?_⟩
  exact ⟨m - 1, [], [], _, _, by omega, don, (i + 1), don, rfl, rfl⟩
  exact ⟨[], [], don⟩
theorem szTable_ok (x : Tb) (left : Int) (h0 : 0 ≤ left ∧ left ≤ 2 ^ 20) (hx : TbIn x) : FC Tryz.prog 16 [(true, tbL x), (false, [iL left])] [] [(false, [.f (iL (szL (szTb x) left))])] := by
  have hz : szTb x = x.holds.length + x.waits.length := rfl
  refine gr1 Tryz.func16 Tryz.ntmps16 trivial ?_
  have c0 := szHoldS_ok x.holds (left) (by omega) (hx.1)
  refine ⟨([], _), c0, nw ?_⟩
  refine ⟨fun h => nw ?_, fun h => nw ?_⟩
  (refine ⟨[], [], ?_⟩; rotate_left)
  have e0 : szL (x.holds.length) (left) = left - ((x.holds.length : Nat) : Int) := by unfold szL at h ⊢; split at h <;> split <;> omega
  rw [e0] at h
  rw [e0]
  have g0 := Int.not_lt.1 h
  have c1 := szHoldS_ok x.waits (left - ((x.holds.length : Nat) : Int)) (by omega) (hx.2)
  refine ⟨([], _), c1, nw ?_⟩
  refine ⟨fun h => nw ?_, fun h => nw ?_⟩
  (refine ⟨[], [], ?_⟩; rotate_left)
  have e1 : szL (x.waits.length) (left - ((x.holds.length : Nat) : Int)) = left - ((x.holds.length + x.waits.length : Nat) : Int) := by unfold szL at h ⊢; split at h <;> split <;> omega
  rw [e1] at h
  rw [e1]
  have g1 := Int.not_lt.1 h
  (refine ⟨[], [], ?_⟩; rotate_left)
  all_goals (try (repeat' first | exact trivial | exact rfl | exact tl_pv rfl rfl rfl (List.cons_ne_nil _ _) | exact ⟨_, rfl, frzC_map _⟩ | exact tl_ints rfl rfl rfl (by simp) | exact tl_txts rfl rfl rfl (by simp) | exact tl_nds rfl rfl rfl (by simp) | exact tl_tms rfl rfl rfl (by simp) | exact tl_rus rfl rfl rfl (by simp) | exact tl_eds rfl rfl rfl (by simp) | exact tl_hos rfl rfl rfl (by simp) | exact tl_tbs rfl rfl rfl (by simp) | exact tl_ses rfl rfl rfl (by simp) | exact tl_evs rfl rfl rfl (by simp) | ((conv => whnf); first | exact trivial | exact rfl | exact .inr rfl | exact .inl ⟨rfl, rfl⟩ | apply And.intro) | refine tl_int ?_ | refine tl_bool ?_ | refine tl_str ?_ | refine tl_row rfl ?_ | exact cl_ints _ | exact cl_txts _ | exact cl_nds _ | exact cl_tms _ | exact cl_rus _ | exact cl_eds _ | exact cl_hos _ | exact cl_tbs _ | exact cl_ses _ | exact cl_evs _ | exact cl_mp _ | exact Nat.succ_pos _ | exact pl_ints _ | exact pl_txts _ | exact pl_nds _ | exact pl_tms _ | exact pl_rus _ | exact pl_eds _ | exact pl_hos _ | exact pl_tbs _ | exact pl_ses _ | exact pl_evs _ | with_reducible refine tl_f ?_)); all_goals (try first | rfl | assumption | exact q.symm | omega | (rw [IntKind.wrap_i64]; omega) | (simp; done) | (simp; omega))
  all_goals first
    | (unfold szL; rw [if_pos (by omega)]; omega)
    | (unfold szL; rw [if_neg (by omega)])
    | (unfold szL at *; repeat' (first | omega | split at *))
theorem toTable_ok (x : Tb) (hs : szTb x ≤ 2 ^ 20) : FC Tryz.prog 19 [(true, tbL x)] [(1000, some ⟨0, 3, x.holds.map hoW⟩), (1001, some ⟨0, 3, x.waits.map hoW⟩)] [(true, [.row 1000 0 x.holds.length, .row 1001 0 x.waits.length])] := by
  have hz : szTb x = x.holds.length + x.waits.length := rfl
  have t0 := toHoldS_ok x.holds (by omega)
  have t1 := toHoldS_ok x.waits (by omega)
  refine gr1 Tryz.func19 Tryz.ntmps19 (⟨cl_hos _, cl_hos _, trivial⟩) ?_
  refine ⟨(_, _), t0, nw ?_⟩
  refine ⟨(_, _), t1, nw ?_⟩
  exact ⟨[], [(1000, 112), (1001, 176)], don⟩
theorem eqTable_refl (x : Tb) (hs : szTb x ≤ 2 ^ 20) : FC Tryz.prog 21 [(true, tbL x), (true, tbL x)] [] [(false, [.f (bL true)])] := by
  have hz : szTb x = x.holds.length + x.waits.length := rfl
  have t0 := eqHoldS_refl x.holds (by omega)
  have t1 := eqHoldS_refl x.waits (by omega)
  refine gr1 Tryz.func21 Tryz.ntmps21 trivial ?_
  refine ⟨([], _), t0, nw ?_⟩
  refine ⟨([], _), t1, nw ?_⟩
  exact ⟨[], [], don⟩
theorem szSession_ok (x : Se) (left : Int) (h0 : 0 ≤ left ∧ left ≤ 2 ^ 20) (hx : SeIn x) : FC Tryz.prog 183 [(true, seL x), (false, [iL left])] [] [(false, [.f (iL (szL (szSe x) left))])] := by
  have hz : szSe x = szD x.copy := rfl
  refine gr1 Tryz.func183 Tryz.ntmps183 trivial ?_
  have c0 := szDoc_in x.copy (left) (by omega) (hx.2.2.2)
  refine ⟨([], _), c0, nw ?_⟩
  refine ⟨fun h => nw ?_, fun h => nw ?_⟩
  (refine ⟨[], [], ?_⟩; rotate_left)
  have e0 : szL (szD x.copy) (left) = left - ((szD x.copy : Nat) : Int) := by unfold szL at h ⊢; split at h <;> split <;> omega
  rw [e0] at h
  rw [e0]
  have g0 := Int.not_lt.1 h
  (refine ⟨[], [], ?_⟩; rotate_left)
  all_goals (try (repeat' first | exact trivial | exact rfl | exact tl_pv rfl rfl rfl (List.cons_ne_nil _ _) | exact ⟨_, rfl, frzC_map _⟩ | exact tl_ints rfl rfl rfl (by simp) | exact tl_txts rfl rfl rfl (by simp) | exact tl_nds rfl rfl rfl (by simp) | exact tl_tms rfl rfl rfl (by simp) | exact tl_rus rfl rfl rfl (by simp) | exact tl_eds rfl rfl rfl (by simp) | exact tl_hos rfl rfl rfl (by simp) | exact tl_tbs rfl rfl rfl (by simp) | exact tl_ses rfl rfl rfl (by simp) | exact tl_evs rfl rfl rfl (by simp) | ((conv => whnf); first | exact trivial | exact rfl | exact .inr rfl | exact .inl ⟨rfl, rfl⟩ | apply And.intro) | refine tl_int ?_ | refine tl_bool ?_ | refine tl_str ?_ | refine tl_row rfl ?_ | exact cl_ints _ | exact cl_txts _ | exact cl_nds _ | exact cl_tms _ | exact cl_rus _ | exact cl_eds _ | exact cl_hos _ | exact cl_tbs _ | exact cl_ses _ | exact cl_evs _ | exact cl_mp _ | exact Nat.succ_pos _ | exact pl_ints _ | exact pl_txts _ | exact pl_nds _ | exact pl_tms _ | exact pl_rus _ | exact pl_eds _ | exact pl_hos _ | exact pl_tbs _ | exact pl_ses _ | exact pl_evs _ | with_reducible refine tl_f ?_)); all_goals (try first | rfl | assumption | exact q.symm | omega | (rw [IntKind.wrap_i64]; omega) | (simp; done) | (simp; omega))
  all_goals first
    | (unfold szL; rw [if_pos (by omega)]; omega)
    | (unfold szL; rw [if_neg (by omega)])
    | (unfold szL at *; repeat' (first | omega | split at *))
theorem szSessionS_ok (x : List Se) (left : Int) (h0 : 0 ≤ left ∧ left ≤ 2 ^ 20) (hx : ListIn SeIn x) : FC Tryz.prog 101 [(false, [ses x]), (false, [iL left])] [] [(false, [.f (iL (szL (x.length + szSes x) left))])] := by
  have hw : IntKind.i64.wrap (left - ((x.map seL).length : Int)) = left - x.length := by have h1 := hx.1; rw [IntKind.wrap_i64]; simp; omega
  refine gr1 Tryz.func101 Tryz.ntmps101 trivial ?_
  rw [hw]
  refine ⟨fun h => nw ?_, fun h => nw ?_⟩
  (refine ⟨[], [], ?_⟩; rotate_left)
  have h1 := Int.not_lt.1 h
  (refine ⟨fun m es hs => ∃ (i : Nat) (lf : Int), (m + i = x.length) ∧ (0 ≤ lf ∧ lf ≤ 2 ^ 20) ∧ (szL (szSes (x.drop i)) lf = szL (x.length + szSes x) left) ∧ es = [(5, .val false [.f (iL i)]), (1, .val false [.f (iL lf)]), (0, .val false [.f (ses x)])] ∧ hs = [], ⟨x.length, [], [], _, _, ⟨rfl, ?_, ?_⟩, 0, (left - x.length), ?_, ?_, ?_, rfl, rfl⟩, ?_⟩; rotate_left 5; rintro m _ _ ⟨i, lf, hSSe0, hSSe1, hSSe2, rfl, rfl⟩; refine nw ?_)
  refine ⟨fun h => nw ?_, fun h => nw ?_⟩
  have hi : i < x.length := by simpa using h
  rw [List.drop_eq_getElem_cons hi, szSes_cons] at hSSe2
  have hc := szSession_ok x[i] lf hSSe1 (hx.2 _ (List.getElem_mem _))
  refine ⟨(i, seL x[i]), ⟨rfl, by simp [hi]⟩, nw ?_⟩
  refine ⟨([], _), hc, nw ?_⟩
  refine ⟨fun h => nw ?_, fun h => nw ?_⟩
  (refine ⟨[], [], ?_⟩; rotate_left)
  (refine ⟨m - 1, [], [], [(5, .val false [.f (iL (i + 1))]), (1, .val false [.f (iL (szL (szSe x[i]) lf))]), (0, .val false [.f (ses x)])], [], by omega, ⟨rfl, ?_, ?_⟩, (i + 1), (szL (szSe x[i]) lf), ?_, ?_, ?_, rfl, rfl⟩; rotate_left 5)
  have hi : x.length ≤ i := by simpa using h
  (refine ⟨[], [], ?_⟩; rotate_left)
  all_goals (try (repeat' first | exact trivial | exact rfl | exact tl_pv rfl rfl rfl (List.cons_ne_nil _ _) | exact ⟨_, rfl, frzC_map _⟩ | exact tl_ints rfl rfl rfl (by simp) | exact tl_txts rfl rfl rfl (by simp) | exact tl_nds rfl rfl rfl (by simp) | exact tl_tms rfl rfl rfl (by simp) | exact tl_rus rfl rfl rfl (by simp) | exact tl_eds rfl rfl rfl (by simp) | exact tl_hos rfl rfl rfl (by simp) | exact tl_tbs rfl rfl rfl (by simp) | exact tl_ses rfl rfl rfl (by simp) | exact tl_evs rfl rfl rfl (by simp) | ((conv => whnf); first | exact trivial | exact rfl | exact .inr rfl | exact .inl ⟨rfl, rfl⟩ | apply And.intro) | refine tl_int ?_ | refine tl_bool ?_ | refine tl_str ?_ | refine tl_row rfl ?_ | exact cl_ints _ | exact cl_txts _ | exact cl_nds _ | exact cl_tms _ | exact cl_rus _ | exact cl_eds _ | exact cl_hos _ | exact cl_tbs _ | exact cl_ses _ | exact cl_evs _ | exact cl_mp _ | exact Nat.succ_pos _ | exact pl_ints _ | exact pl_txts _ | exact pl_nds _ | exact pl_tms _ | exact pl_rus _ | exact pl_eds _ | exact pl_hos _ | exact pl_tbs _ | exact pl_ses _ | exact pl_evs _ | with_reducible refine tl_f ?_)); all_goals (try first | rfl | assumption | exact q.symm | omega | (rw [IntKind.wrap_i64]; omega) | (simp; done) | (simp; omega))
  all_goals first
    | (unfold szL; rw [if_neg (by omega)])
    | (rw [List.drop_zero]; unfold szL; split <;> split <;> omega)
    | (rw [← hSSe2, List.drop_eq_nil_of_le hi]; unfold szL szSes; simp; omega)
    | (rw [← hSSe2]; unfold szL at h ⊢; split at h <;> split <;> omega)
    | (rw [← hSSe2]; unfold szL at h ⊢; split at h <;> split <;> split <;> omega)
    | (unfold szL at h ⊢; split at h <;> split <;> omega)
theorem toSession_ok (x : Se) (hs : szSe x ≤ 2 ^ 20) : FC Tryz.prog 189 [(true, seL x)] [(1000, some ⟨0, 5, x.copy.nodes.map ndW⟩)] [(true, [.f (iL x.id), .f (iL x.til), .f (iL x.sub), .f (iL x.copy.root), .f (iL x.copy.next), .row 1000 0 x.copy.nodes.length])] := by
  have hz : szSe x = szD x.copy := rfl
  have t0 := toDoc_sz x.copy (by omega)
  refine gr1 Tryz.func189 Tryz.ntmps189 (⟨cl_nds _, trivial⟩) ?_
  refine ⟨(_, _), t0, nw ?_⟩
  exact ⟨[], [(1000, 256)], don⟩
theorem toSessionS_ok (x : List Se) (hs : x.length + szSes x ≤ 2 ^ 20) : FC Tryz.prog 107 [(false, [ses x])] [(1000, some ⟨0, 6, x.map seW⟩)] [(false, [.row 1000 0 x.length])] := by
  refine gr1 Tryz.func107 Tryz.ntmps107 (⟨cl_ses _, trivial⟩) ?_
  refine ⟨(x.length, x.length), ⟨by simp, by simp, Nat.le_refl _, by dsimp only; omega⟩, nw ?_⟩
  (refine ⟨fun m es hs => ∃ (i : Nat), (m + i = x.length) ∧ es = [(4, .val false [.f (iL i)]), (3, .val false [.row 3 0 x.length]), (0, .val false [.f (ses x)])] ∧ hs = [(3, some ⟨0, 6, (x.take i).map seW ++ List.replicate (x.length - i) zSe⟩)], ⟨x.length, [], [(3, 128)], _, _, ⟨rfl, ?_, ?_⟩, 0, ?_, rfl, rfl⟩, ?_⟩; rotate_left 3; rintro m _ _ ⟨i, hTSe0, rfl, rfl⟩; refine nw ?_)
  refine ⟨fun h => nw ?_, fun h => nw ?_⟩
  have hi : i < x.length := by simpa using h
  refine ⟨(i, seL x[i]), ⟨rfl, by simp [hi]⟩, nw ?_⟩
  refine ⟨(_, _), toSession_ok x[i] (by have := szSe_le (List.getElem_mem hi); omega), nw ?_⟩
  refine ⟨i, ⟨rfl, hi⟩, nw ?_⟩
  refine ⟨zSe, fill_get hi, nw ?_⟩
  refine ⟨m - 1, [(336, 3, i, 5)], [], [(4, .val false [.f (iL (i + 1))]), (3, .val false [.row 3 0 x.length]), (0, .val false [.f (ses x)])], [(3, some ⟨0, 6, (x.take (i + 1)).map seW ++ List.replicate (x.length - (i + 1)) zSe⟩)], by omega, nw ?_, (i + 1), ?_, rfl, rfl⟩
  refine ⟨_, List.getElem?_set_self (by simp; omega), nw ?_⟩
  refine ⟨x[i].copy.nodes.map ndW, by rw [List.take_of_length_le (by simp)], nw ?_⟩
  (refine ⟨rfl, ?_, ?_⟩; rotate_left 3)
  have hi : x.length ≤ i := by simpa using h
  have e : (x.take i).map seW ++ List.replicate (x.length - i) zSe = x.map seW := by rw [List.take_of_length_le hi, show x.length - i = 0 by omega]; simp
  rw [e]
  (refine ⟨[], [(1000, 3)], ?_⟩; rotate_left)
  all_goals (try (repeat' first | exact trivial | exact rfl | exact tl_pv rfl rfl rfl (List.cons_ne_nil _ _) | exact ⟨_, rfl, frzC_map _⟩ | exact tl_ints rfl rfl rfl (by simp) | exact tl_txts rfl rfl rfl (by simp) | exact tl_nds rfl rfl rfl (by simp) | exact tl_tms rfl rfl rfl (by simp) | exact tl_rus rfl rfl rfl (by simp) | exact tl_eds rfl rfl rfl (by simp) | exact tl_hos rfl rfl rfl (by simp) | exact tl_tbs rfl rfl rfl (by simp) | exact tl_ses rfl rfl rfl (by simp) | exact tl_evs rfl rfl rfl (by simp) | ((conv => whnf); first | exact trivial | exact rfl | exact .inr rfl | exact .inl ⟨rfl, rfl⟩ | apply And.intro) | refine tl_int ?_ | refine tl_bool ?_ | refine tl_str ?_ | refine tl_row rfl ?_ | exact cl_ints _ | exact cl_txts _ | exact cl_nds _ | exact cl_tms _ | exact cl_rus _ | exact cl_eds _ | exact cl_hos _ | exact cl_tbs _ | exact cl_ses _ | exact cl_evs _ | exact cl_mp _ | exact Nat.succ_pos _ | exact pl_ints _ | exact pl_txts _ | exact pl_nds _ | exact pl_tms _ | exact pl_rus _ | exact pl_eds _ | exact pl_hos _ | exact pl_tbs _ | exact pl_ses _ | exact pl_evs _ | with_reducible refine tl_f ?_)); all_goals (try first | rfl | assumption | exact q.symm | omega | (rw [IntKind.wrap_i64]; omega) | (simp; done) | (simp; omega))
  all_goals first
    | exact cl_app (cl_ses _) (cl_rep _ ⟨trivial, trivial, trivial, trivial, trivial, trivial, trivial⟩)
    | (simp only [List.set_set]; exact fill_set (f := seW) hi)
    | (dsimp only; simp only [List.set_set]; exact fill_set (f := seW) hi)
theorem eqSession_refl (x : Se) (hs : szSe x ≤ 2 ^ 20) : FC Tryz.prog 53 [(true, seL x), (true, seL x)] [] [(false, [.f (bL true)])] := by
  have hz : szSe x = szD x.copy := rfl
  have t0 := eqDoc_sz x.copy (by omega)
  refine gr1 Tryz.func53 Tryz.ntmps53 trivial ?_
  refine ⟨fun h => absurd rfl h, fun h => nw ?_⟩
  refine ⟨fun h => absurd rfl h, fun h => nw ?_⟩
  refine ⟨fun h => absurd rfl h, fun h => nw ?_⟩
  refine ⟨([], _), t0, nw ?_⟩
  exact ⟨[], [], don⟩
theorem eqSessionS_refl (x : List Se) (hs : x.length + szSes x ≤ 2 ^ 20) : FC Tryz.prog 112 [(false, [ses x]), (false, [ses x])] [] [(false, [.f (bL true)])] := by
  refine gr1 Tryz.func112 Tryz.ntmps112 trivial ?_
  refine ⟨fun h => absurd rfl h, fun h => nw ?_⟩
  (refine ⟨fun m es hs => ∃ (i : Nat), (m + i = x.length) ∧ es = [(5, .val false [.f (iL i)]), (1, .val false [.f (ses x)]), (0, .val false [.f (ses x)])] ∧ hs = [], ⟨x.length, [], [], _, _, don, 0, don, rfl, rfl⟩, ?_⟩; rintro m _ _ ⟨i, hESe0, rfl, rfl⟩; refine nw ?_)
  refine ⟨fun h => nw ?_, fun h => nw ?_⟩
  have hi : i < x.length := by simpa using h
  refine ⟨by kernel_rfl, nw ?_⟩
  refine ⟨(i, seL x[i]), ⟨rfl, by simp [hi]⟩, nw ?_⟩
  refine ⟨(i, seL x[i]), ⟨rfl, by simp [hi]⟩, nw ?_⟩
  refine ⟨([], _), eqSession_refl x[i] (by have := szSe_le (List.getElem_mem hi); omega), nw ?_⟩
  refine ⟨by kernel_rfl, nw ?_⟩
  exact ⟨m - 1, [], [], _, _, by omega, don, (i + 1), don, rfl, rfl⟩
  exact ⟨[], [], don⟩
theorem szEventS_ok (x : List Ev) (left : Int) (h0 : 0 ≤ left ∧ left ≤ 2 ^ 20) (hx : ListIn EvIn x) : FC Tryz.prog 102 [(false, [evs x]), (false, [iL left])] [] [(false, [.f (iL (szL x.length left))])] := by
  have hw : IntKind.i64.wrap (left - ((x.map evL).length : Int)) = left - x.length := by have h1 := hx.1; rw [IntKind.wrap_i64]; simp; omega
  refine gr1 Tryz.func102 Tryz.ntmps102 trivial ?_
  rw [hw]
  refine ⟨fun h => nw ?_, fun h => nw ?_⟩
  (refine ⟨[], [], ?_⟩; rotate_left)
  (refine ⟨[], [], ?_⟩; rotate_left)
  all_goals (try (repeat' first | exact trivial | exact rfl | exact tl_pv rfl rfl rfl (List.cons_ne_nil _ _) | exact ⟨_, rfl, frzC_map _⟩ | exact tl_ints rfl rfl rfl (by simp) | exact tl_txts rfl rfl rfl (by simp) | exact tl_nds rfl rfl rfl (by simp) | exact tl_tms rfl rfl rfl (by simp) | exact tl_rus rfl rfl rfl (by simp) | exact tl_eds rfl rfl rfl (by simp) | exact tl_hos rfl rfl rfl (by simp) | exact tl_tbs rfl rfl rfl (by simp) | exact tl_ses rfl rfl rfl (by simp) | exact tl_evs rfl rfl rfl (by simp) | ((conv => whnf); first | exact trivial | exact rfl | exact .inr rfl | exact .inl ⟨rfl, rfl⟩ | apply And.intro) | refine tl_int ?_ | refine tl_bool ?_ | refine tl_str ?_ | refine tl_row rfl ?_ | exact cl_ints _ | exact cl_txts _ | exact cl_nds _ | exact cl_tms _ | exact cl_rus _ | exact cl_eds _ | exact cl_hos _ | exact cl_tbs _ | exact cl_ses _ | exact cl_evs _ | exact cl_mp _ | exact Nat.succ_pos _ | exact pl_ints _ | exact pl_txts _ | exact pl_nds _ | exact pl_tms _ | exact pl_rus _ | exact pl_eds _ | exact pl_hos _ | exact pl_tbs _ | exact pl_ses _ | exact pl_evs _ | with_reducible refine tl_f ?_)); all_goals (try first | rfl | assumption | exact q.symm | omega | (rw [IntKind.wrap_i64]; omega) | (simp; done) | (simp; omega))
  all_goals first
    | (unfold szL; rw [if_neg (by omega)])
    | (unfold szL; rw [if_pos (by omega)])
theorem toEvent_ok (x : Ev) (hs : True) : FC Tryz.prog 190 [(true, evL x)] [] [(true, [.f (iL x.session), .f (iL x.code), .f (iL x.node)])] := by
  refine gr1 Tryz.func190 Tryz.ntmps190 (trivial) ?_
  exact ⟨[], [], don⟩
theorem toEventS_ok (x : List Ev) (hs : x.length ≤ 2 ^ 20) : FC Tryz.prog 108 [(false, [evs x])] [(1000, some ⟨0, 3, x.map evW⟩)] [(false, [.row 1000 0 x.length])] := by
  refine gr1 Tryz.func108 Tryz.ntmps108 (⟨cl_evs _, trivial⟩) ?_
  refine ⟨(x.length, x.length), ⟨by simp, by simp, Nat.le_refl _, by dsimp only; omega⟩, nw ?_⟩
  (refine ⟨fun m es hs => ∃ (i : Nat), (m + i = x.length) ∧ es = [(4, .val false [.f (iL i)]), (3, .val false [.row 3 0 x.length]), (0, .val false [.f (evs x)])] ∧ hs = [(3, some ⟨0, 3, (x.take i).map evW ++ List.replicate (x.length - i) zEv⟩)], ⟨x.length, [], [(3, 128)], _, _, ⟨rfl, ?_, ?_⟩, 0, ?_, rfl, rfl⟩, ?_⟩; rotate_left 3; rintro m _ _ ⟨i, hTEv0, rfl, rfl⟩; refine nw ?_)
  refine ⟨fun h => nw ?_, fun h => nw ?_⟩
  have hi : i < x.length := by simpa using h
  refine ⟨(i, evL x[i]), ⟨rfl, by simp [hi]⟩, nw ?_⟩
  refine ⟨(_, _), toEvent_ok x[i] trivial, nw ?_⟩
  refine ⟨i, ⟨rfl, hi⟩, nw ?_⟩
  refine ⟨zEv, fill_get hi, nw ?_⟩
  (refine ⟨m - 1, [], [], [(4, .val false [.f (iL (i + 1))]), (3, .val false [.row 3 0 x.length]), (0, .val false [.f (evs x)])], [(3, some ⟨0, 3, (x.take (i + 1)).map evW ++ List.replicate (x.length - (i + 1)) zEv⟩)], by omega, ⟨rfl, ?_, ?_⟩, (i + 1), ?_, rfl, rfl⟩; rotate_left 3)
  have hi : x.length ≤ i := by simpa using h
  have e : (x.take i).map evW ++ List.replicate (x.length - i) zEv = x.map evW := by rw [List.take_of_length_le hi, show x.length - i = 0 by omega]; simp
  rw [e]
  (refine ⟨[], [(1000, 3)], ?_⟩; rotate_left)
  all_goals (try (repeat' first | exact trivial | exact rfl | exact tl_pv rfl rfl rfl (List.cons_ne_nil _ _) | exact ⟨_, rfl, frzC_map _⟩ | exact tl_ints rfl rfl rfl (by simp) | exact tl_txts rfl rfl rfl (by simp) | exact tl_nds rfl rfl rfl (by simp) | exact tl_tms rfl rfl rfl (by simp) | exact tl_rus rfl rfl rfl (by simp) | exact tl_eds rfl rfl rfl (by simp) | exact tl_hos rfl rfl rfl (by simp) | exact tl_tbs rfl rfl rfl (by simp) | exact tl_ses rfl rfl rfl (by simp) | exact tl_evs rfl rfl rfl (by simp) | ((conv => whnf); first | exact trivial | exact rfl | exact .inr rfl | exact .inl ⟨rfl, rfl⟩ | apply And.intro) | refine tl_int ?_ | refine tl_bool ?_ | refine tl_str ?_ | refine tl_row rfl ?_ | exact cl_ints _ | exact cl_txts _ | exact cl_nds _ | exact cl_tms _ | exact cl_rus _ | exact cl_eds _ | exact cl_hos _ | exact cl_tbs _ | exact cl_ses _ | exact cl_evs _ | exact cl_mp _ | exact Nat.succ_pos _ | exact pl_ints _ | exact pl_txts _ | exact pl_nds _ | exact pl_tms _ | exact pl_rus _ | exact pl_eds _ | exact pl_hos _ | exact pl_tbs _ | exact pl_ses _ | exact pl_evs _ | with_reducible refine tl_f ?_)); all_goals (try first | rfl | assumption | exact q.symm | omega | (rw [IntKind.wrap_i64]; omega) | (simp; done) | (simp; omega))
  all_goals first
    | exact cl_app (cl_evs _) (cl_rep _ ⟨trivial, trivial, trivial, trivial⟩)
    | (simp only [List.set_set]; exact fill_set (f := evW) hi)
    | (dsimp only; simp only [List.set_set]; exact fill_set (f := evW) hi)
theorem eqEvent_refl (x : Ev) (hs : True) : FC Tryz.prog 200 [(true, evL x), (true, evL x)] [] [(false, [.f (bL true)])] := by
  refine gr1 Tryz.func200 Tryz.ntmps200 trivial ?_
  refine ⟨fun h => absurd rfl h, fun h => nw ?_⟩
  refine ⟨fun h => absurd rfl h, fun h => nw ?_⟩
  refine ⟨fun h => absurd rfl h, fun h => nw ?_⟩
  exact ⟨[], [], don⟩
theorem eqEventS_refl (x : List Ev) (hs : x.length ≤ 2 ^ 20) : FC Tryz.prog 113 [(false, [evs x]), (false, [evs x])] [] [(false, [.f (bL true)])] := by
  refine gr1 Tryz.func113 Tryz.ntmps113 trivial ?_
  refine ⟨fun h => absurd rfl h, fun h => nw ?_⟩
  (refine ⟨fun m es hs => ∃ (i : Nat), (m + i = x.length) ∧ es = [(5, .val false [.f (iL i)]), (1, .val false [.f (evs x)]), (0, .val false [.f (evs x)])] ∧ hs = [], ⟨x.length, [], [], _, _, don, 0, don, rfl, rfl⟩, ?_⟩; rintro m _ _ ⟨i, hEEv0, rfl, rfl⟩; refine nw ?_)
  refine ⟨fun h => nw ?_, fun h => nw ?_⟩
  have hi : i < x.length := by simpa using h
  refine ⟨by kernel_rfl, nw ?_⟩
  refine ⟨(i, evL x[i]), ⟨rfl, by simp [hi]⟩, nw ?_⟩
  refine ⟨(i, evL x[i]), ⟨rfl, by simp [hi]⟩, nw ?_⟩
  refine ⟨([], _), eqEvent_refl x[i] trivial, nw ?_⟩
  refine ⟨by kernel_rfl, nw ?_⟩
  exact ⟨m - 1, [], [], _, _, by omega, don, (i + 1), don, rfl, rfl⟩
  exact ⟨[], [], don⟩
theorem szHost_ok (x : Ht) (left : Int) (h0 : 0 ≤ left ∧ left ≤ 2 ^ 20) (hx : HtIn x) : FC Tryz.prog 36 [(true, htL x), (false, [iL left])] [] [(false, [.f (iL (szL (szHt x) left))])] := by
  have hz : szHt x = (x.schema.length + szRus x.schema) + szD x.doc + (x.sessions.length + szSes x.sessions) + szTb x.table + x.events.length := rfl
  refine gr1 Tryz.func36 Tryz.ntmps36 trivial ?_
  have c0 := szRuleS_ok x.schema (left) (by omega) (hx.1)
  refine ⟨([], _), c0, nw ?_⟩
  refine ⟨fun h => nw ?_, fun h => nw ?_⟩
  (refine ⟨[], [], ?_⟩; rotate_left)
  have e0 : szL ((x.schema.length + szRus x.schema)) (left) = left - (((x.schema.length + szRus x.schema) : Nat) : Int) := by unfold szL at h ⊢; split at h <;> split <;> omega
  rw [e0] at h
  rw [e0]
  have g0 := Int.not_lt.1 h
  have c1 := szDoc_in x.doc (left - (((x.schema.length + szRus x.schema) : Nat) : Int)) (by omega) (hx.2.1)
  refine ⟨([], _), c1, nw ?_⟩
  refine ⟨fun h => nw ?_, fun h => nw ?_⟩
  (refine ⟨[], [], ?_⟩; rotate_left)
  have e1 : szL (szD x.doc) (left - (((x.schema.length + szRus x.schema) : Nat) : Int)) = left - (((x.schema.length + szRus x.schema) + szD x.doc : Nat) : Int) := by unfold szL at h ⊢; split at h <;> split <;> omega
  rw [e1] at h
  rw [e1]
  have g1 := Int.not_lt.1 h
  have c2 := szSessionS_ok x.sessions (left - (((x.schema.length + szRus x.schema) + szD x.doc : Nat) : Int)) (by omega) (hx.2.2.2.2.2.1)
  refine ⟨([], _), c2, nw ?_⟩
  refine ⟨fun h => nw ?_, fun h => nw ?_⟩
  (refine ⟨[], [], ?_⟩; rotate_left)
  have e2 : szL ((x.sessions.length + szSes x.sessions)) (left - (((x.schema.length + szRus x.schema) + szD x.doc : Nat) : Int)) = left - (((x.schema.length + szRus x.schema) + szD x.doc + (x.sessions.length + szSes x.sessions) : Nat) : Int) := by unfold szL at h ⊢; split at h <;> split <;> omega
  rw [e2] at h
  rw [e2]
  have g2 := Int.not_lt.1 h
  have c3 := szTable_ok x.table (left - (((x.schema.length + szRus x.schema) + szD x.doc + (x.sessions.length + szSes x.sessions) : Nat) : Int)) (by omega) (hx.2.2.2.2.2.2.1)
  refine ⟨([], _), c3, nw ?_⟩
  refine ⟨fun h => nw ?_, fun h => nw ?_⟩
  (refine ⟨[], [], ?_⟩; rotate_left)
  have e3 : szL (szTb x.table) (left - (((x.schema.length + szRus x.schema) + szD x.doc + (x.sessions.length + szSes x.sessions) : Nat) : Int)) = left - (((x.schema.length + szRus x.schema) + szD x.doc + (x.sessions.length + szSes x.sessions) + szTb x.table : Nat) : Int) := by unfold szL at h ⊢; split at h <;> split <;> omega
  rw [e3] at h
  rw [e3]
  have g3 := Int.not_lt.1 h
  have c4 := szEventS_ok x.events (left - (((x.schema.length + szRus x.schema) + szD x.doc + (x.sessions.length + szSes x.sessions) + szTb x.table : Nat) : Int)) (by omega) (hx.2.2.2.2.2.2.2)
  refine ⟨([], _), c4, nw ?_⟩
  refine ⟨fun h => nw ?_, fun h => nw ?_⟩
  (refine ⟨[], [], ?_⟩; rotate_left)
  have e4 : szL (x.events.length) (left - (((x.schema.length + szRus x.schema) + szD x.doc + (x.sessions.length + szSes x.sessions) + szTb x.table : Nat) : Int)) = left - (((x.schema.length + szRus x.schema) + szD x.doc + (x.sessions.length + szSes x.sessions) + szTb x.table + x.events.length : Nat) : Int) := by unfold szL at h ⊢; split at h <;> split <;> omega
  rw [e4] at h
  rw [e4]
  have g4 := Int.not_lt.1 h
  (refine ⟨[], [], ?_⟩; rotate_left)
  all_goals (try (repeat' first | exact trivial | exact rfl | exact tl_pv rfl rfl rfl (List.cons_ne_nil _ _) | exact ⟨_, rfl, frzC_map _⟩ | exact tl_ints rfl rfl rfl (by simp) | exact tl_txts rfl rfl rfl (by simp) | exact tl_nds rfl rfl rfl (by simp) | exact tl_tms rfl rfl rfl (by simp) | exact tl_rus rfl rfl rfl (by simp) | exact tl_eds rfl rfl rfl (by simp) | exact tl_hos rfl rfl rfl (by simp) | exact tl_tbs rfl rfl rfl (by simp) | exact tl_ses rfl rfl rfl (by simp) | exact tl_evs rfl rfl rfl (by simp) | ((conv => whnf); first | exact trivial | exact rfl | exact .inr rfl | exact .inl ⟨rfl, rfl⟩ | apply And.intro) | refine tl_int ?_ | refine tl_bool ?_ | refine tl_str ?_ | refine tl_row rfl ?_ | exact cl_ints _ | exact cl_txts _ | exact cl_nds _ | exact cl_tms _ | exact cl_rus _ | exact cl_eds _ | exact cl_hos _ | exact cl_tbs _ | exact cl_ses _ | exact cl_evs _ | exact cl_mp _ | exact Nat.succ_pos _ | exact pl_ints _ | exact pl_txts _ | exact pl_nds _ | exact pl_tms _ | exact pl_rus _ | exact pl_eds _ | exact pl_hos _ | exact pl_tbs _ | exact pl_ses _ | exact pl_evs _ | with_reducible refine tl_f ?_)); all_goals (try first | rfl | assumption | exact q.symm | omega | (rw [IntKind.wrap_i64]; omega) | (simp; done) | (simp; omega))
  all_goals first
    | (unfold szL; rw [if_pos (by omega)]; omega)
    | (unfold szL; rw [if_neg (by omega)])
    | (unfold szL at *; repeat' (first | omega | split at *))
theorem toHost_ok (x : Ht) (hs : szHt x ≤ 2 ^ 20) : FC Tryz.prog 38 [(true, htL x)] [(1000, some ⟨0, 3, x.schema.map ruW⟩), (1001, some ⟨0, 5, x.doc.nodes.map ndW⟩), (1002, some ⟨0, 6, x.sessions.map seW⟩), (1003, some ⟨0, 3, x.table.holds.map hoW⟩), (1004, some ⟨0, 3, x.table.waits.map hoW⟩), (1005, some ⟨0, 3, x.events.map evW⟩)] [(true, [.row 1000 0 x.schema.length, .f (iL x.doc.root), .f (iL x.doc.next), .row 1001 0 x.doc.nodes.length, .f (iL x.clock), .f (iL x.lease), .f (iL x.next), .row 1002 0 x.sessions.length, .row 1003 0 x.table.holds.length, .row 1004 0 x.table.waits.length, .row 1005 0 x.events.length])] := by
  have hz : szHt x = (x.schema.length + szRus x.schema) + szD x.doc + (x.sessions.length + szSes x.sessions) + szTb x.table + x.events.length := rfl
  have t0 := toRuleS_ok x.schema (by omega)
  have t1 := toDoc_sz x.doc (by omega)
  have t2 := toSessionS_ok x.sessions (by omega)
  have t3 := toTable_ok x.table (by omega)
  have t4 := toEventS_ok x.events (by omega)
  refine gr1 Tryz.func38 Tryz.ntmps38 (⟨cl_rus _, cl_nds _, cl_ses _, cl_hos _, cl_hos _, cl_evs _, trivial⟩) ?_
  refine ⟨(_, _), t0, nw ?_⟩
  refine ⟨(_, _), t1, nw ?_⟩
  refine ⟨(_, _), t2, nw ?_⟩
  refine ⟨(_, _), t3, nw ?_⟩
  refine ⟨(_, _), t4, nw ?_⟩
  exact ⟨[], [(1000, 112), (1001, 176), (1002, 384), (1003, 448), (1004, 449), (1005, 512)], don⟩
theorem eqHost_refl (x : Ht) (hs : szHt x ≤ 2 ^ 20) : FC Tryz.prog 40 [(true, htL x), (true, htL x)] [] [(false, [.f (bL true)])] := by
  have hz : szHt x = (x.schema.length + szRus x.schema) + szD x.doc + (x.sessions.length + szSes x.sessions) + szTb x.table + x.events.length := rfl
  have t0 := eqRuleS_refl x.schema (by omega)
  have t1 := eqDoc_sz x.doc (by omega)
  have t2 := eqSessionS_refl x.sessions (by omega)
  have t3 := eqTable_refl x.table (by omega)
  have t4 := eqEventS_refl x.events (by omega)
  refine gr1 Tryz.func40 Tryz.ntmps40 trivial ?_
  refine ⟨([], _), t0, nw ?_⟩
  refine ⟨([], _), t1, nw ?_⟩
  refine ⟨fun h => absurd rfl h, fun h => nw ?_⟩
  refine ⟨fun h => absurd rfl h, fun h => nw ?_⟩
  refine ⟨fun h => absurd rfl h, fun h => nw ?_⟩
  refine ⟨([], _), t2, nw ?_⟩
  refine ⟨([], _), t3, nw ?_⟩
  refine ⟨([], _), t4, nw ?_⟩
  exact ⟨[], [], don⟩
end Go.Proofs.YtecnmodeggnjoaaGreat.Ac
