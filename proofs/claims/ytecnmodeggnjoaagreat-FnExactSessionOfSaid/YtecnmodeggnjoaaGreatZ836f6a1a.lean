/- Several of our texts, one behind the other, without what this claim does not need: Rm. -/
import Derived.Test.YtecnmodeggnjoaaGreatZ2e4902f1
import Derived.Test.YtecnmodeggnjoaaGreatZ2b6653c2
import Derived.Test.YtecnmodeggnjoaaGreatZ15f15767
set_option linter.unusedVariables false
set_option linter.unusedSimpArgs false
set_option maxRecDepth 20000
set_option maxHeartbeats 20000000
namespace Go.Proofs.YtecnmodeggnjoaaGreat.Ac
open Go.RowKit
attribute [local simp] mkI_len mkNs_len
def mkTm (k : Int) (x : Tm) : Tm := ⟨mkI (k) x.kinds.length, k + x.kinds.length⟩
def mkCTm (x : Tm) : Nat := 1 + x.kinds.length
def mkTms : Int → List Tm → List Tm
  | _, [] => []
  | k, n :: l => mkTm k n :: mkTms (k + mkCTm n) l
def mkZTms (l : List Tm) : Nat := (l.map mkCTm).sum
theorem mkTms_len : ∀ (k : Int) (l : List Tm), (mkTms k l).length = l.length
  | _, [] => rfl
  | k, n :: l => congrArg (· + 1) (mkTms_len _ l)
theorem mkZTms_cons (n : Tm) (l : List Tm) : mkZTms (n :: l) = mkCTm n + mkZTms l := by simp [mkZTms]
theorem mkZTms_take {l : List Tm} {i : Nat} (hi : i < l.length) : mkZTms (l.take (i + 1)) = mkZTms (l.take i) + mkCTm l[i] := by
  unfold mkZTms
  rw [List.take_succ_eq_append_getElem hi, List.map_append, List.sum_append]; simp
theorem mkZTms_le (l : List Tm) (i : Nat) : mkZTms (l.take i) ≤ mkZTms l := by
  conv => rhs; rw [← List.take_append_drop i l]
  unfold mkZTms
  rw [List.map_append, List.sum_append]; omega
theorem mkZTms_ge : ∀ l : List Tm, l.length ≤ mkZTms l
  | [] => Nat.le_refl _
  | n :: l => by have := mkZTms_ge l; rw [mkZTms_cons, List.length_cons]; unfold mkCTm; omega
theorem mkTms_get : ∀ (k : Int) (l : List Tm) (i : Nat) (hi : i < l.length), (mkTms k l)[i]'(by rw [mkTms_len]; exact hi) = mkTm (k + mkZTms (l.take i)) l[i]
  | k, [], _, hi => by simp at hi
  | k, n :: l, 0, _ => by simp [mkTms, mkZTms]
  | k, n :: l, i + 1, hi => by
    have := mkTms_get (k + mkCTm n) l i (by simpa using hi)
    simp only [mkTms, List.getElem_cons_succ, this, List.take_succ_cons, mkZTms_cons]
    congr 1
    omega
attribute [local simp] mkTms_len
theorem mkZTms_sz (l : List Tm) : mkZTms l ≤ 6 * (l.length + szTms l) := by
  induction l with
  | nil => simp [mkZTms, szTms]
  | cons n l ih =>
    rw [mkZTms_cons, szTms_cons, List.length_cons]
    unfold mkCTm; unfold szTm; omega
theorem markTermS_ok (x : List Tm) (k : Int) (hk : 0 ≤ k ∧ k + mkZTms x < 2 ^ 62) : GCalls Tryz.prog 210 [(1, some ⟨0, 2, x.map tmW⟩)] [(false, [.row 1 0 x.length]), (false, [.f (iL k)])] [(1, some ⟨0, 2, (mkTms k x).map tmW⟩)] [(false, [.f (iL (k + mkZTms x))])] := by
  have hl := mkTms_len k x
  have hzl := mkZTms_ge x
  refine gr Tryz.func210 Tryz.ntmps210 (⟨cl_tms _, trivial⟩) ?_
  (refine ⟨fun m es hs => ∃ (i : Nat) (K : Int), (m + i = x.length) ∧ (K = k + mkZTms (x.take i)) ∧ es = [(5, .val false [.f (iL i)]), (0, .val false [.row 1 0 x.length]), (1, .val false [.f (iL K)])] ∧ hs = [(1, some ⟨0, 2, ((mkTms k x).take i ++ x.drop i).map tmW⟩)], ⟨x.length, [], [], _, _, ⟨rfl, ?_, ?_⟩, 0, k, ?_, ?_, rfl, rfl⟩, ?_⟩; rotate_left 4; rintro m _ _ ⟨i, K, hMTm0, hMTm1, rfl, rfl⟩; refine nx ?_)
  refine ⟨fun h => nx ?_, fun h => nx ?_⟩
  have hi : i < x.length := by simpa using h
  have hz := mkZTms_take hi
  have hz2 := mkZTms_le x (i + 1)
  have hc : mkCTm x[i] = 1 + x[i].kinds.length := rfl
  have hK : 0 ≤ K ∧ K + mkCTm x[i] < 2 ^ 62 := by omega
  have w1 : IntKind.i64.wrap (K + x[i].kinds.length + 1) = K + x[i].kinds.length + 1 := (wrap_id (by omega)).trans (by omega)
  have c0 := markIntS_ok x[i].kinds (K) (by omega)
  refine ⟨i, ⟨rfl, hi⟩, nx ?_⟩
  refine ⟨tmW x[i], get_take hi hl, nx ?_⟩
  (refine ⟨⟨false, [(1, 272)], _, _, _, _⟩, c0, co ?_ ?_ ?_ ?_⟩; rotate_left 3)
  refine ⟨i, ⟨rfl, hi⟩, nx ?_⟩
  refine ⟨_, List.getElem?_set_self (by simp; omega), nx ?_⟩
  rw [w1]
  refine ⟨m - 1, [(272, 1, i, 0)], [], [(5, .val false [.f (iL (i + 1))]), (0, .val false [.row 1 0 x.length]), (1, .val false [.f (iL (K + x[i].kinds.length + 1))])], [(1, some ⟨0, 2, ((mkTms k x).take (i + 1) ++ x.drop (i + 1)).map tmW⟩)], by omega, nx ?_, (i + 1), (K + x[i].kinds.length + 1), ?_, ?_, rfl, rfl⟩
  refine ⟨_, List.getElem?_set_self (by simp; omega), nx ?_⟩
  refine ⟨(mkI (K) x[i].kinds.length).map intW, by rw [List.take_of_length_le (by simp)], nx ?_⟩
  (refine ⟨?_, ?_⟩; rotate_left 4)
  have hi : i = x.length := by have := Int.not_lt.1 h; omega
  subst hi
  rw [List.take_length] at hMTm1
  (refine ⟨[], [], ?_⟩; rotate_left)
  all_goals (try (repeat' first | exact trivial | exact rfl | exact tl_pv rfl rfl rfl (List.cons_ne_nil _ _) | exact ⟨_, rfl, frzC_map _⟩ | exact tl_ints rfl rfl rfl (by simp) | exact tl_txts rfl rfl rfl (by simp) | exact tl_nds rfl rfl rfl (by simp) | exact tl_tms rfl rfl rfl (by simp) | exact tl_rus rfl rfl rfl (by simp) | exact tl_eds rfl rfl rfl (by simp) | exact tl_hos rfl rfl rfl (by simp) | exact tl_tbs rfl rfl rfl (by simp) | exact tl_ses rfl rfl rfl (by simp) | exact tl_evs rfl rfl rfl (by simp) | ((conv => whnf); first | exact trivial | exact rfl | exact .inr rfl | exact .inl ⟨rfl, rfl⟩ | apply And.intro) | refine tl_int ?_ | refine tl_bool ?_ | refine tl_str ?_ | refine tl_row rfl ?_ | exact cl_ints _ | exact cl_txts _ | exact cl_nds _ | exact cl_tms _ | exact cl_rus _ | exact cl_eds _ | exact cl_hos _ | exact cl_tbs _ | exact cl_ses _ | exact cl_evs _ | exact cl_mp _ | exact Nat.succ_pos _ | exact pl_ints _ | exact pl_txts _ | exact pl_nds _ | exact pl_tms _ | exact pl_rus _ | exact pl_eds _ | exact pl_hos _ | exact pl_tbs _ | exact pl_ses _ | exact pl_evs _ | with_reducible refine tl_f ?_)); all_goals (try first | rfl | assumption | exact q.symm | omega | (rw [IntKind.wrap_i64]; omega) | (simp; done) | (simp; omega))
  all_goals first
    | (simp [mkZTms]; done)
    | (dsimp only; rw [take_end rfl hl])
    | (have e := mkTms_get k x i hi; rw [← hMTm1] at e; (try dsimp only); simp only [List.set_set]; refine set_take' hi hl ?_; rw [e]; rfl)
def mkRu (k : Int) (x : Ru) : Ru := ⟨mT (k), decide ((k + 1).tmod 3 = 0), mkTms (k + 2) x.terms⟩
def mkCRu (x : Ru) : Nat := 2 + mkZTms x.terms
def mkRus : Int → List Ru → List Ru
  | _, [] => []
  | k, n :: l => mkRu k n :: mkRus (k + mkCRu n) l
def mkZRus (l : List Ru) : Nat := (l.map mkCRu).sum
theorem mkRus_len : ∀ (k : Int) (l : List Ru), (mkRus k l).length = l.length
  | _, [] => rfl
  | k, n :: l => congrArg (· + 1) (mkRus_len _ l)
theorem mkZRus_cons (n : Ru) (l : List Ru) : mkZRus (n :: l) = mkCRu n + mkZRus l := by simp [mkZRus]
theorem mkZRus_take {l : List Ru} {i : Nat} (hi : i < l.length) : mkZRus (l.take (i + 1)) = mkZRus (l.take i) + mkCRu l[i] := by
  unfold mkZRus
  rw [List.take_succ_eq_append_getElem hi, List.map_append, List.sum_append]; simp
theorem mkZRus_le (l : List Ru) (i : Nat) : mkZRus (l.take i) ≤ mkZRus l := by
  conv => rhs; rw [← List.take_append_drop i l]
  unfold mkZRus
  rw [List.map_append, List.sum_append]; omega
theorem mkZRus_ge : ∀ l : List Ru, l.length ≤ mkZRus l
  | [] => Nat.le_refl _
  | n :: l => by have := mkZRus_ge l; rw [mkZRus_cons, List.length_cons]; unfold mkCRu; omega
theorem mkRus_get : ∀ (k : Int) (l : List Ru) (i : Nat) (hi : i < l.length), (mkRus k l)[i]'(by rw [mkRus_len]; exact hi) = mkRu (k + mkZRus (l.take i)) l[i]
  | k, [], _, hi => by simp at hi
  | k, n :: l, 0, _ => by simp [mkRus, mkZRus]
  | k, n :: l, i + 1, hi => by
    have := mkRus_get (k + mkCRu n) l i (by simpa using hi)
    simp only [mkRus, List.getElem_cons_succ, this, List.take_succ_cons, mkZRus_cons]
    congr 1
    omega
attribute [local simp] mkRus_len
theorem mkZRus_sz (l : List Ru) : mkZRus l ≤ 6 * (l.length + szRus l) := by
  induction l with
  | nil => simp [mkZRus, szRus]
  | cons n l ih =>
    rw [mkZRus_cons, szRus_cons, List.length_cons]
    have := mkZTms_sz n.terms
    unfold mkCRu; unfold szRu; omega
theorem markRuleS_ok (x : List Ru) (k : Int) (hk : 0 ≤ k ∧ k + mkZRus x < 2 ^ 62) : GCalls Tryz.prog 123 [(1, some ⟨0, 3, x.map ruW⟩)] [(false, [.row 1 0 x.length]), (false, [.f (iL k)])] [(1, some ⟨0, 3, (mkRus k x).map ruW⟩)] [(false, [.f (iL (k + mkZRus x))])] := by
  have hl := mkRus_len k x
  have hzl := mkZRus_ge x
  refine gr Tryz.func123 Tryz.ntmps123 (⟨cl_rus _, trivial⟩) ?_
  (refine ⟨fun m es hs => ∃ (i : Nat) (K : Int), (m + i = x.length) ∧ (K = k + mkZRus (x.take i)) ∧ es = [(5, .val false [.f (iL i)]), (0, .val false [.row 1 0 x.length]), (1, .val false [.f (iL K)])] ∧ hs = [(1, some ⟨0, 3, ((mkRus k x).take i ++ x.drop i).map ruW⟩)], ⟨x.length, [], [], _, _, ⟨rfl, ?_, ?_⟩, 0, k, ?_, ?_, rfl, rfl⟩, ?_⟩; rotate_left 4; rintro m _ _ ⟨i, K, hMRu0, hMRu1, rfl, rfl⟩; refine nx ?_)
  refine ⟨fun h => nx ?_, fun h => nx ?_⟩
  have hi : i < x.length := by simpa using h
  have hz := mkZRus_take hi
  have hz2 := mkZRus_le x (i + 1)
  have hc : mkCRu x[i] = 2 + mkZTms x[i].terms := rfl
  have hK : 0 ≤ K ∧ K + mkCRu x[i] < 2 ^ 62 := by omega
  have w0 : IntKind.i64.wrap (K + 1) = K + 1 := (wrap_id (by omega)).trans (by omega)
  have c0 := markText_ok (K) (by omega)
  have w1 : IntKind.i64.wrap (K + 1 + 1) = K + 2 := (wrap_id (by omega)).trans (by omega)
  have c2 := markTermS_ok x[i].terms (K + 2) (by omega)
  refine ⟨([], _), c0, nx ?_⟩
  refine ⟨i, ⟨rfl, hi⟩, nx ?_⟩
  refine ⟨ruW x[i], get_take hi hl, nx ?_⟩
  rw [w0]
  refine ⟨by decide, nx ?_⟩
  refine run_spl (nx ?_)
  refine ⟨i, ⟨rfl, hi⟩, nx ?_⟩
  refine ⟨_, List.getElem?_set_self (by simp; omega), nx ?_⟩
  rw [w1]
  refine ⟨i, ⟨rfl, hi⟩, nx ?_⟩
  refine ⟨_, List.getElem?_set_self (by simp; omega), nx ?_⟩
  (refine ⟨⟨false, [(1, 544)], _, _, _, _⟩, c2, co ?_ ?_ ?_ ?_⟩; rotate_left 3)
  refine ⟨m - 1, [(544, 1, i, 2)], [], [(5, .val false [.f (iL (i + 1))]), (0, .val false [.row 1 0 x.length]), (1, .val false [.f (iL (K + 2 + mkZTms x[i].terms))])], [(1, some ⟨0, 3, ((mkRus k x).take (i + 1) ++ x.drop (i + 1)).map ruW⟩)], by omega, nx ?_, (i + 1), (K + 2 + mkZTms x[i].terms), ?_, ?_, rfl, rfl⟩
  refine ⟨_, List.getElem?_set_self (by simp; omega), nx ?_⟩
  refine ⟨(mkTms (K + 2) x[i].terms).map tmW, by rw [List.take_of_length_le (by simp)], nx ?_⟩
  (refine ⟨?_, ?_⟩; rotate_left 4)
  have hi : i = x.length := by have := Int.not_lt.1 h; omega
  subst hi
  rw [List.take_length] at hMRu1
  (refine ⟨[], [], ?_⟩; rotate_left)
  all_goals (try (repeat' first | exact trivial | exact rfl | exact tl_pv rfl rfl rfl (List.cons_ne_nil _ _) | exact ⟨_, rfl, frzC_map _⟩ | exact tl_ints rfl rfl rfl (by simp) | exact tl_txts rfl rfl rfl (by simp) | exact tl_nds rfl rfl rfl (by simp) | exact tl_tms rfl rfl rfl (by simp) | exact tl_rus rfl rfl rfl (by simp) | exact tl_eds rfl rfl rfl (by simp) | exact tl_hos rfl rfl rfl (by simp) | exact tl_tbs rfl rfl rfl (by simp) | exact tl_ses rfl rfl rfl (by simp) | exact tl_evs rfl rfl rfl (by simp) | ((conv => whnf); first | exact trivial | exact rfl | exact .inr rfl | exact .inl ⟨rfl, rfl⟩ | apply And.intro) | refine tl_int ?_ | refine tl_bool ?_ | refine tl_str ?_ | refine tl_row rfl ?_ | exact cl_ints _ | exact cl_txts _ | exact cl_nds _ | exact cl_tms _ | exact cl_rus _ | exact cl_eds _ | exact cl_hos _ | exact cl_tbs _ | exact cl_ses _ | exact cl_evs _ | exact cl_mp _ | exact Nat.succ_pos _ | exact pl_ints _ | exact pl_txts _ | exact pl_nds _ | exact pl_tms _ | exact pl_rus _ | exact pl_eds _ | exact pl_hos _ | exact pl_tbs _ | exact pl_ses _ | exact pl_evs _ | with_reducible refine tl_f ?_)); all_goals (try first | rfl | assumption | exact q.symm | omega | (rw [IntKind.wrap_i64]; omega) | (simp; done) | (simp; omega))
  all_goals first
    | (simp [mkZRus]; done)
    | (dsimp only; rw [take_end rfl hl])
    | (have e := mkRus_get k x i hi; rw [← hMRu1] at e; (try dsimp only); simp only [List.set_set]; refine set_take' hi hl ?_; rw [e]; rfl)
def mkHo (k : Int) (x : Ho) : Ho := ⟨k, k + 1, k + 2⟩
def mkCHo (x : Ho) : Nat := 3
def mkHos : Int → List Ho → List Ho
  | _, [] => []
  | k, n :: l => mkHo k n :: mkHos (k + mkCHo n) l
def mkZHos (l : List Ho) : Nat := (l.map mkCHo).sum
theorem mkHos_len : ∀ (k : Int) (l : List Ho), (mkHos k l).length = l.length
  | _, [] => rfl
  | k, n :: l => congrArg (· + 1) (mkHos_len _ l)
theorem mkZHos_cons (n : Ho) (l : List Ho) : mkZHos (n :: l) = mkCHo n + mkZHos l := by simp [mkZHos]
theorem mkZHos_take {l : List Ho} {i : Nat} (hi : i < l.length) : mkZHos (l.take (i + 1)) = mkZHos (l.take i) + mkCHo l[i] := by
  unfold mkZHos
  rw [List.take_succ_eq_append_getElem hi, List.map_append, List.sum_append]; simp
theorem mkZHos_le (l : List Ho) (i : Nat) : mkZHos (l.take i) ≤ mkZHos l := by
  conv => rhs; rw [← List.take_append_drop i l]
  unfold mkZHos
  rw [List.map_append, List.sum_append]; omega
theorem mkZHos_ge : ∀ l : List Ho, l.length ≤ mkZHos l
  | [] => Nat.le_refl _
  | n :: l => by have := mkZHos_ge l; rw [mkZHos_cons, List.length_cons]; unfold mkCHo; omega
theorem mkHos_get : ∀ (k : Int) (l : List Ho) (i : Nat) (hi : i < l.length), (mkHos k l)[i]'(by rw [mkHos_len]; exact hi) = mkHo (k + mkZHos (l.take i)) l[i]
  | k, [], _, hi => by simp at hi
  | k, n :: l, 0, _ => by simp [mkHos, mkZHos]
  | k, n :: l, i + 1, hi => by
    have := mkHos_get (k + mkCHo n) l i (by simpa using hi)
    simp only [mkHos, List.getElem_cons_succ, this, List.take_succ_cons, mkZHos_cons]
    congr 1
    omega
attribute [local simp] mkHos_len
theorem mkZHos_sz (l : List Ho) : mkZHos l ≤ 6 * l.length := by
  induction l with
  | nil => simp [mkZHos]
  | cons n l ih =>
    rw [mkZHos_cons, List.length_cons]
    unfold mkCHo; omega
theorem markHoldS_ok (x : List Ho) (k : Int) (hk : 0 ≤ k ∧ k + mkZHos x < 2 ^ 62) : GCalls Tryz.prog 47 [(1, some ⟨0, 3, x.map hoW⟩)] [(false, [.row 1 0 x.length]), (false, [.f (iL k)])] [(1, some ⟨0, 3, (mkHos k x).map hoW⟩)] [(false, [.f (iL (k + mkZHos x))])] := by
  have hl := mkHos_len k x
  have hzl := mkZHos_ge x
  refine gr Tryz.func47 Tryz.ntmps47 (⟨cl_hos _, trivial⟩) ?_
  (refine ⟨fun m es hs => ∃ (i : Nat) (K : Int), (m + i = x.length) ∧ (K = k + mkZHos (x.take i)) ∧ es = [(5, .val false [.f (iL i)]), (0, .val false [.row 1 0 x.length]), (1, .val false [.f (iL K)])] ∧ hs = [(1, some ⟨0, 3, ((mkHos k x).take i ++ x.drop i).map hoW⟩)], ⟨x.length, [], [], _, _, ⟨rfl, ?_, ?_⟩, 0, k, ?_, ?_, rfl, rfl⟩, ?_⟩; rotate_left 4; rintro m _ _ ⟨i, K, hMHo0, hMHo1, rfl, rfl⟩; refine nx ?_)
  refine ⟨fun h => nx ?_, fun h => nx ?_⟩
  have hi : i < x.length := by simpa using h
  have hz := mkZHos_take hi
  have hz2 := mkZHos_le x (i + 1)
  have hc : mkCHo x[i] = 3 := rfl
  have hK : 0 ≤ K ∧ K + mkCHo x[i] < 2 ^ 62 := by omega
  have w0 : IntKind.i64.wrap (K + 1) = K + 1 := (wrap_id (by omega)).trans (by omega)
  have w1 : IntKind.i64.wrap (K + 1 + 1) = K + 2 := (wrap_id (by omega)).trans (by omega)
  have w2 : IntKind.i64.wrap (K + 2 + 1) = K + 3 := (wrap_id (by omega)).trans (by omega)
  refine ⟨i, ⟨rfl, hi⟩, nx ?_⟩
  refine ⟨hoW x[i], get_take hi hl, nx ?_⟩
  rw [w0]
  refine ⟨i, ⟨rfl, hi⟩, nx ?_⟩
  refine ⟨_, List.getElem?_set_self (by simp; omega), nx ?_⟩
  rw [w1]
  refine ⟨i, ⟨rfl, hi⟩, nx ?_⟩
  refine ⟨_, List.getElem?_set_self (by simp; omega), nx ?_⟩
  rw [w2]
  (refine ⟨m - 1, [], [], [(5, .val false [.f (iL (i + 1))]), (0, .val false [.row 1 0 x.length]), (1, .val false [.f (iL (K + 3))])], [(1, some ⟨0, 3, ((mkHos k x).take (i + 1) ++ x.drop (i + 1)).map hoW⟩)], by omega, ⟨rfl, ?_, ?_⟩, (i + 1), (K + 3), ?_, ?_, rfl, rfl⟩; rotate_left 4)
  have hi : i = x.length := by have := Int.not_lt.1 h; omega
  subst hi
  rw [List.take_length] at hMHo1
  (refine ⟨[], [], ?_⟩; rotate_left)
  all_goals (try (repeat' first | exact trivial | exact rfl | exact tl_pv rfl rfl rfl (List.cons_ne_nil _ _) | exact ⟨_, rfl, frzC_map _⟩ | exact tl_ints rfl rfl rfl (by simp) | exact tl_txts rfl rfl rfl (by simp) | exact tl_nds rfl rfl rfl (by simp) | exact tl_tms rfl rfl rfl (by simp) | exact tl_rus rfl rfl rfl (by simp) | exact tl_eds rfl rfl rfl (by simp) | exact tl_hos rfl rfl rfl (by simp) | exact tl_tbs rfl rfl rfl (by simp) | exact tl_ses rfl rfl rfl (by simp) | exact tl_evs rfl rfl rfl (by simp) | ((conv => whnf); first | exact trivial | exact rfl | exact .inr rfl | exact .inl ⟨rfl, rfl⟩ | apply And.intro) | refine tl_int ?_ | refine tl_bool ?_ | refine tl_str ?_ | refine tl_row rfl ?_ | exact cl_ints _ | exact cl_txts _ | exact cl_nds _ | exact cl_tms _ | exact cl_rus _ | exact cl_eds _ | exact cl_hos _ | exact cl_tbs _ | exact cl_ses _ | exact cl_evs _ | exact cl_mp _ | exact Nat.succ_pos _ | exact pl_ints _ | exact pl_txts _ | exact pl_nds _ | exact pl_tms _ | exact pl_rus _ | exact pl_eds _ | exact pl_hos _ | exact pl_tbs _ | exact pl_ses _ | exact pl_evs _ | with_reducible refine tl_f ?_)); all_goals (try first | rfl | assumption | exact q.symm | omega | (rw [IntKind.wrap_i64]; omega) | (simp; done) | (simp; omega))
  all_goals first
    | (simp [mkZHos]; done)
    | (dsimp only; rw [take_end rfl hl])
    | (have e := mkHos_get k x i hi; rw [← hMHo1] at e; (try dsimp only); simp only [List.set_set]; refine set_take' hi hl ?_; rw [e]; rfl)
theorem heldHoldS_ok (k : Int) (x : List Ho) (hk : 0 ≤ k ∧ k + mkZHos x < 2 ^ 62) : FC Tryz.prog 48 [(false, [hos (mkHos k x)]), (false, [iL k])] [] [(false, [.f (iL (k + mkZHos x))])] := by
  have hl := mkHos_len k x
  have hzl := mkZHos_ge x
  refine gr Tryz.func48 Tryz.ntmps48 trivial ?_
  (refine ⟨fun m es hs => ∃ (i : Nat) (K : Int), (m + i = x.length) ∧ (K = k + mkZHos (x.take i)) ∧ es = [(5, .val false [.f (iL i)]), (0, .val false [.f (hos (mkHos k x))]), (1, .val false [.f (iL K)])] ∧ hs = [], ⟨x.length, [], [], _, _, ⟨rfl, ?_, ?_⟩, 0, k, ?_, ?_, rfl, rfl⟩, ?_⟩; rotate_left 4; rintro m _ _ ⟨i, K, hHHo0, hHHo1, rfl, rfl⟩; refine nx ?_)
  refine ⟨fun h => nx ?_, fun h => nx ?_⟩
  have hi : i < x.length := by rw [List.length_map, hl] at h; omega
  have hz := mkZHos_take hi
  have hz2 := mkZHos_le x (i + 1)
  have hc : mkCHo x[i] = 3 := rfl
  have hK : 0 ≤ K ∧ K + mkCHo x[i] < 2 ^ 62 := by omega
  have w0 : IntKind.i64.wrap (K + 1) = K + 1 := (wrap_id (by omega)).trans (by omega)
  have w1 : IntKind.i64.wrap (K + 1 + 1) = K + 2 := (wrap_id (by omega)).trans (by omega)
  have w2 : IntKind.i64.wrap (K + 2 + 1) = K + 3 := (wrap_id (by omega)).trans (by omega)
  have he := mkHos_get k x i hi
  rw [← hHHo1] at he
  have he2 : ((mkHos k x).map hoL)[i]? = some (hoL (mkHo K x[i])) := by rw [List.getElem?_map, List.getElem?_eq_getElem (by omega), he]; rfl
  refine ⟨(i, hoL (mkHo K x[i])), ⟨rfl, he2⟩, nx ?_⟩
  refine ⟨fun h => absurd rfl h, fun h => nx ?_⟩
  rw [w0]
  refine ⟨(i, hoL (mkHo K x[i])), ⟨rfl, he2⟩, nx ?_⟩
  refine ⟨fun h => absurd rfl h, fun h => nx ?_⟩
  rw [w1]
  refine ⟨(i, hoL (mkHo K x[i])), ⟨rfl, he2⟩, nx ?_⟩
  refine ⟨fun h => absurd rfl h, fun h => nx ?_⟩
  rw [w2]
  (refine ⟨m - 1, [], [], [(5, .val false [.f (iL (i + 1))]), (0, .val false [.f (hos (mkHos k x))]), (1, .val false [.f (iL (K + 3))])], [], by omega, ⟨rfl, ?_, ?_⟩, (i + 1), (K + 3), ?_, ?_, rfl, rfl⟩; rotate_left 4)
  have hi : i = x.length := by rw [List.length_map, hl] at h; omega
  subst hi
  rw [List.take_length] at hHHo1
  (refine ⟨[], [], ?_⟩; rotate_left)
  all_goals try exact don
  all_goals (simp [mkZHos]; done)
def mkSe (k : Int) (x : Se) : Se := ⟨k, k + 1, k + 2, ⟨k + 3, k + 4, mkNs (k + 5) x.copy.nodes⟩⟩
def mkCSe (x : Se) : Nat := 5 + mkZ x.copy.nodes
def mkSes : Int → List Se → List Se
  | _, [] => []
  | k, n :: l => mkSe k n :: mkSes (k + mkCSe n) l
def mkZSes (l : List Se) : Nat := (l.map mkCSe).sum
theorem mkSes_len : ∀ (k : Int) (l : List Se), (mkSes k l).length = l.length
  | _, [] => rfl
  | k, n :: l => congrArg (· + 1) (mkSes_len _ l)
theorem mkZSes_cons (n : Se) (l : List Se) : mkZSes (n :: l) = mkCSe n + mkZSes l := by simp [mkZSes]
theorem mkZSes_take {l : List Se} {i : Nat} (hi : i < l.length) : mkZSes (l.take (i + 1)) = mkZSes (l.take i) + mkCSe l[i] := by
  unfold mkZSes
  rw [List.take_succ_eq_append_getElem hi, List.map_append, List.sum_append]; simp
theorem mkZSes_le (l : List Se) (i : Nat) : mkZSes (l.take i) ≤ mkZSes l := by
  conv => rhs; rw [← List.take_append_drop i l]
  unfold mkZSes
  rw [List.map_append, List.sum_append]; omega
theorem mkZSes_ge : ∀ l : List Se, l.length ≤ mkZSes l
  | [] => Nat.le_refl _
  | n :: l => by have := mkZSes_ge l; rw [mkZSes_cons, List.length_cons]; unfold mkCSe; omega
theorem mkSes_get : ∀ (k : Int) (l : List Se) (i : Nat) (hi : i < l.length), (mkSes k l)[i]'(by rw [mkSes_len]; exact hi) = mkSe (k + mkZSes (l.take i)) l[i]
  | k, [], _, hi => by simp at hi
  | k, n :: l, 0, _ => by simp [mkSes, mkZSes]
  | k, n :: l, i + 1, hi => by
    have := mkSes_get (k + mkCSe n) l i (by simpa using hi)
    simp only [mkSes, List.getElem_cons_succ, this, List.take_succ_cons, mkZSes_cons]
    congr 1
    omega
attribute [local simp] mkSes_len
theorem mkZSes_sz (l : List Se) : mkZSes l ≤ 6 * (l.length + szSes l) := by
  induction l with
  | nil => simp [mkZSes, szSes]
  | cons n l ih =>
    rw [mkZSes_cons, szSes_cons, List.length_cons]
    have := mkZ_sz n.copy.nodes
    unfold mkCSe; unfold szSe; unfold szD; omega
theorem markSessionS_ok (x : List Se) (k : Int) (hk : 0 ≤ k ∧ k + mkZSes x < 2 ^ 62) : GCalls Tryz.prog 124 [(1, some ⟨0, 6, x.map seW⟩)] [(false, [.row 1 0 x.length]), (false, [.f (iL k)])] [(1, some ⟨0, 6, (mkSes k x).map seW⟩)] [(false, [.f (iL (k + mkZSes x))])] := by
  have hl := mkSes_len k x
  have hzl := mkZSes_ge x
  refine gr Tryz.func124 Tryz.ntmps124 (⟨cl_ses _, trivial⟩) ?_
  (refine ⟨fun m es hs => ∃ (i : Nat) (K : Int), (m + i = x.length) ∧ (K = k + mkZSes (x.take i)) ∧ es = [(5, .val false [.f (iL i)]), (0, .val false [.row 1 0 x.length]), (1, .val false [.f (iL K)])] ∧ hs = [(1, some ⟨0, 6, ((mkSes k x).take i ++ x.drop i).map seW⟩)], ⟨x.length, [], [], _, _, ⟨rfl, ?_, ?_⟩, 0, k, ?_, ?_, rfl, rfl⟩, ?_⟩; rotate_left 4; rintro m _ _ ⟨i, K, hMSe0, hMSe1, rfl, rfl⟩; refine nx ?_)
  refine ⟨fun h => nx ?_, fun h => nx ?_⟩
  have hi : i < x.length := by simpa using h
  have hz := mkZSes_take hi
  have hz2 := mkZSes_le x (i + 1)
  have hc : mkCSe x[i] = 5 + mkZ x[i].copy.nodes := rfl
  have hK : 0 ≤ K ∧ K + mkCSe x[i] < 2 ^ 62 := by omega
  have w0 : IntKind.i64.wrap (K + 1) = K + 1 := (wrap_id (by omega)).trans (by omega)
  have w1 : IntKind.i64.wrap (K + 1 + 1) = K + 2 := (wrap_id (by omega)).trans (by omega)
  have w2 : IntKind.i64.wrap (K + 2 + 1) = K + 3 := (wrap_id (by omega)).trans (by omega)
  have w3 : IntKind.i64.wrap (K + 3 + 1) = K + 4 := (wrap_id (by omega)).trans (by omega)
  have w4 : IntKind.i64.wrap (K + 4 + 1) = K + 5 := (wrap_id (by omega)).trans (by omega)
  have c5 := markNodeS_ok x[i].copy.nodes (K + 5) (by omega)
  refine ⟨i, ⟨rfl, hi⟩, nx ?_⟩
  refine ⟨seW x[i], get_take hi hl, nx ?_⟩
  rw [w0]
  refine ⟨i, ⟨rfl, hi⟩, nx ?_⟩
  refine ⟨_, List.getElem?_set_self (by simp; omega), nx ?_⟩
  rw [w1]
  refine ⟨i, ⟨rfl, hi⟩, nx ?_⟩
  refine ⟨_, List.getElem?_set_self (by simp; omega), nx ?_⟩
  rw [w2]
  refine ⟨i, ⟨rfl, hi⟩, nx ?_⟩
  refine ⟨_, List.getElem?_set_self (by simp; omega), nx ?_⟩
  rw [w3]
  refine ⟨i, ⟨rfl, hi⟩, nx ?_⟩
  refine ⟨_, List.getElem?_set_self (by simp; omega), nx ?_⟩
  rw [w4]
  refine ⟨i, ⟨rfl, hi⟩, nx ?_⟩
  refine ⟨_, List.getElem?_set_self (by simp; omega), nx ?_⟩
  (refine ⟨⟨false, [(1, 880)], _, _, _, _⟩, c5, co ?_ ?_ ?_ ?_⟩; rotate_left 3)
  refine ⟨m - 1, [(880, 1, i, 5)], [], [(5, .val false [.f (iL (i + 1))]), (0, .val false [.row 1 0 x.length]), (1, .val false [.f (iL (K + 5 + mkZ x[i].copy.nodes))])], [(1, some ⟨0, 6, ((mkSes k x).take (i + 1) ++ x.drop (i + 1)).map seW⟩)], by omega, nx ?_, (i + 1), (K + 5 + mkZ x[i].copy.nodes), ?_, ?_, rfl, rfl⟩
  refine ⟨_, List.getElem?_set_self (by simp; omega), nx ?_⟩
  refine ⟨(mkNs (K + 5) x[i].copy.nodes).map ndW, by rw [List.take_of_length_le (by simp)], nx ?_⟩
  (refine ⟨?_, ?_⟩; rotate_left 4)
  have hi : i = x.length := by have := Int.not_lt.1 h; omega
  subst hi
  rw [List.take_length] at hMSe1
  (refine ⟨[], [], ?_⟩; rotate_left)
  all_goals (try (repeat' first | exact trivial | exact rfl | exact tl_pv rfl rfl rfl (List.cons_ne_nil _ _) | exact ⟨_, rfl, frzC_map _⟩ | exact tl_ints rfl rfl rfl (by simp) | exact tl_txts rfl rfl rfl (by simp) | exact tl_nds rfl rfl rfl (by simp) | exact tl_tms rfl rfl rfl (by simp) | exact tl_rus rfl rfl rfl (by simp) | exact tl_eds rfl rfl rfl (by simp) | exact tl_hos rfl rfl rfl (by simp) | exact tl_tbs rfl rfl rfl (by simp) | exact tl_ses rfl rfl rfl (by simp) | exact tl_evs rfl rfl rfl (by simp) | ((conv => whnf); first | exact trivial | exact rfl | exact .inr rfl | exact .inl ⟨rfl, rfl⟩ | apply And.intro) | refine tl_int ?_ | refine tl_bool ?_ | refine tl_str ?_ | refine tl_row rfl ?_ | exact cl_ints _ | exact cl_txts _ | exact cl_nds _ | exact cl_tms _ | exact cl_rus _ | exact cl_eds _ | exact cl_hos _ | exact cl_tbs _ | exact cl_ses _ | exact cl_evs _ | exact cl_mp _ | exact Nat.succ_pos _ | exact pl_ints _ | exact pl_txts _ | exact pl_nds _ | exact pl_tms _ | exact pl_rus _ | exact pl_eds _ | exact pl_hos _ | exact pl_tbs _ | exact pl_ses _ | exact pl_evs _ | with_reducible refine tl_f ?_)); all_goals (try first | rfl | assumption | exact q.symm | omega | (rw [IntKind.wrap_i64]; omega) | (simp; done) | (simp; omega))
  all_goals first
    | (simp [mkZSes]; done)
    | (dsimp only; rw [take_end rfl hl])
    | (have e := mkSes_get k x i hi; rw [← hMSe1] at e; (try dsimp only); simp only [List.set_set]; refine set_take' hi hl ?_; rw [e]; rfl)
def mkEv (k : Int) (x : Ev) : Ev := ⟨k, k + 1, k + 2⟩
def mkCEv (x : Ev) : Nat := 3
def mkEvs : Int → List Ev → List Ev
  | _, [] => []
  | k, n :: l => mkEv k n :: mkEvs (k + mkCEv n) l
def mkZEvs (l : List Ev) : Nat := (l.map mkCEv).sum
theorem mkEvs_len : ∀ (k : Int) (l : List Ev), (mkEvs k l).length = l.length
  | _, [] => rfl
  | k, n :: l => congrArg (· + 1) (mkEvs_len _ l)
theorem mkZEvs_cons (n : Ev) (l : List Ev) : mkZEvs (n :: l) = mkCEv n + mkZEvs l := by simp [mkZEvs]
theorem mkZEvs_take {l : List Ev} {i : Nat} (hi : i < l.length) : mkZEvs (l.take (i + 1)) = mkZEvs (l.take i) + mkCEv l[i] := by
  unfold mkZEvs
  rw [List.take_succ_eq_append_getElem hi, List.map_append, List.sum_append]; simp
theorem mkZEvs_le (l : List Ev) (i : Nat) : mkZEvs (l.take i) ≤ mkZEvs l := by
  conv => rhs; rw [← List.take_append_drop i l]
  unfold mkZEvs
  rw [List.map_append, List.sum_append]; omega
theorem mkZEvs_ge : ∀ l : List Ev, l.length ≤ mkZEvs l
  | [] => Nat.le_refl _
  | n :: l => by have := mkZEvs_ge l; rw [mkZEvs_cons, List.length_cons]; unfold mkCEv; omega
theorem mkEvs_get : ∀ (k : Int) (l : List Ev) (i : Nat) (hi : i < l.length), (mkEvs k l)[i]'(by rw [mkEvs_len]; exact hi) = mkEv (k + mkZEvs (l.take i)) l[i]
  | k, [], _, hi => by simp at hi
  | k, n :: l, 0, _ => by simp [mkEvs, mkZEvs]
  | k, n :: l, i + 1, hi => by
    have := mkEvs_get (k + mkCEv n) l i (by simpa using hi)
    simp only [mkEvs, List.getElem_cons_succ, this, List.take_succ_cons, mkZEvs_cons]
    congr 1
    omega
attribute [local simp] mkEvs_len
theorem mkZEvs_sz (l : List Ev) : mkZEvs l ≤ 6 * l.length := by
  induction l with
  | nil => simp [mkZEvs]
  | cons n l ih =>
    rw [mkZEvs_cons, List.length_cons]
    unfold mkCEv; omega
theorem markEventS_ok (x : List Ev) (k : Int) (hk : 0 ≤ k ∧ k + mkZEvs x < 2 ^ 62) : GCalls Tryz.prog 125 [(1, some ⟨0, 3, x.map evW⟩)] [(false, [.row 1 0 x.length]), (false, [.f (iL k)])] [(1, some ⟨0, 3, (mkEvs k x).map evW⟩)] [(false, [.f (iL (k + mkZEvs x))])] := by
  have hl := mkEvs_len k x
  have hzl := mkZEvs_ge x
  refine gr Tryz.func125 Tryz.ntmps125 (⟨cl_evs _, trivial⟩) ?_
  (refine ⟨fun m es hs => ∃ (i : Nat) (K : Int), (m + i = x.length) ∧ (K = k + mkZEvs (x.take i)) ∧ es = [(5, .val false [.f (iL i)]), (0, .val false [.row 1 0 x.length]), (1, .val false [.f (iL K)])] ∧ hs = [(1, some ⟨0, 3, ((mkEvs k x).take i ++ x.drop i).map evW⟩)], ⟨x.length, [], [], _, _, ⟨rfl, ?_, ?_⟩, 0, k, ?_, ?_, rfl, rfl⟩, ?_⟩; rotate_left 4; rintro m _ _ ⟨i, K, hMEv0, hMEv1, rfl, rfl⟩; refine nx ?_)
  refine ⟨fun h => nx ?_, fun h => nx ?_⟩
  have hi : i < x.length := by simpa using h
  have hz := mkZEvs_take hi
  have hz2 := mkZEvs_le x (i + 1)
  have hc : mkCEv x[i] = 3 := rfl
  have hK : 0 ≤ K ∧ K + mkCEv x[i] < 2 ^ 62 := by omega
  have w0 : IntKind.i64.wrap (K + 1) = K + 1 := (wrap_id (by omega)).trans (by omega)
  have w1 : IntKind.i64.wrap (K + 1 + 1) = K + 2 := (wrap_id (by omega)).trans (by omega)
  have w2 : IntKind.i64.wrap (K + 2 + 1) = K + 3 := (wrap_id (by omega)).trans (by omega)
  refine ⟨i, ⟨rfl, hi⟩, nx ?_⟩
  refine ⟨evW x[i], get_take hi hl, nx ?_⟩
  rw [w0]
  refine ⟨i, ⟨rfl, hi⟩, nx ?_⟩
  refine ⟨_, List.getElem?_set_self (by simp; omega), nx ?_⟩
  rw [w1]
  refine ⟨i, ⟨rfl, hi⟩, nx ?_⟩
  refine ⟨_, List.getElem?_set_self (by simp; omega), nx ?_⟩
  rw [w2]
  (refine ⟨m - 1, [], [], [(5, .val false [.f (iL (i + 1))]), (0, .val false [.row 1 0 x.length]), (1, .val false [.f (iL (K + 3))])], [(1, some ⟨0, 3, ((mkEvs k x).take (i + 1) ++ x.drop (i + 1)).map evW⟩)], by omega, ⟨rfl, ?_, ?_⟩, (i + 1), (K + 3), ?_, ?_, rfl, rfl⟩; rotate_left 4)
  have hi : i = x.length := by have := Int.not_lt.1 h; omega
  subst hi
  rw [List.take_length] at hMEv1
  (refine ⟨[], [], ?_⟩; rotate_left)
  all_goals (try (repeat' first | exact trivial | exact rfl | exact tl_pv rfl rfl rfl (List.cons_ne_nil _ _) | exact ⟨_, rfl, frzC_map _⟩ | exact tl_ints rfl rfl rfl (by simp) | exact tl_txts rfl rfl rfl (by simp) | exact tl_nds rfl rfl rfl (by simp) | exact tl_tms rfl rfl rfl (by simp) | exact tl_rus rfl rfl rfl (by simp) | exact tl_eds rfl rfl rfl (by simp) | exact tl_hos rfl rfl rfl (by simp) | exact tl_tbs rfl rfl rfl (by simp) | exact tl_ses rfl rfl rfl (by simp) | exact tl_evs rfl rfl rfl (by simp) | ((conv => whnf); first | exact trivial | exact rfl | exact .inr rfl | exact .inl ⟨rfl, rfl⟩ | apply And.intro) | refine tl_int ?_ | refine tl_bool ?_ | refine tl_str ?_ | refine tl_row rfl ?_ | exact cl_ints _ | exact cl_txts _ | exact cl_nds _ | exact cl_tms _ | exact cl_rus _ | exact cl_eds _ | exact cl_hos _ | exact cl_tbs _ | exact cl_ses _ | exact cl_evs _ | exact cl_mp _ | exact Nat.succ_pos _ | exact pl_ints _ | exact pl_txts _ | exact pl_nds _ | exact pl_tms _ | exact pl_rus _ | exact pl_eds _ | exact pl_hos _ | exact pl_tbs _ | exact pl_ses _ | exact pl_evs _ | with_reducible refine tl_f ?_)); all_goals (try first | rfl | assumption | exact q.symm | omega | (rw [IntKind.wrap_i64]; omega) | (simp; done) | (simp; omega))
  all_goals first
    | (simp [mkZEvs]; done)
    | (dsimp only; rw [take_end rfl hl])
    | (have e := mkEvs_get k x i hi; rw [← hMEv1] at e; (try dsimp only); simp only [List.set_set]; refine set_take' hi hl ?_; rw [e]; rfl)
theorem markTable_ok (x : Tb) (k : Int) (hk : 0 ≤ k ∧ k + (mkZHos x.holds + mkZHos x.waits : Nat) < 2 ^ 62) : GCalls Tryz.prog 25 [(1, some ⟨0, 3, x.holds.map hoW⟩), (2, some ⟨0, 3, x.waits.map hoW⟩)] [(true, [.row 1 0 x.holds.length, .row 2 0 x.waits.length]), (false, [.f (iL k)])] [(1, some ⟨0, 3, (mkHos (k) x.holds).map hoW⟩), (2, some ⟨0, 3, (mkHos (k + mkZHos x.holds) x.waits).map hoW⟩)] [(false, [.f (iL (k + mkZHos x.holds + mkZHos x.waits))])] := by
  have c0 := markHoldS_ok x.holds (k) (by omega)
  have c1 := markHoldS_ok x.waits (k + mkZHos x.holds) (by omega)
  refine gr Tryz.func25 Tryz.ntmps25 (⟨cl_hos _, cl_hos _, trivial⟩) ?_
  refine ⟨⟨false, [(1, 1)], _, _, _, _⟩, c0, cd ?_⟩
  refine ⟨⟨false, [(1, 2)], _, _, _, _⟩, c1, cd ?_⟩
  exact ⟨[], [], don⟩
theorem markHost_ok (x : Ht) (k : Int) (hk : 0 ≤ k ∧ k + (mkZRus x.schema + mkZ x.doc.nodes + mkZSes x.sessions + mkZHos x.table.holds + mkZHos x.table.waits + mkZEvs x.events : Nat) < 2 ^ 62) : GCalls Tryz.prog 46 [(1, some ⟨0, 3, x.schema.map ruW⟩), (2, some ⟨0, 5, x.doc.nodes.map ndW⟩), (3, some ⟨0, 6, x.sessions.map seW⟩), (4, some ⟨0, 3, x.table.holds.map hoW⟩), (5, some ⟨0, 3, x.table.waits.map hoW⟩), (6, some ⟨0, 3, x.events.map evW⟩)] [(true, [.row 1 0 x.schema.length, .f (iL x.doc.root), .f (iL x.doc.next), .row 2 0 x.doc.nodes.length, .f (iL x.clock), .f (iL x.lease), .f (iL x.next), .row 3 0 x.sessions.length, .row 4 0 x.table.holds.length, .row 5 0 x.table.waits.length, .row 6 0 x.events.length]), (false, [.f (iL k)])] [(1, some ⟨0, 3, (mkRus (k) x.schema).map ruW⟩), (2, some ⟨0, 5, (mkNs (k + mkZRus x.schema) x.doc.nodes).map ndW⟩), (3, some ⟨0, 6, (mkSes (k + mkZRus x.schema + mkZ x.doc.nodes) x.sessions).map seW⟩), (4, some ⟨0, 3, (mkHos (k + mkZRus x.schema + mkZ x.doc.nodes + mkZSes x.sessions) x.table.holds).map hoW⟩), (5, some ⟨0, 3, (mkHos (k + mkZRus x.schema + mkZ x.doc.nodes + mkZSes x.sessions + mkZHos x.table.holds) x.table.waits).map hoW⟩), (6, some ⟨0, 3, (mkEvs (k + mkZRus x.schema + mkZ x.doc.nodes + mkZSes x.sessions + mkZHos x.table.holds + mkZHos x.table.waits) x.events).map evW⟩)] [(false, [.f (iL (k + mkZRus x.schema + mkZ x.doc.nodes + mkZSes x.sessions + mkZHos x.table.holds + mkZHos x.table.waits + mkZEvs x.events))])] := by
  have c0 := markRuleS_ok x.schema (k) (by omega)
  have c1 := markDoc_ok x.doc (k + mkZRus x.schema) (by omega)
  have c2 := markSessionS_ok x.sessions (k + mkZRus x.schema + mkZ x.doc.nodes) (by omega)
  have c3 := markTable_ok x.table (k + mkZRus x.schema + mkZ x.doc.nodes + mkZSes x.sessions) (by omega)
  have c4 := markEventS_ok x.events (k + mkZRus x.schema + mkZ x.doc.nodes + mkZSes x.sessions + mkZHos x.table.holds + mkZHos x.table.waits) (by omega)
  refine gr Tryz.func46 Tryz.ntmps46 (⟨cl_rus _, cl_nds _, cl_ses _, cl_hos _, cl_hos _, cl_evs _, trivial⟩) ?_
  refine ⟨⟨false, [(1, 1)], _, _, _, _⟩, c0, cd ?_⟩
  refine ⟨⟨false, [(1, 2)], _, _, _, _⟩, c1, cd ?_⟩
  refine ⟨⟨false, [(1, 3)], _, _, _, _⟩, c2, cd ?_⟩
  refine ⟨⟨false, [(1, 4), (2, 5)], _, _, _, _⟩, c3, cd ?_⟩
  refine ⟨⟨false, [(1, 6)], _, _, _, _⟩, c4, cd ?_⟩
  exact ⟨[], [], don⟩
end Go.Proofs.YtecnmodeggnjoaaGreat.Ac
