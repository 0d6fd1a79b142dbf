/- Several of our texts, one behind the other, without what this claim does not need: Rm, Tj, Tl. -/
import Derived.Test.YtecnmodeggnjoaaGreatZe2002630
import Derived.Test.YtecnmodeggnjoaaGreatZ4c252170
import Derived.Test.YtecnmodeggnjoaaGreatZf69970a3
set_option linter.unusedVariables false
set_option linter.unusedSimpArgs false
set_option maxRecDepth 20000
set_option maxHeartbeats 20000000
namespace Go.Proofs.YtecnmodeggnjoaaGreat.Ac
open Go.RowKit
attribute [local simp] mkI_len mkNs_len
def mkTm (k : Int) (x : Tm) : Tm := ⟨mkI (k) x.kinds.length, k + x.kinds.length⟩
def mkCTm (x : Tm) : Nat := 1 + x.kinds.length
def mkTms : Int → List Tm → List Tm
  | _, [] => []
  | k, n :: l => mkTm k n :: mkTms (k + mkCTm n) l
def mkZTms (l : List Tm) : Nat := (l.map mkCTm).sum
theorem mkTms_len : ∀ (k : Int) (l : List Tm), (mkTms k l).length = l.length
  | _, [] => rfl
  | k, n :: l => congrArg (· + 1) (mkTms_len _ l)
attribute [local simp] mkTms_len
def mkRu (k : Int) (x : Ru) : Ru := ⟨mT (k), decide ((k + 1).tmod 3 = 0), mkTms (k + 2) x.terms⟩
def mkCRu (x : Ru) : Nat := 2 + mkZTms x.terms
def mkRus : Int → List Ru → List Ru
  | _, [] => []
  | k, n :: l => mkRu k n :: mkRus (k + mkCRu n) l
theorem mkRus_len : ∀ (k : Int) (l : List Ru), (mkRus k l).length = l.length
  | _, [] => rfl
  | k, n :: l => congrArg (· + 1) (mkRus_len _ l)
attribute [local simp] mkRus_len
def mkHo (k : Int) (x : Ho) : Ho := ⟨k, k + 1, k + 2⟩
def mkCHo (x : Ho) : Nat := 3
def mkHos : Int → List Ho → List Ho
  | _, [] => []
  | k, n :: l => mkHo k n :: mkHos (k + mkCHo n) l
def mkZHos (l : List Ho) : Nat := (l.map mkCHo).sum
theorem mkHos_len : ∀ (k : Int) (l : List Ho), (mkHos k l).length = l.length
  | _, [] => rfl
  | k, n :: l => congrArg (· + 1) (mkHos_len _ l)
theorem mkZHos_cons (n : Ho) (l : List Ho) : mkZHos (n :: l) = mkCHo n + mkZHos l := by simp [mkZHos]
theorem mkZHos_take {l : List Ho} {i : Nat} (hi : i < l.length) : mkZHos (l.take (i + 1)) = mkZHos (l.take i) + mkCHo l[i] := by
  unfold mkZHos
  rw [List.take_succ_eq_append_getElem hi, List.map_append, List.sum_append]; simp
theorem mkZHos_le (l : List Ho) (i : Nat) : mkZHos (l.take i) ≤ mkZHos l := by
  conv => rhs; rw [← List.take_append_drop i l]
  unfold mkZHos
  rw [List.map_append, List.sum_append]; omega
theorem mkZHos_ge : ∀ l : List Ho, l.length ≤ mkZHos l
  | [] => Nat.le_refl _
  | n :: l => by have := mkZHos_ge l; rw [mkZHos_cons, List.length_cons]; unfold mkCHo; omega
theorem mkHos_get : ∀ (k : Int) (l : List Ho) (i : Nat) (hi : i < l.length), (mkHos k l)[i]'(by rw [mkHos_len]; exact hi) = mkHo (k + mkZHos (l.take i)) l[i]
  | k, [], _, hi => by simp at hi
  | k, n :: l, 0, _ => by simp [mkHos, mkZHos]
  | k, n :: l, i + 1, hi => by
    have := mkHos_get (k + mkCHo n) l i (by simpa using hi)
    simp only [mkHos, List.getElem_cons_succ, this, List.take_succ_cons, mkZHos_cons]
    congr 1
    omega
attribute [local simp] mkHos_len
theorem mkZHos_sz (l : List Ho) : mkZHos l ≤ 6 * l.length := by
  induction l with
  | nil => simp [mkZHos]
  | cons n l ih =>
    rw [mkZHos_cons, List.length_cons]
    unfold mkCHo; omega
theorem markHoldS_ok (x : List Ho) (k : Int) (hk : 0 ≤ k ∧ k + mkZHos x < 2 ^ 62) : GCalls Tryz.prog 47 [(1, some ⟨0, 3, x.map hoW⟩)] [(false, [.row 1 0 x.length]), (false, [.f (iL k)])] [(1, some ⟨0, 3, (mkHos k x).map hoW⟩)] [(false, [.f (iL (k + mkZHos x))])] := by
  have hl := mkHos_len k x
  have hzl := mkZHos_ge x
  refine gr Tryz.func47 Tryz.ntmps47 (⟨cl_hos _, trivial⟩) ?_
  (refine ⟨fun m es hs => ∃ (i : Nat) (K : Int), (m + i = x.length) ∧ (K = k + mkZHos (x.take i)) ∧ es = [(5, .val false [.f (iL i)]), (0, .val false [.row 1 0 x.length]), (1, .val false [.f (iL K)])] ∧ hs = [(1, some ⟨0, 3, ((mkHos k x).take i ++ x.drop i).map hoW⟩)], ⟨x.length, [], [], _, _, ⟨rfl, ?_, ?_⟩, 0, k, ?_, ?_, rfl, rfl⟩, ?_⟩; rotate_left 4; rintro m _ _ ⟨i, K, hMHo0, hMHo1, rfl, rfl⟩; refine nx ?_)
  refine ⟨fun h => nx ?_, fun h => nx ?_⟩
  have hi : i < x.length := by simpa using h
  have hz := mkZHos_take hi
  have hz2 := mkZHos_le x (i + 1)
  have hc : mkCHo x[i] = 3 := rfl
  have hK : 0 ≤ K ∧ K + mkCHo x[i] < 2 ^ 62 := by omega
  have w0 : IntKind.i64.wrap (K + 1) = K + 1 := (wrap_id (by omega)).trans (by omega)
  have w1 : IntKind.i64.wrap (K + 1 + 1) = K + 2 := (wrap_id (by omega)).trans (by omega)
  have w2 : IntKind.i64.wrap (K + 2 + 1) = K + 3 := (wrap_id (by omega)).trans (by omega)
  refine ⟨i, ⟨rfl, hi⟩, nx ?_⟩
  refine ⟨hoW x[i], get_take hi hl, nx ?_⟩
  rw [w0]
  refine ⟨i, ⟨rfl, hi⟩, nx ?_⟩
  refine ⟨_, List.getElem?_set_self (by simp; omega), nx ?_⟩
  rw [w1]
  refine ⟨i, ⟨rfl, hi⟩, nx ?_⟩
  refine ⟨_, List.getElem?_set_self (by simp; omega), nx ?_⟩
  rw [w2]
  (refine ⟨m - 1, [], [], [(5, .val false [.f (iL (i + 1))]), (0, .val false [.row 1 0 x.length]), (1, .val false [.f (iL (K + 3))])], [(1, some ⟨0, 3, ((mkHos k x).take (i + 1) ++ x.drop (i + 1)).map hoW⟩)], by omega, ⟨rfl, ?_, ?_⟩, (i + 1), (K + 3), ?_, ?_, rfl, rfl⟩; rotate_left 4)
  have hi : i = x.length := by have := Int.not_lt.1 h; omega
  subst hi
  rw [List.take_length] at hMHo1
  (refine ⟨[], [], ?_⟩; rotate_left)
  all_goals (try (repeat' first | exact trivial | exact rfl | exact tl_pv rfl rfl rfl (List.cons_ne_nil _ _) | exact ⟨_, rfl, frzC_map _⟩ | exact tl_ints rfl rfl rfl (by simp) | exact tl_txts rfl rfl rfl (by simp) | exact tl_nds rfl rfl rfl (by simp) | exact tl_tms rfl rfl rfl (by simp) | exact tl_rus rfl rfl rfl (by simp) | exact tl_eds rfl rfl rfl (by simp) | exact tl_hos rfl rfl rfl (by simp) | exact tl_tbs rfl rfl rfl (by simp) | exact tl_ses rfl rfl rfl (by simp) | exact tl_evs rfl rfl rfl (by simp) | ((conv => whnf); first | exact trivial | exact rfl | exact .inr rfl | exact .inl ⟨rfl, rfl⟩ | apply And.intro) | refine tl_int ?_ | refine tl_bool ?_ | refine tl_str ?_ | refine tl_row rfl ?_ | exact cl_ints _ | exact cl_txts _ | exact cl_nds _ | exact cl_tms _ | exact cl_rus _ | exact cl_eds _ | exact cl_hos _ | exact cl_tbs _ | exact cl_ses _ | exact cl_evs _ | exact cl_mp _ | exact Nat.succ_pos _ | exact pl_ints _ | exact pl_txts _ | exact pl_nds _ | exact pl_tms _ | exact pl_rus _ | exact pl_eds _ | exact pl_hos _ | exact pl_tbs _ | exact pl_ses _ | exact pl_evs _ | with_reducible refine tl_f ?_)); all_goals (try first | rfl | assumption | exact q.symm | omega | (rw [IntKind.wrap_i64]; omega) | (simp; done) | (simp; omega))
  all_goals first
    | (simp [mkZHos]; done)
    | (dsimp only; rw [take_end rfl hl])
    | (have e := mkHos_get k x i hi; rw [← hMHo1] at e; (try dsimp only); simp only [List.set_set]; refine set_take' hi hl ?_; rw [e]; rfl)
theorem heldHoldS_ok (k : Int) (x : List Ho) (hk : 0 ≤ k ∧ k + mkZHos x < 2 ^ 62) : FC Tryz.prog 48 [(false, [hos (mkHos k x)]), (false, [iL k])] [] [(false, [.f (iL (k + mkZHos x))])] := by
  have hl := mkHos_len k x
  have hzl := mkZHos_ge x
  refine gr Tryz.func48 Tryz.ntmps48 trivial ?_
  (refine ⟨fun m es hs => ∃ (i : Nat) (K : Int), (m + i = x.length) ∧ (K = k + mkZHos (x.take i)) ∧ es = [(5, .val false [.f (iL i)]), (0, .val false [.f (hos (mkHos k x))]), (1, .val false [.f (iL K)])] ∧ hs = [], ⟨x.length, [], [], _, _, ⟨rfl, ?_, ?_⟩, 0, k, ?_, ?_, rfl, rfl⟩, ?_⟩; rotate_left 4; rintro m _ _ ⟨i, K, hHHo0, hHHo1, rfl, rfl⟩; refine nx ?_)
  refine ⟨fun h => nx ?_, fun h => nx ?_⟩
  have hi : i < x.length := by rw [List.length_map, hl] at h; omega
  have hz := mkZHos_take hi
  have hz2 := mkZHos_le x (i + 1)
  have hc : mkCHo x[i] = 3 := rfl
  have hK : 0 ≤ K ∧ K + mkCHo x[i] < 2 ^ 62 := by omega
  have w0 : IntKind.i64.wrap (K + 1) = K + 1 := (wrap_id (by omega)).trans (by omega)
  have w1 : IntKind.i64.wrap (K + 1 + 1) = K + 2 := (wrap_id (by omega)).trans (by omega)
  have w2 : IntKind.i64.wrap (K + 2 + 1) = K + 3 := (wrap_id (by omega)).trans (by omega)
  have he := mkHos_get k x i hi
  rw [← hHHo1] at he
  have he2 : ((mkHos k x).map hoL)[i]? = some (hoL (mkHo K x[i])) := by rw [List.getElem?_map, List.getElem?_eq_getElem (by omega), he]; rfl
  refine ⟨(i, hoL (mkHo K x[i])), ⟨rfl, he2⟩, nx ?_⟩
  refine ⟨fun h => absurd rfl h, fun h => nx ?_⟩
  rw [w0]
  refine ⟨(i, hoL (mkHo K x[i])), ⟨rfl, he2⟩, nx ?_⟩
  refine ⟨fun h => absurd rfl h, fun h => nx ?_⟩
  rw [w1]
  refine ⟨(i, hoL (mkHo K x[i])), ⟨rfl, he2⟩, nx ?_⟩
  refine ⟨fun h => absurd rfl h, fun h => nx ?_⟩
  rw [w2]
  (refine ⟨m - 1, [], [], [(5, .val false [.f (iL (i + 1))]), (0, .val false [.f (hos (mkHos k x))]), (1, .val false [.f (iL (K + 3))])], [], by omega, ⟨rfl, ?_, ?_⟩, (i + 1), (K + 3), ?_, ?_, rfl, rfl⟩; rotate_left 4)
  have hi : i = x.length := by rw [List.length_map, hl] at h; omega
  subst hi
  rw [List.take_length] at hHHo1
  (refine ⟨[], [], ?_⟩; rotate_left)
  all_goals try exact don
  all_goals (simp [mkZHos]; done)
def mkSe (k : Int) (x : Se) : Se := ⟨k, k + 1, k + 2, ⟨k + 3, k + 4, mkNs (k + 5) x.copy.nodes⟩⟩
def mkCSe (x : Se) : Nat := 5 + mkZ x.copy.nodes
def mkSes : Int → List Se → List Se
  | _, [] => []
  | k, n :: l => mkSe k n :: mkSes (k + mkCSe n) l
theorem mkSes_len : ∀ (k : Int) (l : List Se), (mkSes k l).length = l.length
  | _, [] => rfl
  | k, n :: l => congrArg (· + 1) (mkSes_len _ l)
attribute [local simp] mkSes_len
def mkEv (k : Int) (x : Ev) : Ev := ⟨k, k + 1, k + 2⟩
def mkCEv (x : Ev) : Nat := 3
def mkEvs : Int → List Ev → List Ev
  | _, [] => []
  | k, n :: l => mkEv k n :: mkEvs (k + mkCEv n) l
theorem mkEvs_len : ∀ (k : Int) (l : List Ev), (mkEvs k l).length = l.length
  | _, [] => rfl
  | k, n :: l => congrArg (· + 1) (mkEvs_len _ l)
attribute [local simp] mkEvs_len
theorem markTable_ok (x : Tb) (k : Int) (hk : 0 ≤ k ∧ k + (mkZHos x.holds + mkZHos x.waits : Nat) < 2 ^ 62) : GCalls Tryz.prog 25 [(1, some ⟨0, 3, x.holds.map hoW⟩), (2, some ⟨0, 3, x.waits.map hoW⟩)] [(true, [.row 1 0 x.holds.length, .row 2 0 x.waits.length]), (false, [.f (iL k)])] [(1, some ⟨0, 3, (mkHos (k) x.holds).map hoW⟩), (2, some ⟨0, 3, (mkHos (k + mkZHos x.holds) x.waits).map hoW⟩)] [(false, [.f (iL (k + mkZHos x.holds + mkZHos x.waits))])] := by
  have c0 := markHoldS_ok x.holds (k) (by omega)
  have c1 := markHoldS_ok x.waits (k + mkZHos x.holds) (by omega)
  refine gr Tryz.func25 Tryz.ntmps25 (⟨cl_hos _, cl_hos _, trivial⟩) ?_
  refine ⟨⟨false, [(1, 1)], _, _, _, _⟩, c0, cd ?_⟩
  refine ⟨⟨false, [(1, 2)], _, _, _, _⟩, c1, cd ?_⟩
  exact ⟨[], [], don⟩
theorem heldTable_ok (x : Tb) (k : Int) (hk : 0 ≤ k ∧ k + (mkZHos x.holds + mkZHos x.waits : Nat) < 2 ^ 62) : FC Tryz.prog 27 [(true, [hos (mkHos (k) x.holds), hos (mkHos (k + mkZHos x.holds) x.waits)]), (false, [iL k])] [] [(false, [.f (iL (k + mkZHos x.holds + mkZHos x.waits))])] := by
  have c0 := heldHoldS_ok (k) x.holds (by omega)
  have c1 := heldHoldS_ok (k + mkZHos x.holds) x.waits (by omega)
  refine gr Tryz.func27 Tryz.ntmps27 trivial ?_
  refine ⟨([], _), c0, nx ?_⟩
  refine ⟨fun h => absurd h (by omega), fun h => nx ?_⟩
  refine ⟨([], _), c1, nx ?_⟩
  refine ⟨fun h => absurd h (by omega), fun h => nx ?_⟩
  exact ⟨[], [], don⟩
end Go.Proofs.YtecnmodeggnjoaaGreat.Ac
set_option linter.unusedVariables false
set_option linter.unusedSimpArgs false
set_option maxRecDepth 20000
set_option maxHeartbeats 40000000
namespace Go.Proofs.YtecnmodeggnjoaaGreat.Ac
open Go.RowKit
attribute [local simp] mkI_len mkNs_len mkHos_len
theorem get_takeT {a b u : List Ho} {i : Nat} (hi : i < b.length) (hab : a.length = b.length) : (((a.take i) ++ b.drop i ++ u).map hoW)[i]? = some (hoW b[i]) := by
  rw [List.map_append, List.getElem?_append_left (by simp; omega)]; exact get_take hi hab
theorem set_takeT {a b u : List Ho} {i : Nat} {y : List A} (hi : i < b.length) (hab : a.length = b.length) (hy : y = hoW a[i]) : (((a.take i) ++ b.drop i ++ u).map hoW).set i y = ((a.take (i + 1)) ++ b.drop (i + 1) ++ u).map hoW := by
  rw [List.map_append, List.set_append_left _ _ (by simp; omega), set_take' hi hab hy, ← List.map_append]
theorem markHoT_ok (x u : List Ho) (k : Int) (hk : 0 ≤ k ∧ k + mkZHos x < 2 ^ 62) : GCalls Tryz.prog 47 [(1, some ⟨0, 3, (x ++ u).map hoW⟩)] [(false, [.row 1 0 x.length]), (false, [.f (iL k)])] [(1, some ⟨0, 3, (mkHos k x ++ u).map hoW⟩)] [(false, [.f (iL (k + mkZHos x))])] := by
  have hl := mkHos_len k x
  have hzl := mkZHos_ge x
  have q0 : (x ++ u).map hoW = ((mkHos k x).take 0 ++ x.drop 0 ++ u).map hoW := by simp
  have q1 : k = k + (mkZHos (x.take 0) : Nat) := by simp [mkZHos]
  refine gr Tryz.func47 Tryz.ntmps47 (⟨cl_hos _, trivial⟩) ?_
  (refine ⟨fun m es hs => ∃ (i : Nat) (K : Int), (m + i = x.length) ∧ (K = k + mkZHos (x.take i)) ∧ es = [(5, .val false [.f (iL i)]), (0, .val false [.row 1 0 x.length]), (1, .val false [.f (iL K)])] ∧ hs = [(1, some ⟨0, 3, ((mkHos k x).take i ++ x.drop i ++ u).map hoW⟩)], ⟨x.length, [], [], _, _, don, 0, k, don, don, rfl, rfl⟩, ?_⟩; rintro m _ _ ⟨i, K, hMHT0, hMHT1, rfl, rfl⟩; refine nx ?_)
  refine ⟨fun h => nx ?_, fun h => nx ?_⟩
  have hi : i < x.length := by simpa using h
  have hz := mkZHos_take hi
  have hz2 := mkZHos_le x (i + 1)
  have hc : mkCHo x[i] = 3 := rfl
  have hK : 0 ≤ K ∧ K + mkCHo x[i] < 2 ^ 62 := by omega
  have w0 : IntKind.i64.wrap (K + 1) = K + 1 := (wrap_id (by omega)).trans (by omega)
  have w1 : IntKind.i64.wrap (K + 1 + 1) = K + 2 := (wrap_id (by omega)).trans (by omega)
  have w2 : IntKind.i64.wrap (K + 2 + 1) = K + 3 := (wrap_id (by omega)).trans (by omega)
  have e := mkHos_get k x i hi
  rw [← hMHT1] at e
  refine ⟨i, ⟨rfl, hi⟩, nx ?_⟩
  refine ⟨hoW x[i], get_takeT hi hl, nx ?_⟩
  rw [w0]
  refine ⟨i, ⟨rfl, hi⟩, nx ?_⟩
  refine ⟨_, List.getElem?_set_self (by simp; omega), nx ?_⟩
  rw [w1]
  refine ⟨i, ⟨rfl, hi⟩, nx ?_⟩
  refine ⟨_, List.getElem?_set_self (by simp; omega), nx ?_⟩
  rw [w2]
  simp only [List.set_set]
  have q : K + 3 = k + (mkZHos (x.take (i + 1)) : Nat) := by omega
  rw [set_takeT hi hl (by rw [e]; rfl)]
  exact ⟨m - 1, [], [], _, _, by omega, don, (i + 1), (K + 3), don, don, rfl, rfl⟩
  have hi : i = x.length := by have := Int.not_lt.1 h; omega
  subst hi
  rw [List.take_length] at hMHT1
  rw [take_end rfl hl]
  exact ⟨[], [], don⟩
theorem markTabT_ok (x : Tb) (u v : List Ho) (k : Int) (hk : 0 ≤ k ∧ k + (mkZHos x.holds + mkZHos x.waits : Nat) < 2 ^ 62) : GCalls Tryz.prog 25 [(1, some ⟨0, 3, (x.holds ++ u).map hoW⟩), (2, some ⟨0, 3, (x.waits ++ v).map hoW⟩)] [(true, [.row 1 0 x.holds.length, .row 2 0 x.waits.length]), (false, [.f (iL k)])]
    [(1, some ⟨0, 3, (mkHos (k) x.holds ++ u).map hoW⟩), (2, some ⟨0, 3, (mkHos (k + mkZHos x.holds) x.waits ++ v).map hoW⟩)] [(false, [.f (iL (k + mkZHos x.holds + mkZHos x.waits))])] := by
  have c0 := markHoT_ok x.holds u (k) (by omega)
  have c1 := markHoT_ok x.waits v (k + mkZHos x.holds) (by omega)
  refine gr Tryz.func25 Tryz.ntmps25 (⟨cl_hos _, cl_hos _, trivial⟩) ?_
  refine ⟨⟨false, [(1, 1)], _, _, _, _⟩, c0, cd ?_⟩
  refine ⟨⟨false, [(1, 2)], _, _, _, _⟩, c1, cd ?_⟩
  exact ⟨[], [], don⟩
end Go.Proofs.YtecnmodeggnjoaaGreat.Ac
set_option linter.unusedVariables false
set_option linter.unusedSimpArgs false
set_option maxRecDepth 20000
set_option maxHeartbeats 40000000
namespace Go.Proofs.YtecnmodeggnjoaaGreat.Ac
open Go.RowKit
attribute [local simp] mkI_len mkNs_len mkHos_len
theorem szNs_kids {l : List Nd} {n : Nd} (h : n ∈ l) : n.kids.length ≤ szNs l := by have := szN_le h; unfold szN at this; omega
theorem tbG_of {d : Dc} {t : Tb} (hd : DcIn d) (ht : TbIn t) (h1 : szD d ≤ 2 ^ 20) (h2 : szTb t ≤ 2 ^ 20) : TbG d t := by
  unfold szD at h1
  unfold szTb at h2
  exact ⟨⟨hd.1, fun n hn k hk => (hd.2.2.2 n hn).2.2.2.2.2 k hk⟩, by omega, by omega, by omega, fun x hx => (ht.1.2 x hx).2.1, fun x hx => (ht.2.2 x hx).2.1⟩
theorem set_le {d : Dc} : ∀ (n : Nat) (t : Tb) (k : Nat), setN t k < n → t.holds.length ≤ 30 → (setK d t k).1.holds.length ≤ 30
  | 0, _, _, h, _ => by omega
  | n + 1, t, k, h, ht => by
    by_cases hk : k < t.waits.length
    · have a := setN_grant hk
      have b := setN_next hk
      by_cases hf : freeP d t k
      · rw [setK_free hk hf]
        refine set_le n (grant t k) 0 (by omega) ?_
        obtain ⟨_, h1, _⟩ := hf
        show (putF t.holds (t.waits.getD k zHo')).length ≤ 30
        rw [show t.waits.getD k zHo' = t.waits[k] by simp [hk]]; exact h1
      · rw [setK_next hk hf]; exact set_le n t (k + 1) (by omega) ht
    · rw [setK_end (by omega)]; exact ht
theorem st_le {d : Dc} {t : Tb} : (stF d t).1.holds.length ≤ 30 ∧ (stF d t).1.waits.length + (stF d t).2.1.length ≤ 6 := by
  by_cases k : DOK d ∧ TabP d t
  · rw [st_yes k]
    have h1 := set_le (d := d) (setN t 0 + 1) t 0 (Nat.lt_succ_self _) k.2.1.1
    have h2 := (setK_tabG (d := d) (setN t 0 + 1) t 0 (Nat.lt_succ_self _) k.2.g).2
    have h3 := k.2.2.1
    exact ⟨h1, by dsimp only; omega⟩
  · rw [st_no k]; exact ⟨by simp, by simp⟩
theorem law_SettleTable (d : Dc) (t : Tb) (hd : DcIn d) (ht : TbIn t) : FC Tryz.prog 3 [(true, dcL d), (true, tbL t)] [] [(false, [.f (bL true)])] := by
  have zA := szDoc_ok d (2 ^ 20) (by omega) hd.len hd.txt hd.kid
  refine gr Tryz.func3 Tryz.ntmps3 trivial ?_
  refine ⟨([], _), zA, nx ?_⟩
  refine ⟨fun h => nx ?_, fun h => nx ?_⟩
  exact ⟨[], [], don⟩
  have hA : szD d ≤ 2 ^ 20 ∧ szL (szD d) (2 ^ 20) = 2 ^ 20 - (szD d : Int) := by unfold szL at h ⊢; split at h <;> omega
  rw [hA.2]
  have zB := szTable_ok t (2 ^ 20 - (szD d : Int)) (by omega) ht
  refine ⟨([], _), zB, nx ?_⟩
  refine ⟨fun h => nx ?_, fun h => nx ?_⟩
  exact ⟨[], [], don⟩
  have hB : szTb t ≤ 2 ^ 20 := by unfold szL at h; split at h <;> omega
  have hg := tbG_of hd ht hA.1 hB
  have hk : ∀ n ∈ d.nodes, n.kids.length < 2 ^ 28 := fun n hn => by have := szNs_kids hn; have := hA.1; unfold szD at this; omega
  have tA := toDoc_ok d hg.dl hk
  have tB := toTable_ok t hB
  have sp := st_spec d t hg
  have im := st_impl d t hg
  have eqd := eqDoc_refl d (by have := hg.dl; omega) (fun n hn => by have := hk n hn; omega)
  have eqt := eqTable_refl t hB
  have hle := st_le (d := d) (t := t)
  generalize stF d t = r at sp im hle
  obtain ⟨⟨H, W⟩, G, c⟩ := r
  dsimp only at sp im hle
  have eqr := eqTable_refl ⟨H, W⟩ (by unfold szTb; dsimp only; omega)
  have hL : (G.map (·.session)).length = G.length := List.length_map ..
  generalize G.map (·.session) = L at sp im hL
  rw [← hL] at sp im hle
  have eql := eqIntS_refl L (by omega)
  generalize List.replicate L.length zHo' = Z at im
  have b1 := mkZ_sz d.nodes
  have b2 := mkZHos_sz t.holds
  have b3 := mkZHos_sz t.waits
  have b4 := mkZHos_sz H
  have b5 := mkZHos_sz W
  have hA1 := hA.1
  unfold szD at hA1
  have hB1 := hB
  unfold szTb at hB1
  have m1 := markDoc_ok d 1 (by omega)
  have m2 := markTable_ok t (1 + mkZ d.nodes) (by omega)
  have m3 := markTabT_ok ⟨H, W⟩ [] Z 1 (by dsimp only; omega)
  have m4 := markIntS_ok L (1 + mkZHos H + mkZHos W) (by omega)
  have m5 := heldTable_ok ⟨H, W⟩ 1 (by dsimp only; omega)
  have m6 := heldIntS_ok (1 + mkZHos H + mkZHos W) L.length (by omega)
  rw [List.append_nil, List.append_nil] at m3
  dsimp only at m3 m5
  clear b1 b2 b3 b4 b5 hA1 hB1
  refine ⟨(_, _), tA, nx ?_⟩
  refine ⟨(_, _), tB, nx ?_⟩
  refine ⟨⟨true, [], _, _, _, _⟩, sp, cd ?_⟩
  refine ⟨(_, _), tA, nx ?_⟩
  refine ⟨(_, _), tB, nx ?_⟩
  refine ⟨⟨true, [], _, _, _, _⟩, im, cd ?_⟩
  refine ⟨⟨true, [], _, _, _, _⟩, eqr, cd ?_⟩
  refine ⟨⟨true, [], _, _, _, _⟩, eql, cd ?_⟩
  refine ⟨fun h => absurd rfl h, fun h => nx ?_⟩
  refine ⟨(_, _), tA, nx ?_⟩
  refine ⟨⟨true, [], _, _, _, _⟩, eqd, cd ?_⟩
  refine ⟨(_, _), tB, nx ?_⟩
  refine ⟨⟨true, [], _, _, _, _⟩, eqt, cd ?_⟩
  refine ⟨⟨false, [(1, 656)], _, _, _, _⟩, m1, cd ?_⟩
  refine ⟨⟨false, [(1, 688), (2, 689)], _, _, _, _⟩, m2, cd ?_⟩
  refine ⟨fun h => absurd h (by omega), fun h => nx ?_⟩
  refine ⟨⟨true, [], _, _, _, _⟩, eqr, cd ?_⟩
  refine ⟨⟨true, [], _, _, _, _⟩, eql, cd ?_⟩
  refine ⟨fun h => absurd rfl h, fun h => nx ?_⟩
  refine ⟨⟨false, [(1, 752), (2, 753)], _, _, _, _⟩, m3, cd ?_⟩
  refine ⟨⟨false, [(1, 754)], _, _, _, _⟩, m4, cd ?_⟩
  refine ⟨⟨true, [], _, _, _, _⟩, m5, cd ?_⟩
  refine ⟨fun h => absurd h (by omega), fun h => nx ?_⟩
  refine ⟨⟨true, [], _, _, _, _⟩, m6, cd ?_⟩
  refine ⟨fun h => absurd h (by omega), fun h => nx ?_⟩
  refine ⟨fun h => absurd rfl h, fun h => nx ?_⟩
  refine ⟨(_, _), tA, nx ?_⟩
  refine ⟨(_, _), tB, nx ?_⟩
  refine ⟨⟨true, [], _, _, _, _⟩, im, cd ?_⟩
  refine ⟨⟨true, [], _, _, _, _⟩, eqr, cd ?_⟩
  refine ⟨⟨true, [], _, _, _, _⟩, eql, cd ?_⟩
  refine ⟨fun h => absurd rfl h, fun h => nx ?_⟩
  refine ⟨⟨true, [], _, _, _, _⟩, m5, cd ?_⟩
  refine ⟨fun h => absurd h (by omega), fun h => nx ?_⟩
  refine ⟨⟨true, [], _, _, _, _⟩, m6, cd ?_⟩
  refine ⟨fun h => absurd h (by omega), fun h => nx ?_⟩
  refine ⟨fun h => absurd rfl h, fun h => nx ?_⟩
  exact ⟨[], [], don⟩
end Go.Proofs.YtecnmodeggnjoaaGreat.Ac
