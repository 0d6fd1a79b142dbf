/- Several of our texts, one behind the other, without what this claim does not need: Rm, Tj, Tl, Tx. -/
import Derived.Test.YtecnmodeggnjoaaGreatZe2002630
import Derived.Test.YtecnmodeggnjoaaGreatZ02ad8787
import Derived.Test.YtecnmodeggnjoaaGreatZ7a81eb2a
import Derived.Test.YtecnmodeggnjoaaGreatZ8ecd57fd
set_option linter.unusedVariables false
set_option linter.unusedSimpArgs false
set_option maxRecDepth 20000
set_option maxHeartbeats 20000000
namespace Go.Proofs.YtecnmodeggnjoaaGreat.Ac
open Go.RowKit
attribute [local simp] mkI_len mkNs_len
def mkTm (k : Int) (x : Tm) : Tm := ⟨mkI (k) x.kinds.length, k + x.kinds.length⟩
def mkCTm (x : Tm) : Nat := 1 + x.kinds.length
def mkTms : Int → List Tm → List Tm
  | _, [] => []
  | k, n :: l => mkTm k n :: mkTms (k + mkCTm n) l
def mkZTms (l : List Tm) : Nat := (l.map mkCTm).sum
theorem mkTms_len : ∀ (k : Int) (l : List Tm), (mkTms k l).length = l.length
  | _, [] => rfl
  | k, n :: l => congrArg (· + 1) (mkTms_len _ l)
attribute [local simp] mkTms_len
def mkRu (k : Int) (x : Ru) : Ru := ⟨mT (k), decide ((k + 1).tmod 3 = 0), mkTms (k + 2) x.terms⟩
def mkCRu (x : Ru) : Nat := 2 + mkZTms x.terms
def mkRus : Int → List Ru → List Ru
  | _, [] => []
  | k, n :: l => mkRu k n :: mkRus (k + mkCRu n) l
theorem mkRus_len : ∀ (k : Int) (l : List Ru), (mkRus k l).length = l.length
  | _, [] => rfl
  | k, n :: l => congrArg (· + 1) (mkRus_len _ l)
attribute [local simp] mkRus_len
def mkHo (k : Int) (x : Ho) : Ho := ⟨k, k + 1, k + 2⟩
def mkCHo (x : Ho) : Nat := 3
def mkHos : Int → List Ho → List Ho
  | _, [] => []
  | k, n :: l => mkHo k n :: mkHos (k + mkCHo n) l
def mkZHos (l : List Ho) : Nat := (l.map mkCHo).sum
theorem mkHos_len : ∀ (k : Int) (l : List Ho), (mkHos k l).length = l.length
  | _, [] => rfl
  | k, n :: l => congrArg (· + 1) (mkHos_len _ l)
theorem mkZHos_cons (n : Ho) (l : List Ho) : mkZHos (n :: l) = mkCHo n + mkZHos l := by simp [mkZHos]
theorem mkZHos_take {l : List Ho} {i : Nat} (hi : i < l.length) : mkZHos (l.take (i + 1)) = mkZHos (l.take i) + mkCHo l[i] := by
  unfold mkZHos
  rw [List.take_succ_eq_append_getElem hi, List.map_append, List.sum_append]; simp
theorem mkZHos_le (l : List Ho) (i : Nat) : mkZHos (l.take i) ≤ mkZHos l := by
  conv => rhs; rw [← List.take_append_drop i l]
  unfold mkZHos
  rw [List.map_append, List.sum_append]; omega
theorem mkZHos_ge : ∀ l : List Ho, l.length ≤ mkZHos l
  | [] => Nat.le_refl _
  | n :: l => by have := mkZHos_ge l; rw [mkZHos_cons, List.length_cons]; unfold mkCHo; omega
theorem mkHos_get : ∀ (k : Int) (l : List Ho) (i : Nat) (hi : i < l.length), (mkHos k l)[i]'(by rw [mkHos_len]; exact hi) = mkHo (k + mkZHos (l.take i)) l[i]
  | k, [], _, hi => by simp at hi
  | k, n :: l, 0, _ => by simp [mkHos, mkZHos]
  | k, n :: l, i + 1, hi => by
    have := mkHos_get (k + mkCHo n) l i (by simpa using hi)
    simp only [mkHos, List.getElem_cons_succ, this, List.take_succ_cons, mkZHos_cons]
    congr 1
    omega
attribute [local simp] mkHos_len
theorem mkZHos_sz (l : List Ho) : mkZHos l ≤ 6 * l.length := by
  induction l with
  | nil => simp [mkZHos]
  | cons n l ih =>
    rw [mkZHos_cons, List.length_cons]
    unfold mkCHo; omega
theorem markHoldS_ok (x : List Ho) (k : Int) (hk : 0 ≤ k ∧ k + mkZHos x < 2 ^ 62) : GCalls Tryz.prog 47 [(1, some ⟨0, 3, x.map hoW⟩)] [(false, [.row 1 0 x.length]), (false, [.f (iL k)])] [(1, some ⟨0, 3, (mkHos k x).map hoW⟩)] [(false, [.f (iL (k + mkZHos x))])] := by
  have hl := mkHos_len k x
  have hzl := mkZHos_ge x
  refine gr Tryz.func47 Tryz.ntmps47 (⟨cl_hos _, trivial⟩) ?_
  (refine ⟨fun m es hs => ∃ (i : Nat) (K : Int), (m + i = x.length) ∧ (K = k + mkZHos (x.take i)) ∧ es = [(5, .val false [.f (iL i)]), (0, .val false [.row 1 0 x.length]), (1, .val false [.f (iL K)])] ∧ hs = [(1, some ⟨0, 3, ((mkHos k x).take i ++ x.drop i).map hoW⟩)], ⟨x.length, [], [], _, _, ⟨rfl, ?_, ?_⟩, 0, k, ?_, ?_, rfl, rfl⟩, ?_⟩; rotate_left 4; rintro m _ _ ⟨i, K, hMHo0, hMHo1, rfl, rfl⟩; refine nx ?_)
  refine ⟨fun h => nx ?_, fun h => nx ?_⟩
  have hi : i < x.length := by simpa using h
  have hz := mkZHos_take hi
  have hz2 := mkZHos_le x (i + 1)
  have hc : mkCHo x[i] = 3 := rfl
  have hK : 0 ≤ K ∧ K + mkCHo x[i] < 2 ^ 62 := by omega
  have w0 : IntKind.i64.wrap (K + 1) = K + 1 := (wrap_id (by omega)).trans (by omega)
  have w1 : IntKind.i64.wrap (K + 1 + 1) = K + 2 := (wrap_id (by omega)).trans (by omega)
  have w2 : IntKind.i64.wrap (K + 2 + 1) = K + 3 := (wrap_id (by omega)).trans (by omega)
  refine ⟨i, ⟨rfl, hi⟩, nx ?_⟩
  refine ⟨hoW x[i], get_take hi hl, nx ?_⟩
  rw [w0]
  refine ⟨i, ⟨rfl, hi⟩, nx ?_⟩
  refine ⟨_, List.getElem?_set_self (by simp; omega), nx ?_⟩
  rw [w1]
  refine ⟨i, ⟨rfl, hi⟩, nx ?_⟩
  refine ⟨_, List.getElem?_set_self (by simp; omega), nx ?_⟩
  rw [w2]
  (refine ⟨m - 1, [], [], [(5, .val false [.f (iL (i + 1))]), (0, .val false [.row 1 0 x.length]), (1, .val false [.f (iL (K + 3))])], [(1, some ⟨0, 3, ((mkHos k x).take (i + 1) ++ x.drop (i + 1)).map hoW⟩)], by omega, ⟨rfl, ?_, ?_⟩, (i + 1), (K + 3), ?_, ?_, rfl, rfl⟩; rotate_left 4)
  have hi : i = x.length := by have := Int.not_lt.1 h; omega
  subst hi
  rw [List.take_length] at hMHo1
  (refine ⟨[], [], ?_⟩; rotate_left)
  all_goals (try (repeat' first | exact trivial | exact rfl | exact tl_pv rfl rfl rfl (List.cons_ne_nil _ _) | exact ⟨_, rfl, frzC_map _⟩ | exact tl_ints rfl rfl rfl (by simp) | exact tl_txts rfl rfl rfl (by simp) | exact tl_nds rfl rfl rfl (by simp) | exact tl_tms rfl rfl rfl (by simp) | exact tl_rus rfl rfl rfl (by simp) | exact tl_eds rfl rfl rfl (by simp) | exact tl_hos rfl rfl rfl (by simp) | exact tl_tbs rfl rfl rfl (by simp) | exact tl_ses rfl rfl rfl (by simp) | exact tl_evs rfl rfl rfl (by simp) | ((conv => whnf); first | exact trivial | exact rfl | exact .inr rfl | exact .inl ⟨rfl, rfl⟩ | apply And.intro) | refine tl_int ?_ | refine tl_bool ?_ | refine tl_str ?_ | refine tl_row rfl ?_ | exact cl_ints _ | exact cl_txts _ | exact cl_nds _ | exact cl_tms _ | exact cl_rus _ | exact cl_eds _ | exact cl_hos _ | exact cl_tbs _ | exact cl_ses _ | exact cl_evs _ | exact cl_mp _ | exact Nat.succ_pos _ | exact pl_ints _ | exact pl_txts _ | exact pl_nds _ | exact pl_tms _ | exact pl_rus _ | exact pl_eds _ | exact pl_hos _ | exact pl_tbs _ | exact pl_ses _ | exact pl_evs _ | with_reducible refine tl_f ?_)); all_goals (try first | rfl | assumption | exact q.symm | omega | (rw [IntKind.wrap_i64]; omega) | (simp; done) | (simp; omega))
  all_goals first
    | (simp [mkZHos]; done)
    | (dsimp only; rw [take_end rfl hl])
    | (have e := mkHos_get k x i hi; rw [← hMHo1] at e; (try dsimp only); simp only [List.set_set]; refine set_take' hi hl ?_; rw [e]; rfl)
theorem heldHoldS_ok (k : Int) (x : List Ho) (hk : 0 ≤ k ∧ k + mkZHos x < 2 ^ 62) : FC Tryz.prog 48 [(false, [hos (mkHos k x)]), (false, [iL k])] [] [(false, [.f (iL (k + mkZHos x))])] := by
  have hl := mkHos_len k x
  have hzl := mkZHos_ge x
  refine gr Tryz.func48 Tryz.ntmps48 trivial ?_
  (refine ⟨fun m es hs => ∃ (i : Nat) (K : Int), (m + i = x.length) ∧ (K = k + mkZHos (x.take i)) ∧ es = [(5, .val false [.f (iL i)]), (0, .val false [.f (hos (mkHos k x))]), (1, .val false [.f (iL K)])] ∧ hs = [], ⟨x.length, [], [], _, _, ⟨rfl, ?_, ?_⟩, 0, k, ?_, ?_, rfl, rfl⟩, ?_⟩; rotate_left 4; rintro m _ _ ⟨i, K, hHHo0, hHHo1, rfl, rfl⟩; refine nx ?_)
  refine ⟨fun h => nx ?_, fun h => nx ?_⟩
  have hi : i < x.length := by rw [List.length_map, hl] at h; omega
  have hz := mkZHos_take hi
  have hz2 := mkZHos_le x (i + 1)
  have hc : mkCHo x[i] = 3 := rfl
  have hK : 0 ≤ K ∧ K + mkCHo x[i] < 2 ^ 62 := by omega
  have w0 : IntKind.i64.wrap (K + 1) = K + 1 := (wrap_id (by omega)).trans (by omega)
  have w1 : IntKind.i64.wrap (K + 1 + 1) = K + 2 := (wrap_id (by omega)).trans (by omega)
  have w2 : IntKind.i64.wrap (K + 2 + 1) = K + 3 := (wrap_id (by omega)).trans (by omega)
  have he := mkHos_get k x i hi
  rw [← hHHo1] at he
  have he2 : ((mkHos k x).map hoL)[i]? = some (hoL (mkHo K x[i])) := by rw [List.getElem?_map, List.getElem?_eq_getElem (by omega), he]; rfl
  refine ⟨(i, hoL (mkHo K x[i])), ⟨rfl, he2⟩, nx ?_⟩
  refine ⟨fun h => absurd rfl h, fun h => nx ?_⟩
  rw [w0]
  refine ⟨(i, hoL (mkHo K x[i])), ⟨rfl, he2⟩, nx ?_⟩
  refine ⟨fun h => absurd rfl h, fun h => nx ?_⟩
  rw [w1]
  refine ⟨(i, hoL (mkHo K x[i])), ⟨rfl, he2⟩, nx ?_⟩
  refine ⟨fun h => absurd rfl h, fun h => nx ?_⟩
  rw [w2]
  (refine ⟨m - 1, [], [], [(5, .val false [.f (iL (i + 1))]), (0, .val false [.f (hos (mkHos k x))]), (1, .val false [.f (iL (K + 3))])], [], by omega, ⟨rfl, ?_, ?_⟩, (i + 1), (K + 3), ?_, ?_, rfl, rfl⟩; rotate_left 4)
  have hi : i = x.length := by rw [List.length_map, hl] at h; omega
  subst hi
  rw [List.take_length] at hHHo1
  (refine ⟨[], [], ?_⟩; rotate_left)
  all_goals try exact don
  all_goals (simp [mkZHos]; done)
def mkSe (k : Int) (x : Se) : Se := ⟨k, k + 1, k + 2, ⟨k + 3, k + 4, mkNs (k + 5) x.copy.nodes⟩⟩
def mkCSe (x : Se) : Nat := 5 + mkZ x.copy.nodes
def mkSes : Int → List Se → List Se
  | _, [] => []
  | k, n :: l => mkSe k n :: mkSes (k + mkCSe n) l
theorem mkSes_len : ∀ (k : Int) (l : List Se), (mkSes k l).length = l.length
  | _, [] => rfl
  | k, n :: l => congrArg (· + 1) (mkSes_len _ l)
attribute [local simp] mkSes_len
def mkEv (k : Int) (x : Ev) : Ev := ⟨k, k + 1, k + 2⟩
def mkCEv (x : Ev) : Nat := 3
def mkEvs : Int → List Ev → List Ev
  | _, [] => []
  | k, n :: l => mkEv k n :: mkEvs (k + mkCEv n) l
theorem mkEvs_len : ∀ (k : Int) (l : List Ev), (mkEvs k l).length = l.length
  | _, [] => rfl
  | k, n :: l => congrArg (· + 1) (mkEvs_len _ l)
attribute [local simp] mkEvs_len
theorem markTable_ok (x : Tb) (k : Int) (hk : 0 ≤ k ∧ k + (mkZHos x.holds + mkZHos x.waits : Nat) < 2 ^ 62) : GCalls Tryz.prog 25 [(1, some ⟨0, 3, x.holds.map hoW⟩), (2, some ⟨0, 3, x.waits.map hoW⟩)] [(true, [.row 1 0 x.holds.length, .row 2 0 x.waits.length]), (false, [.f (iL k)])] [(1, some ⟨0, 3, (mkHos (k) x.holds).map hoW⟩), (2, some ⟨0, 3, (mkHos (k + mkZHos x.holds) x.waits).map hoW⟩)] [(false, [.f (iL (k + mkZHos x.holds + mkZHos x.waits))])] := by
  have c0 := markHoldS_ok x.holds (k) (by omega)
  have c1 := markHoldS_ok x.waits (k + mkZHos x.holds) (by omega)
  refine gr Tryz.func25 Tryz.ntmps25 (⟨cl_hos _, cl_hos _, trivial⟩) ?_
  refine ⟨⟨false, [(1, 1)], _, _, _, _⟩, c0, cd ?_⟩
  refine ⟨⟨false, [(1, 2)], _, _, _, _⟩, c1, cd ?_⟩
  exact ⟨[], [], don⟩
theorem heldTable_ok (x : Tb) (k : Int) (hk : 0 ≤ k ∧ k + (mkZHos x.holds + mkZHos x.waits : Nat) < 2 ^ 62) : FC Tryz.prog 27 [(true, [hos (mkHos (k) x.holds), hos (mkHos (k + mkZHos x.holds) x.waits)]), (false, [iL k])] [] [(false, [.f (iL (k + mkZHos x.holds + mkZHos x.waits))])] := by
  have c0 := heldHoldS_ok (k) x.holds (by omega)
  have c1 := heldHoldS_ok (k + mkZHos x.holds) x.waits (by omega)
  refine gr Tryz.func27 Tryz.ntmps27 trivial ?_
  refine ⟨([], _), c0, nx ?_⟩
  refine ⟨fun h => absurd h (by omega), fun h => nx ?_⟩
  refine ⟨([], _), c1, nx ?_⟩
  refine ⟨fun h => absurd h (by omega), fun h => nx ?_⟩
  exact ⟨[], [], don⟩
end Go.Proofs.YtecnmodeggnjoaaGreat.Ac
set_option linter.unusedVariables false
set_option linter.unusedSimpArgs false
set_option maxRecDepth 20000
set_option maxHeartbeats 40000000
namespace Go.Proofs.YtecnmodeggnjoaaGreat.Ac
open Go.RowKit
attribute [local simp] mkI_len mkNs_len mkHos_len
theorem get_takeT {a b u : List Ho} {i : Nat} (hi : i < b.length) (hab : a.length = b.length) : (((a.take i) ++ b.drop i ++ u).map hoW)[i]? = some (hoW b[i]) := by
  rw [List.map_append, List.getElem?_append_left (by simp; omega)]; exact get_take hi hab
theorem set_takeT {a b u : List Ho} {i : Nat} {y : List A} (hi : i < b.length) (hab : a.length = b.length) (hy : y = hoW a[i]) : (((a.take i) ++ b.drop i ++ u).map hoW).set i y = ((a.take (i + 1)) ++ b.drop (i + 1) ++ u).map hoW := by
  rw [List.map_append, List.set_append_left _ _ (by simp; omega), set_take' hi hab hy, ← List.map_append]
theorem markHoT_ok (x u : List Ho) (k : Int) (hk : 0 ≤ k ∧ k + mkZHos x < 2 ^ 62) : GCalls Tryz.prog 47 [(1, some ⟨0, 3, (x ++ u).map hoW⟩)] [(false, [.row 1 0 x.length]), (false, [.f (iL k)])] [(1, some ⟨0, 3, (mkHos k x ++ u).map hoW⟩)] [(false, [.f (iL (k + mkZHos x))])] := by
  have hl := mkHos_len k x
  have hzl := mkZHos_ge x
  have q0 : (x ++ u).map hoW = ((mkHos k x).take 0 ++ x.drop 0 ++ u).map hoW := by simp
  have q1 : k = k + (mkZHos (x.take 0) : Nat) := by simp [mkZHos]
  refine gr Tryz.func47 Tryz.ntmps47 (⟨cl_hos _, trivial⟩) ?_
  (refine ⟨fun m es hs => ∃ (i : Nat) (K : Int), (m + i = x.length) ∧ (K = k + mkZHos (x.take i)) ∧ es = [(5, .val false [.f (iL i)]), (0, .val false [.row 1 0 x.length]), (1, .val false [.f (iL K)])] ∧ hs = [(1, some ⟨0, 3, ((mkHos k x).take i ++ x.drop i ++ u).map hoW⟩)], ⟨x.length, [], [], _, _, don, 0, k, don, don, rfl, rfl⟩, ?_⟩; rintro m _ _ ⟨i, K, hMHT0, hMHT1, rfl, rfl⟩; refine nx ?_)
  refine ⟨fun h => nx ?_, fun h => nx ?_⟩
  have hi : i < x.length := by simpa using h
  have hz := mkZHos_take hi
  have hz2 := mkZHos_le x (i + 1)
  have hc : mkCHo x[i] = 3 := rfl
  have hK : 0 ≤ K ∧ K + mkCHo x[i] < 2 ^ 62 := by omega
  have w0 : IntKind.i64.wrap (K + 1) = K + 1 := (wrap_id (by omega)).trans (by omega)
  have w1 : IntKind.i64.wrap (K + 1 + 1) = K + 2 := (wrap_id (by omega)).trans (by omega)
  have w2 : IntKind.i64.wrap (K + 2 + 1) = K + 3 := (wrap_id (by omega)).trans (by omega)
  have e := mkHos_get k x i hi
  rw [← hMHT1] at e
  refine ⟨i, ⟨rfl, hi⟩, nx ?_⟩
  refine ⟨hoW x[i], get_takeT hi hl, nx ?_⟩
  rw [w0]
  refine ⟨i, ⟨rfl, hi⟩, nx ?_⟩
  refine ⟨_, List.getElem?_set_self (by simp; omega), nx ?_⟩
  rw [w1]
  refine ⟨i, ⟨rfl, hi⟩, nx ?_⟩
  refine ⟨_, List.getElem?_set_self (by simp; omega), nx ?_⟩
  rw [w2]
  simp only [List.set_set]
  have q : K + 3 = k + (mkZHos (x.take (i + 1)) : Nat) := by omega
  rw [set_takeT hi hl (by rw [e]; rfl)]
  exact ⟨m - 1, [], [], _, _, by omega, don, (i + 1), (K + 3), don, don, rfl, rfl⟩
  have hi : i = x.length := by have := Int.not_lt.1 h; omega
  subst hi
  rw [List.take_length] at hMHT1
  rw [take_end rfl hl]
  exact ⟨[], [], don⟩
theorem markTabT_ok (x : Tb) (u v : List Ho) (k : Int) (hk : 0 ≤ k ∧ k + (mkZHos x.holds + mkZHos x.waits : Nat) < 2 ^ 62) : GCalls Tryz.prog 25 [(1, some ⟨0, 3, (x.holds ++ u).map hoW⟩), (2, some ⟨0, 3, (x.waits ++ v).map hoW⟩)] [(true, [.row 1 0 x.holds.length, .row 2 0 x.waits.length]), (false, [.f (iL k)])]
    [(1, some ⟨0, 3, (mkHos (k) x.holds ++ u).map hoW⟩), (2, some ⟨0, 3, (mkHos (k + mkZHos x.holds) x.waits ++ v).map hoW⟩)] [(false, [.f (iL (k + mkZHos x.holds + mkZHos x.waits))])] := by
  have c0 := markHoT_ok x.holds u (k) (by omega)
  have c1 := markHoT_ok x.waits v (k + mkZHos x.holds) (by omega)
  refine gr Tryz.func25 Tryz.ntmps25 (⟨cl_hos _, cl_hos _, trivial⟩) ?_
  refine ⟨⟨false, [(1, 1)], _, _, _, _⟩, c0, cd ?_⟩
  refine ⟨⟨false, [(1, 2)], _, _, _, _⟩, c1, cd ?_⟩
  exact ⟨[], [], don⟩
end Go.Proofs.YtecnmodeggnjoaaGreat.Ac
set_option linter.unusedVariables false
set_option linter.unusedSimpArgs false
set_option maxRecDepth 20000
set_option maxHeartbeats 40000000
namespace Go.Proofs.YtecnmodeggnjoaaGreat.Ac
open Go.RowKit
attribute [local simp] mkI_len mkNs_len mkHos_len
theorem szNs_kids {l : List Nd} {n : Nd} (h : n ∈ l) : n.kids.length ≤ szNs l := by have := szN_le h; unfold szN at this; omega
theorem tbG_of {d : Dc} {t : Tb} (hd : DcIn d) (ht : TbIn t) (h1 : szD d ≤ 2 ^ 20) (h2 : szTb t ≤ 2 ^ 20) : TbG d t := by
  unfold szD at h1
  unfold szTb at h2
  exact ⟨⟨hd.1, fun n hn k hk => (hd.2.2.2 n hn).2.2.2.2.2 k hk⟩, by omega, by omega, by omega, fun x hx => (ht.1.2 x hx).2.1, fun x hx => (ht.2.2 x hx).2.1⟩
theorem set_le {d : Dc} : ∀ (n : Nat) (t : Tb) (k : Nat), setN t k < n → t.holds.length ≤ 30 → (setK d t k).1.holds.length ≤ 30
  | 0, _, _, h, _ => by omega
  | n + 1, t, k, h, ht => by
    by_cases hk : k < t.waits.length
    · have a := setN_grant hk
      have b := setN_next hk
      by_cases hf : freeP d t k
      · rw [setK_free hk hf]
        refine set_le n (grant t k) 0 (by omega) ?_
        obtain ⟨_, h1, _⟩ := hf
        show (putF t.holds (t.waits.getD k zHo')).length ≤ 30
        rw [show t.waits.getD k zHo' = t.waits[k] by simp [hk]]; exact h1
      · rw [setK_next hk hf]; exact set_le n t (k + 1) (by omega) ht
    · rw [setK_end (by omega)]; exact ht
end Go.Proofs.YtecnmodeggnjoaaGreat.Ac
set_option linter.unusedVariables false
set_option linter.unusedSimpArgs false
set_option maxRecDepth 20000
set_option maxHeartbeats 20000000
namespace Go.Proofs.YtecnmodeggnjoaaGreat.Ac
open Go.RowKit
theorem askT_h (t : Tb) (y : Ho) : (askT t y).holds = t.holds := rfl
theorem askT_w (t : Tb) (y : Ho) : (askT t y).waits = t.waits ++ [y] := rfl
attribute [local simp] askT_h askT_w
theorem l08Lock_ok (d : Dc) (hd : DOK d) (t : Tb) (ht : TabP d t) (y : Ho) (k1 : (ndAt d.nodes y.node).isSome) (k2 : 1 ≤ y.mode ∧ y.mode ≤ 5) (k3 : waitF t y.session < 0) : FC Tryz.prog 98 [(true, dcL d), (true, tbL t), (true, hoL y)]
    [(1000, some ⟨0, 1, ((lkF d t y).2.1.map (·.session)).map intW⟩), (1001, some ⟨0, 1, (lkF d t y).2.2.1.map intW⟩)] [(true, [.f (hos (lkF d t y).1.holds), .f (hos (lkF d t y).1.waits)]), (false, [.row 1000 0 (lkF d t y).2.1.length]), (false, [.row 1001 0 (lkF d t y).2.2.1.length]), (false, [.f (iL (lkF d t y).2.2.2)])] := by
  have h1 := ht.1.1
  have h2 := ht.2.1
  have hG := ht.g
  have hmy : Md y.mode := by unfold Md; omega
  have ho := l07Own_ok t.holds y.session y.node (by omega)
  have hj := l07Join_ok (ownF t.holds y.session y.node) y.mode
  have hom : Md (ownF t.holds y.session y.node) := own_md hG.hg.md
  have hp := l07Put_ok t.holds y hG.rise hmy (by omega)
  by_cases k4 : joinM (ownF t.holds y.session y.node) y.mode = ownF t.holds y.session y.node
  · have k6 : 0 < ownF t.holds y.session y.node := by
      rcases Int.lt_or_le 0 (ownF t.holds y.session y.node) with h | h
      · exact h
      · have e : ownF t.holds y.session y.node = 0 := by unfold Md at hom; omega
        rw [e, zero_join hmy] at k4
        omega
    have e1 : lkF d t y = (t, [], [], 0) := by unfold lkF; rw [if_pos k4]
    rw [e1]
    dsimp only
    refine gr Tryz.func98 Tryz.ntmps98 (⟨trivial, trivial, trivial⟩) ?_
    refine ⟨([], _), ho, nx ?_⟩
    refine ⟨fun h => nx ?_, fun h => absurd h (by omega)⟩
    refine ⟨([], _), hj, nx ?_⟩
    refine ⟨fun h => nx ?_, fun h => absurd h (fun w => w k4)⟩
    exact ⟨[], [(1000, 544), (1001, 560)], don⟩
  by_cases k5 : (putF t.holds y).length > 30 ∨ t.waits.length = 6
  · have e1 : lkF d t y = (t, [], [], 7) := by unfold lkF; rw [if_neg k4, if_pos k5]
    rw [e1]
    dsimp only
    refine gr Tryz.func98 Tryz.ntmps98 (⟨trivial, trivial, trivial⟩) ?_
    refine ⟨([], _), ho, nx ?_⟩
    by_cases k6 : 0 < ownF t.holds y.session y.node
    · refine ⟨fun h => nx ?_, fun h => absurd h (by omega)⟩
      refine ⟨([], _), hj, nx ?_⟩
      refine ⟨fun h => absurd h (k4), fun h => nx ?_⟩
      refine ⟨(_, _), hp, nx ?_⟩
      by_cases k7 : (putF t.holds y).length > 30
      · refine ⟨fun h => nx ?_, fun h => absurd h (by omega)⟩
        exact ⟨[], [(1000, 784), (1001, 800)], don⟩
      · have k8 := k5.resolve_left k7
        refine ⟨fun h => absurd h (by omega), fun h => nx ?_⟩
        refine ⟨fun h => nx ?_, fun h => absurd h (by simp; omega)⟩
        exact ⟨[], [(1000, 784), (1001, 800)], don⟩
    · refine ⟨fun h => absurd h (by omega), fun h => nx ?_⟩
      refine ⟨(_, _), hp, nx ?_⟩
      by_cases k7 : (putF t.holds y).length > 30
      · refine ⟨fun h => nx ?_, fun h => absurd h (by omega)⟩
        exact ⟨[], [(1000, 784), (1001, 800)], don⟩
      · have k8 := k5.resolve_left k7
        refine ⟨fun h => absurd h (by omega), fun h => nx ?_⟩
        refine ⟨fun h => nx ?_, fun h => absurd h (by simp; omega)⟩
        exact ⟨[], [(1000, 784), (1001, 800)], don⟩
  have e1 : lkF d t y = ((setK d (vcT d t y) 0).1, (setK d (vcT d t y) 0).2, vcV d t y, if y.session ∈ vcV d t y then 15 else if waitF (setK d (vcT d t y) 0).1 y.session < 0 then 0 else 14) := by unfold lkF; rw [if_neg k4, if_neg k5]
  have hcode := ask_code (d := d) ht.2 k3
  rw [e1]
  dsimp only
  have hT := ask_tabG hG (by omega) k1 hmy
  have q0 : vcT d t y = vicK d y.session fT (askT t y) (askT t y) := rfl
  have q1 : vcV d t y = vicK d y.session fV (askT t y) [] := rfl
  have q4 : (askT t y).waits.length = t.waits.length + 1 := by show (t.waits ++ [y]).length = _; simp
  refine gr Tryz.func98 Tryz.ntmps98 (⟨cl_ints _, cl_ints _, trivial⟩) ?_
  refine ⟨([], _), ho, nx ?_⟩
  by_cases k6 : 0 < ownF t.holds y.session y.node
  refine ⟨fun h => nx ?_, fun h => absurd h (by omega)⟩
  refine ⟨([], _), hj, nx ?_⟩
  refine ⟨fun h => absurd h (k4), fun h => nx ?_⟩
  rotate_left
  refine ⟨fun h => absurd h (by omega), fun h => nx ?_⟩
  all_goals (
    refine ⟨(_, _), hp, nx ?_⟩
    refine ⟨fun h => absurd h (by omega), fun h => nx ?_⟩
    refine ⟨fun h => absurd h (by simp; omega), fun h => nx ?_⟩
    refine ⟨(_, _), l08Own_ok t (by omega) (by omega), nx ?_⟩
    refine ⟨(t.waits ++ [y]).map hoW, ⟨app_one hoW t.waits y, by simp; omega⟩, nx ?_⟩
    refine ⟨⟨true, [], _, _, _, _⟩, l08Circle_ok d hd (askT t y) hT y.session, cd ?_⟩
    (refine ⟨fun m es hs => ∃ (T : Tb) (vs : List Int), (m = T.waits.length) ∧ (vcT d t y = vicK d y.session fT T T) ∧ (vcV d t y = vicK d y.session fV T vs) ∧ (TabG d T) ∧ (vs.length + T.waits.length ≤ 7) ∧ es = [(13, .val false [.row 7 0 (circF d T y.session).length]), (12, .val false [.row 6 0 vs.length]), (11, .val false [.pt 192 0 0]), (6, .val false [.pt 112 0 0]), (5, .val false [.pt 96 0 0]), (3, .val false [.pt 64 0 0])] ∧ hs = [(64, some ⟨3, 3, [(dcL d).map .f]⟩), (96, some ⟨3, 3, [(hoL y).map .f]⟩), (112, some ⟨3, 2, [[.nl, .nl]]⟩), (192, some ⟨3, 2, [(tbL T).map .f]⟩), (6, some ⟨0, 1, vs.map intW⟩), (7, some ⟨0, 1, (circF d T y.session).map intW⟩)], ⟨(askT t y).waits.length, [], [(6, 944), (7, 1024)], _, _, don, (askT t y), ([]), don, don, don, don, don, rfl, rfl⟩, ?_⟩; rintro m _ _ ⟨T, vs, hLCK0, hLCK1, hLCK2, hLCK3, hLCK4, rfl, rfl⟩; refine nx ?_)
    have hgl := hLCK3.hg.len
    have hgw := hLCK3.wl
    have hcl : (circF d T y.session).length < 2 ^ 62 := Nat.lt_of_le_of_lt (List.length_filter_le _ _) (by rw [sortI_len]; exact reach_len d hLCK3 _)
    by_cases hc : circF d T y.session = []
    · rw [vic_end hc] at hLCK1 hLCK2
      rw [hLCK1, hLCK2] at hcode
      rw [hLCK1, hLCK2]
      have hR := setK_tabG (d := d) (setN T 0 + 1) T 0 (Nat.lt_succ_self _) hLCK3
      have hGl : ((setK d T 0).2.map (·.session)).length < 2 ^ 62 := by rw [List.length_map]; omega
      refine ⟨fun h => absurd h (by rw [hc]; simp), fun h => nx ?_⟩
      refine ⟨(_, _), l08Settle_ok d hd T hLCK3, nx ?_⟩
      have hcn := l02Has_ok vs y.session (by omega)
      have hcg := l02Has_ok ((setK d T 0).2.map (·.session)) y.session hGl
      by_cases k7 : y.session ∈ vs
      · rw [if_pos k7]
        refine ⟨⟨true, [], _, _, _, _⟩, hcn.t k7, cd ?_⟩
        exact ⟨[], [(1000, 1488), (1001, 6)], don⟩
      · rw [if_neg k7]
        refine ⟨⟨true, [], _, _, _, _⟩, hcn.n k7, cd ?_⟩
        by_cases k8 : y.session ∈ (setK d T 0).2.map (·.session)
        · rw [if_pos ((hcode k7).2 k8)]
          refine ⟨⟨true, [], _, _, _, _⟩, hcg.t k8, cd ?_⟩
          exact ⟨[], [(1000, 1488), (1001, 6)], don⟩
        · rw [if_neg fun w => k8 ((hcode k7).1 w)]
          refine ⟨⟨true, [], _, _, _, _⟩, hcg.n k8, cd ?_⟩
          exact ⟨[], [(1000, 1488), (1001, 6)], don⟩
    · have hlt := vic_lt hc
      have hp := List.length_pos_iff.2 hc
      rw [vic_step hc] at hLCK1 hLCK2
      have hi : (circF d T y.session).length - 1 < (circF d T y.session).length := by omega
      have hx : (circF d T y.session)[(circF d T y.session).length - 1] = vicA d T y.session := by unfold vicA; rw [List.getLastD_eq_getLast?, List.getLast?_eq_getElem?, List.getElem?_eq_getElem hi]; rfl
      have hg : ((circF d T y.session).map intW)[(circF d T y.session).length - 1]? = some (intW (vicA d T y.session)) := by rw [List.getElem?_map, List.getElem?_eq_getElem hi, hx]; rfl
      have q6 : (vs ++ [vicA d T y.session]).length + (leaveF T (vicA d T y.session)).waits.length ≤ 7 := by simp; omega
      have hTG := leave_tabG (vicA d T y.session) hLCK3
      refine ⟨fun h => nx ?_, fun h => absurd h (by omega)⟩
      refine ⟨(circF d T y.session).length - 1, ⟨by rw [IntKind.wrap_i64]; omega, hi⟩, nx ?_⟩
      refine ⟨intW (vicA d T y.session), hg, nx ?_⟩
      refine ⟨(vs ++ [vicA d T y.session]).map intW, ⟨app_one intW vs (vicA d T y.session), by simp; omega⟩, nx ?_⟩
      refine ⟨(circF d T y.session).length - 1, ⟨by rw [IntKind.wrap_i64]; omega, hi⟩, nx ?_⟩
      refine ⟨intW (vicA d T y.session), hg, nx ?_⟩
      refine ⟨([], _), l08Without_ok T (vicA d T y.session) (by omega) (by omega), nx ?_⟩
      refine ⟨(_, _), l08Circle_ok d hd (leaveF T (vicA d T y.session)) hTG y.session, nx ?_⟩
      exact ⟨(leaveF T (vicA d T y.session)).waits.length, [], [(6, 1296), (7, 1152)], _, _, by omega, don, (leaveF T (vicA d T y.session)), (vs ++ [vicA d T y.session]), don, don, don, don, don, rfl, rfl⟩)
end Go.Proofs.YtecnmodeggnjoaaGreat.Ac
