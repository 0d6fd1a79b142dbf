/- Several of our texts, one behind the other, without what this claim does not need: Lb, Lh, Tc. -/
import Derived.Test.YtecnmodeggnjoaaGreatZe2002630
import Derived.Test.YtecnmodeggnjoaaGreatZ55e71a28
import Derived.Test.YtecnmodeggnjoaaGreatZ166ed640
import Derived.Test.YtecnmodeggnjoaaGreatZc78cb4ad
import Derived.Test.YtecnmodeggnjoaaGreatZ9354350e
import Derived.Test.YtecnmodeggnjoaaGreatZaa953d4f
set_option linter.unusedVariables false
set_option linter.unusedSimpArgs false
set_option maxRecDepth 20000
set_option maxHeartbeats 20000000
namespace Go.Proofs.YtecnmodeggnjoaaGreat.Ac
open Go.RowKit
theorem compatible_ok (a b : Int) : FC Tryz.prog 319 [(false, [iL a]), (false, [iL b])] [] [(false, [.f (bL (dB (fitP a b)))])] := by
  by_cases q0 : fitP a b
  · have q : dB (fitP a b) = true := dB_yes q0
    refine gr Tryz.func319 Tryz.ntmps319 trivial ?_
    (repeat' (apply And.intro <;> intro h <;> refine nx ?_)); (all_goals refine ⟨[], [], ?_⟩)
    all_goals first | exact don | (exfalso; unfold fitP at q0; omega)
  · have q : dB (fitP a b) = false := dB_no q0
    refine gr Tryz.func319 Tryz.ntmps319 trivial ?_
    (repeat' (apply And.intro <;> intro h <;> refine nx ?_)); (all_goals refine ⟨[], [], ?_⟩)
    all_goals first | exact don | (exfalso; unfold fitP at q0; omega)
theorem l07Fits_le (a b : Int) (h : a ≤ b) (h0 : 0 ≤ a) : FC Tryz.prog 311 [(false, [iL a]), (false, [iL b])] [] [(false, [.f (bL (dB (fitP a b)))])] := by
  by_cases k : a = 0
  · have q : dB (fitP a b) = true := dB_yes (by unfold fitP; omega)
    refine gr Tryz.func311 Tryz.ntmps311 trivial ?_
    refine ⟨fun h => nx ?_, fun h => absurd h (fun w => w k)⟩
    exact ⟨[], [], don⟩
  by_cases q0 : fitP a b
  · have q : dB (fitP a b) = true := dB_yes q0
    refine gr Tryz.func311 Tryz.ntmps311 trivial ?_
    refine ⟨fun h => absurd h (k), fun h => nx ?_⟩
    refine ⟨fun h => absurd h (by omega), fun h => nx ?_⟩
    refine ⟨fun h => absurd h (by omega), fun h => nx ?_⟩
    (repeat' (apply And.intro <;> intro h <;> refine nx ?_)); (all_goals refine ⟨[], [], ?_⟩)
    all_goals first | exact don | (exfalso; unfold fitP at q0; omega)
  · have q : dB (fitP a b) = false := dB_no q0
    refine gr Tryz.func311 Tryz.ntmps311 trivial ?_
    refine ⟨fun h => absurd h (k), fun h => nx ?_⟩
    refine ⟨fun h => absurd h (by omega), fun h => nx ?_⟩
    refine ⟨fun h => absurd h (by omega), fun h => nx ?_⟩
    (repeat' (apply And.intro <;> intro h <;> refine nx ?_)); (all_goals refine ⟨[], [], ?_⟩)
    all_goals first | exact don | (exfalso; unfold fitP at q0; omega)
theorem l07Fits_ok (a b : Int) (ha : 0 ≤ a) (hb : 0 ≤ b) : FC Tryz.prog 311 [(false, [iL a]), (false, [iL b])] [] [(false, [.f (bL (dB (fitP a b)))])] := by
  by_cases k : a ≤ b
  · exact l07Fits_le a b k ha
  have hl := l07Fits_le b a (by omega) hb
  by_cases k2 : b = 0
  · have q : dB (fitP a b) = true := dB_yes (by unfold fitP; omega)
    refine gr Tryz.func311 Tryz.ntmps311 trivial ?_
    refine ⟨fun h => absurd h (by omega), fun h => nx ?_⟩
    refine ⟨fun h => nx ?_, fun h => absurd h (fun w => w k2)⟩
    exact ⟨[], [], don⟩
  · have q : dB (fitP b a) = dB (fitP a b) := by rw [show fitP b a = fitP a b from propext fit_symm]
    refine gr Tryz.func311 Tryz.ntmps311 trivial ?_
    refine ⟨fun h => absurd h (by omega), fun h => nx ?_⟩
    refine ⟨fun h => absurd h (k2), fun h => nx ?_⟩
    refine ⟨fun h => nx ?_, fun h => absurd h (by omega)⟩
    refine ⟨([], _), hl, nx ?_⟩
    exact ⟨[], [], don⟩
theorem joined_ok (a b : Int) : FC Tryz.prog 179 [(false, [iL a]), (false, [iL b])] [] [(false, [.f (iL (joinM a b))])] := by
  by_cases q0 : min a b = 2 ∧ max a b = 3
  · have q : joinM a b = 4 := by unfold joinM; rw [if_pos q0]
    refine gr Tryz.func179 Tryz.ntmps179 trivial ?_
    (repeat' (apply And.intro <;> intro h <;> refine nx ?_)); (all_goals refine ⟨[], [], ?_⟩)
    all_goals first | exact don | (exfalso; omega)
  · have q : joinM a b = max a b := by unfold joinM; rw [if_neg q0]
    refine gr Tryz.func179 Tryz.ntmps179 trivial ?_
    (repeat' (apply And.intro <;> intro h <;> refine nx ?_)); (all_goals refine ⟨[], [], ?_⟩)
    all_goals first | exact don | (exfalso; omega)
theorem l07Join_le (a b : Int) (h : a ≤ b) : FC Tryz.prog 176 [(false, [iL a]), (false, [iL b])] [] [(false, [.f (iL (joinM a b))])] := by
  by_cases q0 : a = 2 ∧ b = 3
  · have q : joinM a b = 4 := by unfold joinM; rw [if_pos (by omega)]
    refine gr Tryz.func176 Tryz.ntmps176 trivial ?_
    refine ⟨fun h => absurd h (by omega), fun h => nx ?_⟩
    refine ⟨fun h => nx ?_, fun h => absurd h (fun w => w q0.1)⟩
    refine ⟨fun h => nx ?_, fun h => absurd h (fun w => w q0.2)⟩
    exact ⟨[], [], don⟩
  · have q : joinM a b = b := by unfold joinM; rw [if_neg (by omega)]; omega
    refine gr Tryz.func176 Tryz.ntmps176 trivial ?_
    refine ⟨fun h => absurd h (by omega), fun h => nx ?_⟩
    (repeat' (apply And.intro <;> intro h <;> refine nx ?_)); (all_goals refine ⟨[], [], ?_⟩)
    all_goals first | exact don | (exfalso; omega)
theorem l07Join_ok (a b : Int) : FC Tryz.prog 176 [(false, [iL a]), (false, [iL b])] [] [(false, [.f (iL (joinM a b))])] := by
  by_cases k : a ≤ b
  · exact l07Join_le a b k
  have hl := l07Join_le b a (by omega)
  rw [join_comm] at hl
  refine gr Tryz.func176 Tryz.ntmps176 trivial ?_
  refine ⟨fun h => nx ?_, fun h => absurd h (by omega)⟩
  refine ⟨([], _), hl, nx ?_⟩
  exact ⟨[], [], don⟩
theorem intent_ok (m : Int) : FC Tryz.prog 339 [(false, [iL m])] [] [(false, [.f (iL (intM m))])] := by
  refine gr Tryz.func339 Tryz.ntmps339 trivial ?_
  (repeat' (apply And.intro <;> intro h <;> refine nx ?_)); (all_goals refine ⟨[], [], ?_⟩)
  all_goals (have q := (rfl : intM m = intM m); unfold intM at q; split at q <;> (try split at q) <;> first | (exfalso; omega) | (unfold intM; simp [*]; exact don) | skip)
theorem l07Intent_ok (m : Int) : FC Tryz.prog 211 [(false, [iL m])] [] [(false, [.f (iL (intM m))])] := by
  refine gr Tryz.func211 Tryz.ntmps211 trivial ?_
  (repeat' (apply And.intro <;> intro h <;> refine nx ?_)); (all_goals refine ⟨[], [], ?_⟩)
  all_goals (have q := (rfl : intM m = intM m); unfold intM at q; split at q <;> (try split at q) <;> first | (exfalso; omega) | (unfold intM; simp [*]; exact don) | skip)
theorem isSession_ok (n : Int) : FC Tryz.prog 171 [(false, [iL n])] [] [(false, [.f (bL (decide (1 ≤ n ∧ n ≤ 999)))])] := by
  refine gr Tryz.func171 Tryz.ntmps171 trivial ?_
  refine ⟨([], _), within_ok n 1 999, nx ?_⟩
  exact ⟨[], [], don⟩
theorem isMode_ok (n low : Int) : FC Tryz.prog 178 [(false, [iL n]), (false, [iL low])] [] [(false, [.f (bL (decide (low ≤ n ∧ n ≤ 5)))])] := by
  refine gr Tryz.func178 Tryz.ntmps178 trivial ?_
  refine ⟨([], _), within_ok n low 5, nx ?_⟩
  exact ⟨[], [], don⟩
theorem l07Mode_ok (n : Int) : FC Tryz.prog 96 [(false, [iL n])] [] [(false, [.f (bL (decide (1 ≤ n ∧ n ≤ 5)))])] := by
  refine gr Tryz.func96 Tryz.ntmps96 trivial ?_
  refine ⟨([], _), l01In_ok n 1 5, nx ?_⟩
  exact ⟨[], [], don⟩
theorem isHold_ok (d : Dc) (hd : DOK d) (h : Ho) (h64 : I64 h.node) : FC Tryz.prog 164 [(false, [.pv (dcL d)]), (true, hoL h)] [] [(false, [.f (bL (dB (holdP d h)))])] := by
  have hf := has_ok d h.node hd.rise h64 (by have := hd.len; omega)
  by_cases k1 : 1 ≤ h.session ∧ h.session ≤ 999
  case neg =>
    have q : dB (holdP d h) = false := dB_no fun w => k1 w.1
    refine gr Tryz.func164 Tryz.ntmps164 trivial ?_
    refine ⟨([], _), (isSession_ok _).n k1, nx ?_⟩
    exact ⟨[], [], don⟩
  cases k2 : (ndAt d.nodes h.node).isSome with
  | false =>
    rw [k2] at hf
    have q : dB (holdP d h) = false := dB_no fun w => by have := w.2.1; rw [k2] at this; cases this
    refine gr Tryz.func164 Tryz.ntmps164 trivial ?_
    refine ⟨([], _), (isSession_ok _).t k1, nx ?_⟩
    refine ⟨([], _), hf, nx ?_⟩
    exact ⟨[], [], don⟩
  | true =>
    rw [k2] at hf
    by_cases k3 : 1 ≤ h.mode ∧ h.mode ≤ 5
    · have q : dB (holdP d h) = true := dB_yes ⟨k1, k2, k3⟩
      refine gr Tryz.func164 Tryz.ntmps164 trivial ?_
      refine ⟨([], _), (isSession_ok _).t k1, nx ?_⟩
      refine ⟨([], _), hf, nx ?_⟩
      refine ⟨([], _), (isMode_ok _ _).t k3, nx ?_⟩
      exact ⟨[], [], don⟩
    · have q : dB (holdP d h) = false := dB_no fun w => k3 w.2.2
      refine gr Tryz.func164 Tryz.ntmps164 trivial ?_
      refine ⟨([], _), (isSession_ok _).t k1, nx ?_⟩
      refine ⟨([], _), hf, nx ?_⟩
      refine ⟨([], _), (isMode_ok _ _).n k3, nx ?_⟩
      exact ⟨[], [], don⟩
theorem at_iff (id : Int) : ∀ (l : List Nd) (i : Nat), 0 ≤ atFrom id i l ↔ (ndAt l id).isSome = true
  | [], i => by simp [atFrom, ndAt]
  | n :: l, i => by
    have ih := at_iff id l (i + 1)
    unfold atFrom
    by_cases k : n.id = id
    · rw [if_pos k]
      simp [ndAt, k]
    · rw [if_neg k, ih]
      unfold ndAt
      rw [List.find?_cons_of_neg (by simpa using k)]
theorem l07Hold_ok (d : Dc) (hlen : d.nodes.length < 2 ^ 62) (h : Ho) : FC Tryz.prog 243 [(true, dcL d), (true, hoL h)] [] [(false, [.f (bL (dB (holdP d h)))])] := by
  have hf := l02At_ok d h.node hlen
  have ha := at_iff h.node d.nodes 0
  by_cases k1 : 1 ≤ h.session ∧ h.session ≤ 999
  case neg =>
    have q : dB (holdP d h) = false := dB_no fun w => k1 w.1
    refine gr Tryz.func243 Tryz.ntmps243 trivial ?_
    refine ⟨([], _), in_f k1, nx ?_⟩
    exact ⟨[], [], don⟩
  by_cases k3 : 1 ≤ h.mode ∧ h.mode ≤ 5
  case neg =>
    have q : dB (holdP d h) = false := dB_no fun w => k3 w.2.2
    refine gr Tryz.func243 Tryz.ntmps243 trivial ?_
    refine ⟨([], _), in_t k1, nx ?_⟩
    refine ⟨([], _), (l07Mode_ok _).n k3, nx ?_⟩
    exact ⟨[], [], don⟩
  by_cases k2 : (ndAt d.nodes h.node).isSome = true
  · have q : dB (holdP d h) = true := dB_yes ⟨k1, k2, k3⟩
    refine gr Tryz.func243 Tryz.ntmps243 trivial ?_
    refine ⟨([], _), in_t k1, nx ?_⟩
    refine ⟨([], _), (l07Mode_ok _).t k3, nx ?_⟩
    refine ⟨([], _), hf, nx ?_⟩
    refine ⟨fun h => nx ?_, fun h => absurd h (fun w => w (ha.2 k2))⟩
    exact ⟨[], [], don⟩
  · have q : dB (holdP d h) = false := dB_no fun w => k2 w.2.1
    refine gr Tryz.func243 Tryz.ntmps243 trivial ?_
    refine ⟨([], _), in_t k1, nx ?_⟩
    refine ⟨([], _), (l07Mode_ok _).t k3, nx ?_⟩
    refine ⟨([], _), hf, nx ?_⟩
    refine ⟨fun h => absurd h (fun w => k2 (ha.1 w)), fun h => nx ?_⟩
    exact ⟨[], [], don⟩
theorem l07Less_ok (a b : Ho) : FC Tryz.prog 247 [(true, hoL a), (true, hoL b)] [] [(false, [.f (bL (dB (lessP a b)))])] := by
  by_cases q0 : lessP a b
  · have q : dB (lessP a b) = true := dB_yes q0
    refine gr Tryz.func247 Tryz.ntmps247 trivial ?_
    (repeat' (apply And.intro <;> intro h <;> refine nx ?_)); (all_goals refine ⟨[], [], ?_⟩)
    all_goals first | exact don | (exfalso; unfold lessP at q0; omega)
  · have q : dB (lessP a b) = false := dB_no q0
    refine gr Tryz.func247 Tryz.ntmps247 trivial ?_
    (repeat' (apply And.intro <;> intro h <;> refine nx ?_)); (all_goals refine ⟨[], [], ?_⟩)
    all_goals first | exact don | (exfalso; unfold lessP at q0; omega)
theorem isNaN_ok (n : Int) : FC Tryz.prog 357 [(false, [iL n])] [] [(false, [.f (bL false)])] := by
  refine gr Tryz.func357 Tryz.ntmps357 trivial ?_
  refine ⟨fun h => absurd rfl h, fun h => nx ?_⟩
  exact ⟨[], [], don⟩
def cmpF (a b : Int) : Int := if a < b then -1 else if a > b then 1 else 0
theorem compare_ok (a b : Int) : FC Tryz.prog 313 [(false, [iL a]), (false, [iL b])] [] [(false, [.f (iL (cmpF a b))])] := by
  by_cases k : a < b
  · have q : cmpF a b = -1 := by unfold cmpF; rw [if_pos k]
    refine gr Tryz.func313 Tryz.ntmps313 trivial ?_
    refine ⟨([], _), isNaN_ok a, nx ?_⟩
    refine ⟨([], _), isNaN_ok b, nx ?_⟩
    refine ⟨fun h => nx ?_, fun h => absurd h (by omega)⟩
    exact ⟨[], [], don⟩
  by_cases k2 : a > b
  · have q : cmpF a b = 1 := by unfold cmpF; rw [if_neg k, if_pos k2]
    refine gr Tryz.func313 Tryz.ntmps313 trivial ?_
    refine ⟨([], _), isNaN_ok a, nx ?_⟩
    refine ⟨([], _), isNaN_ok b, nx ?_⟩
    refine ⟨fun h => absurd h (by omega), fun h => nx ?_⟩
    refine ⟨fun h => nx ?_, fun h => absurd h (by omega)⟩
    exact ⟨[], [], don⟩
  · have q : cmpF a b = 0 := by unfold cmpF; rw [if_neg k, if_neg k2]
    refine gr Tryz.func313 Tryz.ntmps313 trivial ?_
    refine ⟨([], _), isNaN_ok a, nx ?_⟩
    refine ⟨([], _), isNaN_ok b, nx ?_⟩
    refine ⟨fun h => absurd h (by omega), fun h => nx ?_⟩
    refine ⟨fun h => absurd h (by omega), fun h => nx ?_⟩
    exact ⟨[], [], don⟩
def orF : List Int → Int
  | [] => 0
  | x :: l => if x ≠ 0 then x else orF l
theorem or_ok (l : List Int) (hl : l.length < 2 ^ 62) : FC Tryz.prog 312 [(false, [ints l])] [] [(false, [.f (iL (orF l))])] := by
  refine gr Tryz.func312 Tryz.ntmps312 trivial ?_
  (refine ⟨fun m es hs => ∃ (i : Nat), (m + i = l.length) ∧ (orF (l.drop i) = orF l) ∧ es = [(8, .val false [.f (iL i)]), (7, .val false [.f (iL l.length)]), (6, .val false [.f (ints l)]), (3, .val false [.f (iL 0)])] ∧ hs = [], ⟨l.length, [], [], _, _, don, 0, don, don, rfl, rfl⟩, ?_⟩; rintro m _ _ ⟨i, hORI0, hORI1, rfl, rfl⟩; refine nx ?_)
  refine ⟨fun h => nx ?_, fun h => nx ?_⟩
  have hi : i < l.length := by omega
  refine ⟨(i, intE l[i]), ⟨rfl, by simp [hi]⟩, nx ?_⟩
  rw [List.drop_eq_getElem_cons hi, orF] at hORI1
  by_cases k : l[i] ≠ 0
  rw [if_pos k] at hORI1
  refine ⟨fun h => nx ?_, fun h => absurd h (fun w => w k)⟩
  exact ⟨[], [], don⟩
  rw [if_neg k] at hORI1
  refine ⟨fun h => absurd h (k), fun h => nx ?_⟩
  exact ⟨m - 1, [], [], _, _, by omega, don, (i + 1), don, don, rfl, rfl⟩
  have hi : l.length ≤ i := by omega
  rw [List.drop_eq_nil_of_le hi] at hORI1
  have q : (0 : Int) = orF l := hORI1
  exact ⟨[], [], don⟩
def cmpH (a b : Ho) : Int := orF [cmpF a.session b.session, cmpF a.node b.node]
theorem cmpH_less (a b : Ho) : cmpH a b ≥ 0 ↔ ¬ lessP a b := by
  unfold cmpH lessP orF orF orF cmpF
  split <;> (try split) <;> (try split) <;> (try split) <;> omega
theorem cmpH_zero (a b : Ho) : cmpH a b = 0 ↔ a.session = b.session ∧ a.node = b.node := by
  unfold cmpH orF orF orF cmpF
  split <;> (try split) <;> (try split) <;> (try split) <;> omega
theorem compareHolds_ok (a b : Ho) : FC Tryz.prog 249 [(true, hoL a), (true, hoL b)] [] [(false, [.f (iL (cmpH a b))])] := by
  have ho := or_ok [cmpF a.session b.session, cmpF a.node b.node] (by simp)
  refine gr Tryz.func249 Tryz.ntmps249 trivial ?_
  refine ⟨([], _), compare_ok a.session b.session, nx ?_⟩
  refine ⟨([], _), compare_ok a.node b.node, nx ?_⟩
  refine ⟨⟨true, [], _, _, _, _⟩, ho, cd ?_⟩
  exact ⟨[], [], don⟩
theorem own_ok (l : List Ho) (s n : Int) (hl : l.length < 2 ^ 62) : FC Tryz.prog 174 [(false, [hos l]), (false, [iL s]), (false, [iL n])] [] [(false, [.f (iL (ownF l s n))])] := by
  refine gr Tryz.func174 Tryz.ntmps174 trivial ?_
  (refine ⟨fun m es hs => ∃ (i : Nat), (m + i = l.length) ∧ (ownF (l.drop i) s n = ownF l s n) ∧ es = [(11, .val false [.f (iL i)]), (10, .val false [.f (iL l.length)]), (9, .val false [.f (hos l)]), (2, .val false [.f (iL n)]), (1, .val false [.f (iL s)])] ∧ hs = [], ⟨l.length, [], [], _, _, don, 0, don, don, rfl, rfl⟩, ?_⟩; rintro m _ _ ⟨i, hOWN0, hOWN1, rfl, rfl⟩; refine nx ?_)
  refine ⟨fun h => nx ?_, fun h => nx ?_⟩
  have hi : i < l.length := by omega
  refine ⟨(i, hoL l[i]), ⟨rfl, by simp [hi]⟩, nx ?_⟩
  rw [List.drop_eq_getElem_cons hi, ownF] at hOWN1
  by_cases k : l[i].session = s ∧ l[i].node = n
  rw [if_pos k] at hOWN1
  refine ⟨fun h => nx ?_, fun h => absurd h (fun w => w k.1)⟩
  refine ⟨fun h => nx ?_, fun h => absurd h (fun w => w k.2)⟩
  exact ⟨[], [], don⟩
  rw [if_neg k] at hOWN1
  by_cases k1 : l[i].session = s
  refine ⟨fun h => nx ?_, fun h => absurd h (fun w => w k1)⟩
  refine ⟨fun h => absurd h (fun w => k ⟨k1, w⟩), fun h => nx ?_⟩
  exact ⟨m - 1, [], [], _, _, by omega, don, (i + 1), don, don, rfl, rfl⟩
  refine ⟨fun h => absurd h (k1), fun h => nx ?_⟩
  exact ⟨m - 1, [], [], _, _, by omega, don, (i + 1), don, don, rfl, rfl⟩
  have hi : l.length ≤ i := by omega
  rw [List.drop_eq_nil_of_le hi] at hOWN1
  have q : (0 : Int) = ownF l s n := hOWN1
  exact ⟨[], [], don⟩
theorem l07Own_ok (l : List Ho) (s n : Int) (hl : l.length < 2 ^ 62) : FC Tryz.prog 92 [(false, [hos l]), (false, [iL s]), (false, [iL n])] [] [(false, [.f (iL (ownF l s n))])] := by
  refine gr Tryz.func92 Tryz.ntmps92 trivial ?_
  (refine ⟨fun m es hs => ∃ (i : Nat), (m + i = l.length) ∧ (ownF (l.drop i) s n = ownF l s n) ∧ es = [(7, .val false [.f (iL i)]), (2, .val false [.f (iL n)]), (1, .val false [.f (iL s)]), (0, .val false [.f (hos l)])] ∧ hs = [], ⟨l.length, [], [], _, _, don, 0, don, don, rfl, rfl⟩, ?_⟩; rintro m _ _ ⟨i, hOWS0, hOWS1, rfl, rfl⟩; refine nx ?_)
  refine ⟨fun h => nx ?_, fun h => nx ?_⟩
  have hi : i < l.length := by simpa using h
  refine ⟨(i, hoL l[i]), ⟨rfl, by simp [hi]⟩, nx ?_⟩
  rw [List.drop_eq_getElem_cons hi, ownF] at hOWS1
  by_cases k : l[i].session = s ∧ l[i].node = n
  rw [if_pos k] at hOWS1
  refine ⟨fun h => nx ?_, fun h => absurd h (fun w => w k.1)⟩
  refine ⟨(i, hoL l[i]), ⟨rfl, by simp [hi]⟩, nx ?_⟩
  refine ⟨fun h => nx ?_, fun h => absurd h (fun w => w k.2)⟩
  refine ⟨(i, hoL l[i]), ⟨rfl, by simp [hi]⟩, nx ?_⟩
  exact ⟨[], [], don⟩
  rw [if_neg k] at hOWS1
  by_cases k1 : l[i].session = s
  refine ⟨fun h => nx ?_, fun h => absurd h (fun w => w k1)⟩
  refine ⟨(i, hoL l[i]), ⟨rfl, by simp [hi]⟩, nx ?_⟩
  refine ⟨fun h => absurd h (fun w => k ⟨k1, w⟩), fun h => nx ?_⟩
  exact ⟨m - 1, [], [], _, _, by omega, don, (i + 1), don, don, rfl, rfl⟩
  refine ⟨fun h => absurd h (k1), fun h => nx ?_⟩
  exact ⟨m - 1, [], [], _, _, by omega, don, (i + 1), don, don, rfl, rfl⟩
  have hi : l.length ≤ i := by simpa using h
  rw [List.drop_eq_nil_of_le hi] at hOWS1
  have q : (0 : Int) = ownF l s n := hOWS1
  exact ⟨[], [], don⟩
theorem l02Path_ok (d : Dc) (hd : DOK d) (id : Int) (h1 : (ndAt d.nodes id).isSome) : FC Tryz.prog 105 [(true, dcL d), (false, [iL id])] [(1000, some ⟨0, 1, (pathF d id).map intW⟩)] [(false, [.row 1000 0 (pathF d id).length])] := by
  have hs := hd.up h1
  have h0 := hd.par0
  have hpos := has_pos hd.tree h1
  obtain ⟨s, hs7⟩ : ∃ s : Nat, s = 7 := ⟨_, rfl⟩
  have hpf : (upsF d.nodes s id).reverse = pathF d id := by rw [hs7]; rfl
  rw [← hs7] at hs
  rw [← hpf]
  have hul := upsF_len d.nodes s id
  have hz : ∀ s : Nat, upsF d.nodes s 0 = [] := fun s => by cases s <;> simp [upsF]
  refine gr Tryz.func105 Tryz.ntmps105 (⟨cl_ints _, trivial⟩) ?_
  (refine ⟨fun m es hs => ∃ (x : Int) (out : List Int), (upP d.nodes m x = 0) ∧ (m ≤ s ∧ 0 ≤ x) ∧ ((upsF d.nodes m x).reverse ++ out = (upsF d.nodes s id).reverse) ∧ es = [(6, .val false [.f (iL x)]), (5, .val false [.row 3 0 out.length]), (2, .val false [.pt 48 0 0])] ∧ hs = [(48, some ⟨3, 3, [(dcL d).map .f]⟩), (3, some ⟨0, 1, out.map intW⟩)], ⟨s, [], [(3, 128)], _, _, don, id, ([]), don, don, don, rfl, rfl⟩, ?_⟩; rintro m _ _ ⟨x, out, hPAS0, hPAS1, hPAS2, rfl, rfl⟩; refine nx ?_)
  refine ⟨fun h => nx ?_, fun h => nx ?_⟩
  have hol : out.length ≤ 7 := by have := congrArg List.length hPAS2; simp at this; omega
  obtain ⟨k, rfl⟩ : ∃ k, m = k + 1 := by
    cases m with
    | zero => exact absurd (show x = 0 from hPAS0) (by omega)
    | succ k => exact ⟨k, rfl⟩
  refine ⟨out.map intW, cp_ints out, nx ?_⟩
  refine ⟨(x :: out).map intW, ⟨rfl, by simp; omega⟩, nx ?_⟩
  refine ⟨([], _), l02Parent_ok d x (by have := hd.len; omega) (fun n hn => by have := hd.kl' n hn; omega), nx ?_⟩
  have q1 : upP d.nodes k (parP d.nodes x) = 0 := hPAS0
  have q2 : k ≤ s ∧ 0 ≤ parP d.nodes x := ⟨by omega, par_nonneg hd.tree x⟩
  have q3 : (upsF d.nodes k (parP d.nodes x)).reverse ++ (x :: out) = (upsF d.nodes s id).reverse := by
    rw [← hPAS2]; simp [upsF, show x ≠ 0 by omega]
  exact ⟨k, [], [(3, 288)], _, _, by omega, don, (parP d.nodes x), (x :: out), don, don, don, rfl, rfl⟩
  have hx : x = 0 := by omega
  subst hx
  rw [hz] at hPAS2
  have hPAS2 : out = (upsF d.nodes s id).reverse := by simpa using hPAS2
  rw [← hPAS2]
  exact ⟨[], [(1000, 3)], don⟩
end Go.Proofs.YtecnmodeggnjoaaGreat.Ac
set_option linter.unusedVariables false
set_option linter.unusedSimpArgs false
set_option maxRecDepth 20000
set_option maxHeartbeats 20000000
namespace Go.Proofs.YtecnmodeggnjoaaGreat.Ac
open Go.RowKit
theorem fmap_mapL {α : Type} {f : α → List L} {g : α → List A} (h : ∀ x, (f x).map A.f = g x) (l : List α) : (l.map f).map (·.map A.f) = l.map g := by
  rw [List.map_map]; exact List.map_congr_left fun x _ => h x
theorem RepL.pre {h : Array Obj} {O : Nat → Prop} {x y : List L} {u : Value} (hx : x ≠ []) (r : RepL h O (.pv (x ++ y)) u) : RepL h O (.pv x) u := by
  cases r with
  | pv _ b off c ty fr he hb hO hs hr =>
    refine .pv x b off c ty fr hx hb hO (by rw [List.length_append] at hs; omega) fun j z hz => hr j z ?_
    rw [List.getElem?_append_left ((List.getElem?_eq_some_iff.1 hz).1)]; exact hz
theorem pre_v {h : Array Obj} {H : Hp} {φ : Phi} {x y : List L} {u : Value} (hx : x ≠ []) (r : RepV h H φ false [.f (.pv (x ++ y))] u) : RepV h H φ false [.f (.pv x)] u := by
  obtain ⟨z, hz, hr⟩ := r
  cases hz
  cases hr with
  | f _ _ r => exact ⟨_, rfl, .f _ _ (r.pre hx)⟩
section
variable {P : Program} {f : FuncId} {H1 : Hs} {res : List (Bool × List A)}
theorem FC.p1 {x : List L} (y : List L) {rest : List (Bool × List L)} (hx : x ≠ []) (c : FC P f ((false, [.pv x]) :: rest) H1 res) : FC P f ((false, [.pv (x ++ y)]) :: rest) H1 res :=
  ⟨c.cl, c.dom, c.inn, fun φ w us hok r => c.calls φ w us hok (by
    cases us with
    | nil => exact r.elim
    | cons u us => exact ⟨pre_v hx r.1, r.2⟩)⟩
theorem FC.p2 {a : Bool × List L} {x : List L} (y : List L) {rest : List (Bool × List L)} (hx : x ≠ []) (c : FC P f (a :: (false, [.pv x]) :: rest) H1 res) : FC P f (a :: (false, [.pv (x ++ y)]) :: rest) H1 res :=
  ⟨c.cl, c.dom, c.inn, fun φ w us hok r => c.calls φ w us hok (by
    cases us with
    | nil => exact r.elim
    | cons u us => cases us with
      | nil => exact r.2.elim
      | cons v us => exact ⟨r.1, pre_v hx r.2.1, r.2.2⟩)⟩
end
end Go.Proofs.YtecnmodeggnjoaaGreat.Ac
set_option linter.unusedVariables false
set_option linter.unusedSimpArgs false
set_option maxRecDepth 20000
set_option maxHeartbeats 20000000
namespace Go.Proofs.YtecnmodeggnjoaaGreat.Ac
open Go.RowKit
def keyP (a b : Ho) : Prop := a.session = b.session ∧ a.node = b.node
instance (a b : Ho) : Decidable (keyP a b) := by unfold keyP; infer_instance
instance (a b : Ho) : Decidable (lessP a b) := by unfold lessP; infer_instance
def kF : List Ho → Ho → Nat
  | [], _ => 0
  | x :: l, h => if lessP x h then kF l h + 1 else 0
theorem kF_le (h : Ho) : ∀ l : List Ho, kF l h ≤ l.length
  | [] => Nat.le_refl _
  | x :: l => by
    unfold kF; split
    · have := kF_le h l; simp; omega
    · simp
theorem kF_iff {h : Ho} : ∀ {l : List Ho}, RiseH l → ∀ m (hm : m < l.length), lessP l[m] h ↔ m < kF l h
  | [], _, m, hm => by simp at hm
  | x :: l, hr, m, hm => by
    obtain ⟨h1, h2⟩ := List.pairwise_cons.1 hr
    unfold kF
    cases m with
    | zero => show lessP x h ↔ _; split <;> simp [*]
    | succ m =>
      have hm' : m < l.length := by simpa using hm
      show lessP l[m] h ↔ _
      by_cases k : lessP x h
      · rw [if_pos k, kF_iff h2 m hm']; omega
      · rw [if_neg k]
        exact ⟨fun w => absurd (less_trans (h1 _ (List.getElem_mem hm')) w) k, fun w => by omega⟩
def putF : List Ho → Ho → List Ho
  | [], h => [h]
  | x :: l, h => if lessP x h then x :: putF l h else if keyP x h then ⟨x.session, x.node, joinM x.mode h.mode⟩ :: l else h :: x :: l
theorem put_yes {h : Ho} : ∀ {l : List Ho} (hk : kF l h < l.length), keyP l[kF l h] h → putF l h = l.set (kF l h) ⟨l[kF l h].session, l[kF l h].node, joinM l[kF l h].mode h.mode⟩
  | [], hk, _ => by simp at hk
  | x :: l, hk, hy => by
    unfold putF
    by_cases k : lessP x h
    · have e : kF (x :: l) h = kF l h + 1 := by rw [kF, if_pos k]
      simp only [e] at hk hy ⊢
      rw [if_pos k, List.set_cons_succ, put_yes (by simpa using hk) hy]
      rfl
    · have e : kF (x :: l) h = 0 := by rw [kF, if_neg k]
      simp only [e] at hk hy ⊢
      rw [if_neg k, if_pos (show keyP x h from hy)]
      rfl
theorem put_no {h : Ho} : ∀ {l : List Ho}, (∀ hk : kF l h < l.length, ¬ keyP l[kF l h] h) → putF l h = insF l (kF l h) h
  | [], _ => rfl
  | x :: l, hn => by
    unfold putF
    by_cases k : lessP x h
    · have e : kF (x :: l) h = kF l h + 1 := by rw [kF, if_pos k]
      simp only [e] at hn ⊢
      rw [if_pos k, put_no fun hk => hn (by simpa using hk)]
      rfl
    · have e : kF (x :: l) h = 0 := by rw [kF, if_neg k]
      simp only [e] at hn ⊢
      rw [if_neg k, if_neg (show ¬ keyP x h from hn (by simp))]
      rfl
theorem cmp_lt {a b : Ho} : cmpH a b < 0 ↔ lessP a b := by
  have := cmpH_less a b
  by_cases k : lessP a b
  · exact ⟨fun _ => k, fun _ => Int.not_le.1 fun w => this.1 w k⟩
  · exact ⟨fun w => absurd (this.2 k) (by omega), fun w => absurd w k⟩
theorem bsearchHo_ok (l : List Ho) (y : Ho) (hr : RiseH l) (hl : l.length < 2 ^ 28) : FC Tryz.prog 252 [(false, [hos l]), (true, hoL y), (false, [.cl 249 []])] []
    [(false, [.f (iL (kF l y))]), (false, [.f (bL (dB (∃ hk : kF l y < l.length, keyP l[kF l y] y)))])] := by
  have q : bsAt (fun t => decide (lessP (l.getD t zHo') y)) 0 l.length = kF l y := bsAt_mono _ _ _ rfl (Nat.zero_le _) (kF_le y l) fun m _ hm => by
    simp only [decide_eq_true_eq, List.getD_eq_getElem?_getD, List.getElem?_eq_getElem hm, Option.getD_some]
    exact kF_iff hr m hm
  refine gr Tryz.func252 Tryz.ntmps252 trivial ?_
  (refine ⟨fun m es hs => ∃ (i : Nat) (j : Nat), (m = j - i) ∧ (i ≤ j ∧ j ≤ l.length) ∧ (bsAt (fun t => decide (lessP (l.getD t zHo') y)) i j = kF l y) ∧ es = [(10, .val false [.f (iL j)]), (9, .val false [.f (iL i)]), (8, .val false [.f (iL l.length)]), (4, .val false [.pt 80 0 0]), (2, .val false [.f (.cl 249 [])]), (0, .val false [.f (hos l)])] ∧ hs = [(80, some ⟨3, 3, [(hoL y).map .f]⟩)], ⟨l.length, [], [], _, _, don, 0, l.length, don, don, don, rfl, rfl⟩, ?_⟩; rintro m _ _ ⟨i, j, hBSH0, hBSH1, hBSH2, rfl, rfl⟩; refine nx ?_)
  obtain ⟨ha, hb⟩ := hBSH1
  refine ⟨fun h => nx ?_, fun h => nx ?_⟩
  have h' : i < j := by omega
  have hm : (i + j) / 2 < l.length := by omega
  have hh := half (n := l.length) (by omega : i ≤ l.length) hb (by omega)
  have hg : l.getD ((i + j) / 2) zHo' = l[(i + j) / 2] := by simp [hm]
  refine ⟨by decide, nx ?_⟩
  refine ⟨((i + j) / 2, hoL l[(i + j) / 2]), ⟨hh, by simp [hm]⟩, nx ?_⟩
  refine ⟨([], _), compareHolds_ok l[(i + j) / 2] y, nx ?_⟩
  by_cases k : lessP l[(i + j) / 2] y
  have q1 := (bsAt_yes h' (c := fun t => decide (lessP (l.getD t zHo') y)) (by rw [hg]; exact decide_eq_true k)).trans hBSH2
  refine ⟨fun h => nx ?_, fun h => absurd h (fun w => w (cmp_lt.2 k))⟩
  rw [hh]
  exact ⟨j - ((i + j) / 2 + 1), [], [], _, _, by omega, don, (i + j) / 2 + 1, j, don, don, don, rfl, rfl⟩
  have q1 := (bsAt_no h' (c := fun t => decide (lessP (l.getD t zHo') y)) (by rw [hg]; exact decide_eq_false k)).trans hBSH2
  refine ⟨fun h => absurd h (fun w => k (cmp_lt.1 w)), fun h => nx ?_⟩
  rw [hh]
  exact ⟨(i + j) / 2 - i, [], [], _, _, by omega, don, i, (i + j) / 2, don, don, don, rfl, rfl⟩
  have h' : i = j := by omega
  subst h'
  rw [bsAt_end] at hBSH2
  rw [← hBSH2]
  by_cases k : i < l.length
  refine ⟨fun h => nx ?_, fun h => absurd h (by omega)⟩
  refine ⟨(i, hoL l[i]), ⟨rfl, by simp [k]⟩, nx ?_⟩
  refine ⟨([], _), compareHolds_ok l[i] y, nx ?_⟩
  by_cases k2 : keyP l[i] y
  have q1 : dB (∃ hk : i < l.length, keyP l[i] y) = true := dB_yes ⟨k, k2⟩
  refine ⟨fun h => nx ?_, fun h => absurd h (fun w => w ((cmpH_zero _ _).2 k2))⟩
  exact ⟨[], [], don⟩
  have q1 : dB (∃ hk : i < l.length, keyP l[i] y) = false := dB_no fun ⟨_, w⟩ => k2 w
  refine ⟨fun h => absurd h (fun w => k2 ((cmpH_zero _ _).1 w)), fun h => nx ?_⟩
  exact ⟨[], [], don⟩
  have q1 : dB (∃ hk : i < l.length, keyP l[i] y) = false := dB_no fun ⟨w, _⟩ => k w
  refine ⟨fun h => absurd h (by omega), fun h => nx ?_⟩
  exact ⟨[], [], don⟩
end Go.Proofs.YtecnmodeggnjoaaGreat.Ac
