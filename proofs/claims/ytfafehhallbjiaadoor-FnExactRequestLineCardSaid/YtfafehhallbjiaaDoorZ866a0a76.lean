/- Several of our texts, one behind the other, without what this claim does not need: StmFnExactRequestLine, ReqO, HexD, Dig, EdTxP, PureFnExactRequestLine. -/
import Derived.Test.YtfafehhallbjiaaDoorZ48f5b81e
import Derived.Test.YtfafehhallbjiaaDoorZ94375ce4
import Derived.Test.YtfafehhallbjiaaDoorZ589c4d95
import Derived.Test.YtfafehhallbjiaaDoorZ61da95c7
import Derived.Lib.Strings
import Derived.Test.YtfafehhallbjiaaDoorZ3dda3251
import Derived.Lib.ItoaLen
import Derived.Lib.ItoaMem
namespace Go.Proofs.YtfafehhallbjiaaDoor.Q
open Go.RowKit Go.Proofs.YtfafehhallbjiaaDoorW.PrintWords Go.Proofs.YtfafehhallbjiaaDoorW.PrintLast Go.Proofs.YtfafehhallbjiaaDoor.H
set_option linter.unusedVariables false
set_option linter.unusedSimpArgs false
namespace RowFnExactRequestLine
def wf_i64 (x : Int) : Prop := (Lit.int .i64 x).wf = true
theorem opn3 : Opn 3 (Kd.int .i64) wf_i64 := opn_int Tryd.underlying3
def wf_str (x : ByteArray) : Prop := x.size ≤ maxLen
theorem opn9 : Opn 9 Kd.string wf_str := opn_str Tryd.underlying9
theorem opt23 {H : Type} (enc : TypeId × Value → H) (W : World) (fuel : Nat) (cs : List Value) (x : DataW H × List MemPlace) (h : DataW.trod enc Tryd.prog W 0 (fun _ => true) true fuel 23 cs = some x) :
    ∃ (a0 : Int) (a1 : Int) (a2 : Int) (a3 : Int) (a4 : ByteArray), cs = [.int .i64 a0, .int .i64 a1, .int .i64 a2, .int .i64 a3, .string a4] ∧ wf_i64 a0 ∧ wf_i64 a1 ∧ wf_i64 a2 ∧ wf_i64 a3 ∧ wf_str a4 := by
  obtain ⟨xs, n, _, _, hl, hx, hf⟩ := DataW.trod_struct Tryd.underlying23 h
  rw [show Tryd.prog.cellsOf 23 = 5 from by kernel_rfl] at hl
  have hx2 : xs.length = 5 := hx
  obtain ⟨q0, t0, rfl, b0⟩ := cons_of hl
  obtain ⟨q1, t1, rfl, b1⟩ := cons_of b0
  obtain ⟨q2, t2, rfl, b2⟩ := cons_of b1
  obtain ⟨q3, t3, rfl, b3⟩ := cons_of b2
  obtain ⟨q4, t4, rfl, b4⟩ := cons_of b3
  obtain rfl := List.eq_nil_of_length_eq_zero b4
  have g0 : DataW.trod enc Tryd.prog W 0 (fun _ => true) true n 3 (([q0, q1, q2, q3, q4].drop 0).take (Tryd.prog.cellsOf 3)) = some (xs[0]'(by rw [hx2]; decide)) := (hf 0 _ rfl).trans (List.getElem?_eq_getElem (by rw [hx2]; decide))
  rw [show Tryd.prog.cellsOf 3 = 1 from by kernel_rfl] at g0
  simp only [List.drop_zero, List.drop_succ_cons, List.take_succ_cons, List.take_zero] at g0
  obtain ⟨a0, e0, w0⟩ := opn3 enc W n _ _ g0
  cases e0
  have g1 : DataW.trod enc Tryd.prog W 0 (fun _ => true) true n 3 (([.int .i64 a0, q1, q2, q3, q4].drop 1).take (Tryd.prog.cellsOf 3)) = some (xs[1]'(by rw [hx2]; decide)) := (hf 1 _ rfl).trans (List.getElem?_eq_getElem (by rw [hx2]; decide))
  rw [show Tryd.prog.cellsOf 3 = 1 from by kernel_rfl] at g1
  simp only [List.drop_zero, List.drop_succ_cons, List.take_succ_cons, List.take_zero] at g1
  obtain ⟨a1, e1, w1⟩ := opn3 enc W n _ _ g1
  cases e1
  have g2 : DataW.trod enc Tryd.prog W 0 (fun _ => true) true n 3 (([.int .i64 a0, .int .i64 a1, q2, q3, q4].drop 2).take (Tryd.prog.cellsOf 3)) = some (xs[2]'(by rw [hx2]; decide)) := (hf 2 _ rfl).trans (List.getElem?_eq_getElem (by rw [hx2]; decide))
  rw [show Tryd.prog.cellsOf 3 = 1 from by kernel_rfl] at g2
  simp only [List.drop_zero, List.drop_succ_cons, List.take_succ_cons, List.take_zero] at g2
  obtain ⟨a2, e2, w2⟩ := opn3 enc W n _ _ g2
  cases e2
  have g3 : DataW.trod enc Tryd.prog W 0 (fun _ => true) true n 3 (([.int .i64 a0, .int .i64 a1, .int .i64 a2, q3, q4].drop 3).take (Tryd.prog.cellsOf 3)) = some (xs[3]'(by rw [hx2]; decide)) := (hf 3 _ rfl).trans (List.getElem?_eq_getElem (by rw [hx2]; decide))
  rw [show Tryd.prog.cellsOf 3 = 1 from by kernel_rfl] at g3
  simp only [List.drop_zero, List.drop_succ_cons, List.take_succ_cons, List.take_zero] at g3
  obtain ⟨a3, e3, w3⟩ := opn3 enc W n _ _ g3
  cases e3
  have g4 : DataW.trod enc Tryd.prog W 0 (fun _ => true) true n 9 (([.int .i64 a0, .int .i64 a1, .int .i64 a2, .int .i64 a3, q4].drop 4).take (Tryd.prog.cellsOf 9)) = some (xs[4]'(by rw [hx2]; decide)) := (hf 4 _ rfl).trans (List.getElem?_eq_getElem (by rw [hx2]; decide))
  rw [show Tryd.prog.cellsOf 9 = 1 from by kernel_rfl] at g4
  simp only [List.drop_zero, List.drop_succ_cons, List.take_succ_cons, List.take_zero] at g4
  obtain ⟨a4, e4, w4⟩ := opn9 enc W n _ _ g4
  cases e4
  exact ⟨a0, a1, a2, a3, a4, rfl, w0, w1, w2, w3, w4⟩
theorem opt25 {H : Type} (enc : TypeId × Value → H) (W : World) (fuel : Nat) (cs : List Value) (x : DataW H × List MemPlace) (h : DataW.trod enc Tryd.prog W 0 (fun _ => true) true fuel 25 cs = some x) :
    ∃ (a0 : Int) (a1 : Int) (a2 : Int) (a3 : Int) (a4 : Int) (a5 : Int) (a6 : Int) (a7 : Int) (a8 : ByteArray), cs = [.int .i64 a0, .int .i64 a1, .int .i64 a2, .int .i64 a3, .int .i64 a4, .int .i64 a5, .int .i64 a6, .int .i64 a7, .string a8] ∧ wf_i64 a0 ∧ wf_i64 a1 ∧ wf_i64 a2 ∧ wf_i64 a3 ∧ wf_i64 a4 ∧ wf_i64 a5 ∧ wf_i64 a6 ∧ wf_i64 a7 ∧ wf_str a8 := by
  obtain ⟨xs, n, _, _, hl, hx, hf⟩ := DataW.trod_struct Tryd.underlying25 h
  rw [show Tryd.prog.cellsOf 25 = 9 from by kernel_rfl] at hl
  have hx2 : xs.length = 5 := hx
  obtain ⟨q0, t0, rfl, b0⟩ := cons_of hl
  obtain ⟨q1, t1, rfl, b1⟩ := cons_of b0
  obtain ⟨q2, t2, rfl, b2⟩ := cons_of b1
  obtain ⟨q3, t3, rfl, b3⟩ := cons_of b2
  obtain ⟨q4, t4, rfl, b4⟩ := cons_of b3
  obtain ⟨q5, t5, rfl, b5⟩ := cons_of b4
  obtain ⟨q6, t6, rfl, b6⟩ := cons_of b5
  obtain ⟨q7, t7, rfl, b7⟩ := cons_of b6
  obtain ⟨q8, t8, rfl, b8⟩ := cons_of b7
  obtain rfl := List.eq_nil_of_length_eq_zero b8
  have g0 : DataW.trod enc Tryd.prog W 0 (fun _ => true) true n 3 (([q0, q1, q2, q3, q4, q5, q6, q7, q8].drop 0).take (Tryd.prog.cellsOf 3)) = some (xs[0]'(by rw [hx2]; decide)) := (hf 0 _ rfl).trans (List.getElem?_eq_getElem (by rw [hx2]; decide))
  rw [show Tryd.prog.cellsOf 3 = 1 from by kernel_rfl] at g0
  simp only [List.drop_zero, List.drop_succ_cons, List.take_succ_cons, List.take_zero] at g0
  obtain ⟨a0, e0, w0⟩ := opn3 enc W n _ _ g0
  cases e0
  have g1 : DataW.trod enc Tryd.prog W 0 (fun _ => true) true n 3 (([.int .i64 a0, q1, q2, q3, q4, q5, q6, q7, q8].drop 1).take (Tryd.prog.cellsOf 3)) = some (xs[1]'(by rw [hx2]; decide)) := (hf 1 _ rfl).trans (List.getElem?_eq_getElem (by rw [hx2]; decide))
  rw [show Tryd.prog.cellsOf 3 = 1 from by kernel_rfl] at g1
  simp only [List.drop_zero, List.drop_succ_cons, List.take_succ_cons, List.take_zero] at g1
  obtain ⟨a1, e1, w1⟩ := opn3 enc W n _ _ g1
  cases e1
  have g2 : DataW.trod enc Tryd.prog W 0 (fun _ => true) true n 3 (([.int .i64 a0, .int .i64 a1, q2, q3, q4, q5, q6, q7, q8].drop 2).take (Tryd.prog.cellsOf 3)) = some (xs[2]'(by rw [hx2]; decide)) := (hf 2 _ rfl).trans (List.getElem?_eq_getElem (by rw [hx2]; decide))
  rw [show Tryd.prog.cellsOf 3 = 1 from by kernel_rfl] at g2
  simp only [List.drop_zero, List.drop_succ_cons, List.take_succ_cons, List.take_zero] at g2
  obtain ⟨a2, e2, w2⟩ := opn3 enc W n _ _ g2
  cases e2
  have g3 : DataW.trod enc Tryd.prog W 0 (fun _ => true) true n 3 (([.int .i64 a0, .int .i64 a1, .int .i64 a2, q3, q4, q5, q6, q7, q8].drop 3).take (Tryd.prog.cellsOf 3)) = some (xs[3]'(by rw [hx2]; decide)) := (hf 3 _ rfl).trans (List.getElem?_eq_getElem (by rw [hx2]; decide))
  rw [show Tryd.prog.cellsOf 3 = 1 from by kernel_rfl] at g3
  simp only [List.drop_zero, List.drop_succ_cons, List.take_succ_cons, List.take_zero] at g3
  obtain ⟨a3, e3, w3⟩ := opn3 enc W n _ _ g3
  cases e3
  have g4 : DataW.trod enc Tryd.prog W 0 (fun _ => true) true n 23 (([.int .i64 a0, .int .i64 a1, .int .i64 a2, .int .i64 a3, q4, q5, q6, q7, q8].drop 4).take (Tryd.prog.cellsOf 23)) = some (xs[4]'(by rw [hx2]; decide)) := (hf 4 _ rfl).trans (List.getElem?_eq_getElem (by rw [hx2]; decide))
  rw [show Tryd.prog.cellsOf 23 = 5 from by kernel_rfl] at g4
  simp only [List.drop_zero, List.drop_succ_cons, List.take_succ_cons, List.take_zero] at g4
  obtain ⟨a4, a5, a6, a7, a8, e4, w4, w5, w6, w7, w8⟩ := opt23 enc W n _ _ g4
  cases e4
  exact ⟨a0, a1, a2, a3, a4, a5, a6, a7, a8, rfl, w0, w1, w2, w3, w4, w5, w6, w7, w8⟩
end RowFnExactRequestLine
open RowFnExactRequestLine in
def laws_FnExactRequestLine.Pure : Prop := ∀ (a0_0 : Int) (a0_1 : Int) (a0_2 : Int) (a0_3 : Int) (a0_4 : Int) (a0_5 : Int) (a0_6 : Int) (a0_7 : Int) (a0_8 : ByteArray), wf_i64 a0_0 → wf_i64 a0_1 → wf_i64 a0_2 → wf_i64 a0_3 → wf_i64 a0_4 → wf_i64 a0_5 → wf_i64 a0_6 → wf_i64 a0_7 → wf_str a0_8 → ∃ k, laws_FnExactRequestLine.f k a0_0 a0_1 a0_2 a0_3 a0_4 a0_5 a0_6 a0_7 a0_8 = some true
end Go.Proofs.YtfafehhallbjiaaDoor.Q
set_option linter.unusedVariables false
set_option linter.unusedSimpArgs false
namespace Go.Proofs.YtfafehhallbjiaaDoor.H
open Go.RowKit Go.Proofs.YtfafehhallbjiaaDoorW.PrintWords Go.Proofs.YtfafehhallbjiaaDoorW.PrintLast Go.Proofs.YtfafehhallbjiaaDoorW.PrintMore Go.Proofs.YtfafehhallbjiaaDoor.Q
theorem within_eq (a b c : Int) : impl_within.f a b c = some (decide (b ≤ a ∧ a ≤ c)) := by
  unfold impl_within.f
  by_cases h : a ≥ b
  · rw [if_pos h]; congr 1; simp; omega
  · rw [if_neg h]; congr 1; simp; omega
theorem l01In_eq (a b c : Int) : spec_l01In.f a b c = some (decide (b ≤ a ∧ a ≤ c)) := by
  unfold spec_l01In.f
  by_cases h : a ≥ b
  · rw [if_pos h]; congr 1; simp; omega
  · rw [if_neg h]; congr 1; simp; omega
theorem toList_nil (a : ByteArray) : (a.toList = ([] : List UInt8)) = (a.size = 0) := by
  rw [Lib.toList_data]
  apply propext
  rw [← List.length_eq_zero_iff, data_length]
def EOK (a0 a1 a2 a3 : Int) (t : ByteArray) : Prop :=
  1 ≤ a1 ∧ a1 ≤ 999999 ∧ ((a0 = 1 ∧ 1 ≤ a2 ∧ a2 ≤ 8 ∧ 0 ≤ a3 ∧ a3 ≤ 12 ∧ t.size = 0) ∨ ((a0 = 2 ∨ a0 = 7 ∨ a0 = 9) ∧ a2 = 0 ∧ a3 = 0 ∧ t.size = 0) ∨ (a0 = 3 ∧ a2 = 0 ∧ a3 = 0 ∧ t.size ≤ 20) ∨
    (a0 = 4 ∧ 0 ≤ a2 ∧ a2 ≤ 99 ∧ a3 = 0 ∧ t.size = 0) ∨ (a0 = 5 ∧ 1 ≤ a2 ∧ a2 ≤ 999999 ∧ 0 ≤ a3 ∧ a3 ≤ 12 ∧ t.size = 0) ∨ (a0 = 6 ∧ 1 ≤ a2 ∧ a2 ≤ 8 ∧ a3 = 0 ∧ t.size = 0) ∨ (a0 = 8 ∧ 0 ≤ a2 ∧ a2 ≤ 20 ∧ a3 = 0 ∧ t.size = 0))
instance (a0 a1 a2 a3 : Int) (t : ByteArray) : Decidable (EOK a0 a1 a2 a3 t) := by unfold EOK; infer_instance
theorem some_dec {p q : Prop} [Decidable p] [Decidable q] (h : p ↔ q) : (some (decide p) : Option Bool) = some (decide q) := by congr 1; exact decide_eq_decide.2 h
theorem some_no {q : Prop} [Decidable q] (h : ¬ q) : (some false : Option Bool) = some (decide q) := by congr 1; exact (decide_eq_false h).symm
theorem beq_dec (a b : Int) : (a == b) = decide (a = b) := rfl
theorem ite_eq {c : Prop} [Decidable c] {a b r : Option Bool} (h1 : c → a = r) (h2 : ¬ c → b = r) : (if c then a else b) = r := by
  by_cases h : c
  · rw [if_pos h]; exact h1 h
  · rw [if_neg h]; exact h2 h
theorem impl_EditOK_eq (k : Nat) (a0 a1 a2 a3 : Int) (t : ByteArray) : impl_EditOK.f (k + 1) a0 a1 a2 a3 t = some (decide (EOK a0 a1 a2 a3 t)) := by
  unfold impl_EditOK.f impl_EditOK.j0
  simp only [within_eq, Option.bind_some, decide_eq_true_eq, beq_dec]
  repeat' (with_reducible refine ite_eq (fun _ => ?_) (fun _ => ?_))
  all_goals first
    | exact some_dec (by unfold EOK; omega)
    | exact some_no (by unfold EOK; omega)
theorem spec_EditOK_eq (k : Nat) (a0 a1 a2 a3 : Int) (t : ByteArray) : spec_EditOK.f (k + 2) a0 a1 a2 a3 t = some (decide (EOK a0 a1 a2 a3 t)) := by
  unfold spec_EditOK.f spec_EditOK.j0 spec_EditOK.j1 spec_l02Kind.f
  simp only [l01In_eq, Option.bind_some, decide_eq_true_eq, beq_dec, toList_nil, if_true]
  repeat' (with_reducible refine ite_eq (fun _ => ?_) (fun _ => ?_))
  all_goals first
    | exact some_dec (by unfold EOK; omega)
    | exact some_no (by unfold EOK; omega)
def NOE (a4 a5 a6 a7 : Int) (t : ByteArray) : Prop := a4 = 0 ∧ a5 = 0 ∧ a6 = 0 ∧ a7 = 0 ∧ t.size = 0
def ROK (a0 a1 a2 a3 a4 a5 a6 a7 : Int) (t : ByteArray) : Prop :=
  (a0 = 1 ∧ a1 = 0 ∧ a2 = 0 ∧ a3 = 0 ∧ NOE a4 a5 a6 a7 t) ∨ ((a0 = 2 ∨ a0 = 3 ∨ a0 = 8 ∨ a0 = 9) ∧ 1 ≤ a1 ∧ a1 ≤ 999 ∧ a2 = 0 ∧ a3 = 0 ∧ NOE a4 a5 a6 a7 t) ∨
  (a0 = 4 ∧ 1 ≤ a1 ∧ a1 ≤ 999 ∧ 1 ≤ a2 ∧ a2 ≤ 999999 ∧ 1 ≤ a3 ∧ a3 ≤ 5 ∧ NOE a4 a5 a6 a7 t) ∨ ((a0 = 5 ∨ a0 = 6 ∨ a0 = 10) ∧ 1 ≤ a1 ∧ a1 ≤ 999 ∧ 1 ≤ a2 ∧ a2 ≤ 999999 ∧ a3 = 0 ∧ NOE a4 a5 a6 a7 t) ∨
  (a0 = 7 ∧ 1 ≤ a1 ∧ a1 ≤ 999 ∧ a2 = 0 ∧ a3 = 0 ∧ EOK a4 a5 a6 a7 t) ∨ (a0 = 11 ∧ a1 = 0 ∧ a2 = 0 ∧ 1 ≤ a3 ∧ a3 ≤ 500 ∧ NOE a4 a5 a6 a7 t)
instance (a4 a5 a6 a7 : Int) (t : ByteArray) : Decidable (NOE a4 a5 a6 a7 t) := by unfold NOE; infer_instance
instance (a0 a1 a2 a3 a4 a5 a6 a7 : Int) (t : ByteArray) : Decidable (ROK a0 a1 a2 a3 a4 a5 a6 a7 t) := by unfold ROK; infer_instance
theorem noe_bool (a4 a5 a6 a7 : Int) (t : ByteArray) : ((!(a4 == 0) || (!(a5 == 0) || (!(a6 == 0) || (!(a7 == 0) || (!(t.toList == ([] : List UInt8))))))) = true) = ¬ NOE a4 a5 a6 a7 t := by
  have e : (t.toList == ([] : List UInt8)) = decide (t.size = 0) := by
    by_cases h : t.size = 0
    · rw [decide_eq_true h, beq_iff_eq, toList_nil]; exact h
    · rw [decide_eq_false h, beq_eq_false_iff_ne]; exact fun h2 => h (by rwa [toList_nil] at h2)
  rw [e]
  apply propext
  unfold NOE
  simp only [beq_dec, Bool.or_eq_true, Bool.not_eq_true', decide_eq_false_iff_not]
  omega
theorem noe_eok {a4 a5 a6 a7 : Int} {t : ByteArray} (h : NOE a4 a5 a6 a7 t) : ¬ EOK a4 a5 a6 a7 t := fun h2 => by unfold NOE at h; unfold EOK at h2; omega
theorem req_j2 (k : Nat) (x3 x4 x5 x6 x7 : Int) (b : Bool) (a0 a1 a2 a3 a4 a5 a6 a7 : Int) (t : ByteArray) : impl_RequestOK.j2 (k + 1) x3 x4 x5 x6 x7 b a0 a1 a2 a3 a4 a5 a6 a7 t = some (decide (b = false ∧ x3 ≤ a1 ∧ a1 ≤ x4 ∧ mn x5 1 ≤ a2 ∧ a2 ≤ x5 ∧ x6 ≤ a3 ∧ a3 ≤ x7)) := by
  unfold impl_RequestOK.j2
  simp only [within_eq, Option.bind_some, decide_eq_true_eq]
  cases b with
  | true => rw [if_pos rfl]; exact some_no (by simp)
  | false =>
    rw [if_neg (by simp)]
    repeat' (with_reducible refine ite_eq (fun _ => ?_) (fun _ => ?_))
    all_goals first
      | exact some_dec (by simp; omega)
      | exact some_no (by simp; omega)
def REOK (a0 a4 a5 a6 a7 : Int) (t : ByteArray) : Prop := (a0 = 7 ∧ EOK a4 a5 a6 a7 t) ∨ (a0 ≠ 7 ∧ NOE a4 a5 a6 a7 t)
instance (a0 a4 a5 a6 a7 : Int) (t : ByteArray) : Decidable (REOK a0 a4 a5 a6 a7 t) := by unfold REOK; infer_instance
theorem req_j1 (k : Nat) (x3 x4 x5 x6 x7 : Int) (a0 a1 a2 a3 a4 a5 a6 a7 : Int) (t : ByteArray) : impl_RequestOK.j1 (k + 2) x3 x4 x5 x6 x7 a0 a1 a2 a3 a4 a5 a6 a7 t = some (decide (REOK a0 a4 a5 a6 a7 t ∧ x3 ≤ a1 ∧ a1 ≤ x4 ∧ mn x5 1 ≤ a2 ∧ a2 ≤ x5 ∧ x6 ≤ a3 ∧ a3 ≤ x7)) := by
  unfold impl_RequestOK.j1
  simp only [impl_EditOK_eq, req_j2, Option.bind_some]
  by_cases h7 : a0 = 7
  · by_cases hE : EOK a4 a5 a6 a7 t
    · rw [if_neg (by simp [h7, hE]), if_pos h7]; exact some_dec (by unfold REOK; simp [h7, hE])
    · rw [if_pos (by simp [h7, hE])]; exact some_dec (by unfold REOK; simp [h7, hE])
  · by_cases hN : NOE a4 a5 a6 a7 t
    · have hE := noe_eok hN
      rw [if_neg (by simp [h7, hE]), if_neg h7]
      have := noe_bool a4 a5 a6 a7 t
      have hb : (!(a4 == 0) || (!(a5 == 0) || (!(a6 == 0) || (!(a7 == 0) || (!(t.toList == ([] : List UInt8))))))) = false := Bool.eq_false_iff.2 (fun h => by rw [noe_bool] at h; exact h hN)
      rw [hb]; exact some_dec (by unfold REOK; simp [h7, hN])
    · by_cases hE : EOK a4 a5 a6 a7 t
      · rw [if_pos (by simp [h7, hE])]; exact some_dec (by unfold REOK; simp [h7, hN])
      · rw [if_neg (by simp [h7, hE]), if_neg h7]
        have hb : (!(a4 == 0) || (!(a5 == 0) || (!(a6 == 0) || (!(a7 == 0) || (!(t.toList == ([] : List UInt8))))))) = true := by rw [noe_bool]; exact hN
        rw [hb]; exact some_dec (by unfold REOK; simp [h7, hN])
theorem as_int (p : Prop) [Decidable p] : ∃ e : Int, p ↔ e = 1 := ⟨if p then 1 else 0, by split <;> simp [*]⟩
set_option maxHeartbeats 4000000 in
theorem impl_RequestOK_eq (k : Nat) (a0 a1 a2 a3 a4 a5 a6 a7 : Int) (t : ByteArray) : impl_RequestOK.f (k + 3) a0 a1 a2 a3 a4 a5 a6 a7 t = some (decide (ROK a0 a1 a2 a3 a4 a5 a6 a7 t)) := by
  unfold impl_RequestOK.f impl_RequestOK.j0
  simp only [req_j1, beq_dec, decide_eq_true_eq, mn]
  obtain ⟨e, hE⟩ := as_int (EOK a4 a5 a6 a7 t)
  obtain ⟨m, hN⟩ := as_int (NOE a4 a5 a6 a7 t)
  repeat' (with_reducible refine ite_eq (fun _ => ?_) (fun _ => ?_))
  all_goals first
    | exact some_dec (by unfold ROK REOK; rw [hE, hN]; omega)
    | exact some_no (by unfold ROK; rw [hE, hN]; omega)
set_option maxHeartbeats 4000000 in
theorem spec_RequestOK_eq (k : Nat) (a0 a1 a2 a3 a4 a5 a6 a7 : Int) (t : ByteArray) : spec_RequestOK.f (k + 5) a0 a1 a2 a3 a4 a5 a6 a7 t = some (decide (ROK a0 a1 a2 a3 a4 a5 a6 a7 t)) := by
  obtain ⟨e, hE⟩ := as_int (EOK a4 a5 a6 a7 t)
  obtain ⟨m, hN⟩ := as_int (NOE a4 a5 a6 a7 t)
  have hb : ∃ b : Bool, (!(a4 == 0) || (!(a5 == 0) || (!(a6 == 0) || (!(a7 == 0) || (!(t.toList == ([] : List UInt8))))))) = b ∧ (b = true ↔ m ≠ 1) := ⟨_, rfl, by rw [noe_bool, hN]⟩
  obtain ⟨b, hb, hb2⟩ := hb
  unfold spec_RequestOK.f
  rw [hb]
  clear hb
  unfold spec_RequestOK.j0 spec_RequestOK.j1 spec_RequestOK.j2 spec_l07Mode.f
  simp only [spec_EditOK_eq, l01In_eq, hb2, Option.bind_some, decide_eq_true_eq, beq_dec, if_true]
  repeat' (with_reducible refine ite_eq (fun _ => ?_) (fun _ => ?_))
  all_goals first
    | exact some_dec (by unfold ROK; rw [hE, hN]; omega)
    | exact some_no (by unfold ROK; rw [hE, hN]; omega)
    | contradiction
    | (exfalso; omega)
end Go.Proofs.YtfafehhallbjiaaDoor.H
set_option linter.unusedVariables false
set_option linter.unusedSimpArgs false
namespace Go.Proofs.YtfafehhallbjiaaDoor.H
open Go.RowKit Go.Proofs.YtfafehhallbjiaaDoorW.PrintWords Go.Proofs.YtfafehhallbjiaaDoorW.PrintLast Go.Proofs.YtfafehhallbjiaaDoor.Q
theorem tmodE {a b : Int} (h : 0 ≤ a) : Int.tmod a b = a % b := Int.tmod_eq_emod_of_nonneg h
theorem tdivE {a b : Int} (h : 0 ≤ a) : Int.tdiv a b = a / b := Int.tdiv_eq_ediv_of_nonneg h
theorem Ev.val {α : Type} {g : Nat → Option α} {r : α} (K : Nat) (h : ∀ k, g (k + K) = some r) : Ev g r := ⟨K, fun k hk => by have := h (k - K); rwa [Nat.sub_add_cancel hk] at this⟩
theorem strOfNums_size (xs : List Int) : (strOfNums xs).size = xs.length := by simp [strOfNums, ByteArray.size]
theorem bt_nat (t : ByteArray) (i : Nat) (h : i < t.size) : bt t i = (t[i].toNat : Int) := by unfold bt; simp [h]
theorem drop_step (t : ByteArray) (i : Nat) (h : i < t.size) : t.data.toList.drop i = t[i] :: t.data.toList.drop (i + 1) := by
  rw [List.drop_eq_getElem_cons (by simpa using h)]; rfl
theorem size_list (a : ByteArray) : a.data.toList.length = a.size := by simp
theorem nat_wrap {i : Nat} {m : Nat} (h : i < m) (hm : m ≤ 1048576) : wrap64 ((i : Int) + 1) = ((i + 1 : Nat) : Int) := by rw [wid (by omega) (by omega)]; omega
def DIG : ByteArray := ⟨#[48, 49, 50, 51, 52, 53, 54, 55, 56, 57, 97, 98, 99, 100, 101, 102]⟩
def hexL (l : List UInt8) : List Int := l.flatMap fun b => [bt DIG ((b.toNat : Int) / 16), bt DIG ((b.toNat : Int) % 16)]
def hexS (t : ByteArray) : ByteArray := strOfNums (hexL t.data.toList)
theorem hexL_len (l : List UInt8) : (hexL l).length = 2 * l.length := by
  induction l with
  | nil => rfl
  | cons b l ih => unfold hexL at ih ⊢; rw [List.flatMap_cons, List.length_append, ih, List.length_cons]; simp; omega
theorem hexS_size (t : ByteArray) : (hexS t).size = 2 * t.size := by unfold hexS; rw [strOfNums_size, hexL_len, size_list]
theorem hex_div {b : Int} (h : 0 ≤ b ∧ b ≤ 255) : Int.tdiv b 16 % 256 = b / 16 := by rw [tdivE h.1]; omega
theorem hex_mod {b : Int} (h : 0 ≤ b ∧ b ≤ 255) : Int.tmod b 16 = b % 16 := tmodE h.1
theorem hexL_step (t : ByteArray) (i : Nat) (h : i < t.size) : hexL (t.data.toList.drop i) = [bt DIG (bt t i / 16), bt DIG (bt t i % 16)] ++ hexL (t.data.toList.drop (i + 1)) := by
  rw [drop_step t i h, bt_nat t i h]; rfl
theorem hexL_done (t : ByteArray) (i : Nat) (h : t.size ≤ i) : hexL (t.data.toList.drop i) = [] := by
  rw [List.drop_of_length_le (by simpa using h)]; rfl
theorem hexOf_loop (t : ByteArray) (h2 : t.size ≤ 1048576) (d : Nat) : ∀ (i : Nat) (xs : List Int) (k : Nat), i + d = t.size → xs.length = 2 * i → impl_hexOf.l0 (k + d + 1) t xs t.size i = some (strOfNums (xs ++ hexL (t.data.toList.drop i))) := by
  induction d with
  | zero =>
    intro i xs k hi hx
    rw [impl_hexOf.l0, if_neg (by omega), hexL_done t i (by omega), List.append_nil]
  | succ d ih =>
    intro i xs k hi hx
    have r := bt_range t i
    rw [impl_hexOf.l0, if_pos (by omega), if_pos (by omega), if_pos (by omega), hex_div r, hex_mod r, if_pos (by omega), if_pos (by omega), if_pos (by omega), if_pos (by omega), Option.bind_some, if_pos (by simp only [List.length_cons, List.length_nil]; omega), nat_wrap (m := t.size) (by omega) h2, hexL_step t i (by omega), ← List.append_assoc]
    exact ih (i + 1) _ k (by omega) (by simp; omega)
theorem hexOf_eq {t : ByteArray} (h2 : t.size ≤ 1048576) : Ev (fun k => impl_hexOf.f k t) (hexS t) :=
  Ev.val (t.size + 1) fun k => by
    have := hexOf_loop t h2 t.size 0 [] k (by omega) rfl
    rw [List.drop_zero, List.nil_append] at this
    unfold impl_hexOf.f
    rw [wid (by omega) (by omega), if_pos (by omega), if_pos (by omega)]
    exact this
theorem l01Hex_loop (t : ByteArray) (h2 : t.size ≤ 1048576) (d : Nat) : ∀ (i : Nat) (xs : List Int) (k : Nat), i + d = t.size → xs.length = 2 * i → spec_l01Hex.l0 (k + d + 1) t xs i = some (strOfNums (xs ++ hexL (t.data.toList.drop i))) := by
  induction d with
  | zero =>
    intro i xs k hi hx
    rw [spec_l01Hex.l0, if_neg (by omega), hexL_done t i (by omega), List.append_nil]
  | succ d ih =>
    intro i xs k hi hx
    have r := bt_range t i
    rw [spec_l01Hex.l0, if_pos (by omega), if_pos (by omega), hex_div r, hex_mod r, if_pos (by omega), if_pos (by omega), if_pos (by omega), if_pos (by omega), Option.bind_some, if_pos (by simp only [List.length_cons, List.length_nil]; omega), nat_wrap (m := t.size) (by omega) h2, hexL_step t i (by omega), ← List.append_assoc]
    exact ih (i + 1) _ k (by omega) (by simp; omega)
theorem l01Hex_eq {t : ByteArray} (h2 : t.size ≤ 1048576) : Ev (fun k => spec_l01Hex.f k t) (hexS t) :=
  Ev.val (t.size + 1) fun k => by
    have := l01Hex_loop t h2 t.size 0 [] k (by omega) rfl
    rw [List.drop_zero, List.nil_append] at this
    exact this
end Go.Proofs.YtfafehhallbjiaaDoor.H
set_option linter.unusedVariables false
set_option linter.unusedSimpArgs false
namespace Go.Proofs.YtfafehhallbjiaaDoor.H
open Go.RowKit Go.Proofs.YtfafehhallbjiaaDoorW.PrintWords Go.Proofs.YtfafehhallbjiaaDoorW.PrintLast Go.Proofs.YtfafehhallbjiaaDoor.Q
def digS (n : Int) : ByteArray := ⟨(Lib.itoa n).toArray⟩
theorem digS_size (n : Int) (h0 : 0 ≤ n) (h1 : n ≤ 999999999) : (digS n).size ≤ 21 := by
  have := Lib.itoa_length_le n (by omega) (by omega)
  show (Lib.itoa n).toArray.size ≤ 21
  rw [List.size_toArray]; exact this
theorem itoa_f {n : Int} (h0 : 0 ≤ n) (h1 : n ≤ 999999999) : strconv_Itoa.f n = some (digS n) := by unfold strconv_Itoa.f; rw [if_pos ⟨by omega, by omega⟩]; rfl
theorem Evc.val {α : Type} {g : Nat → Option α} {r : α} (K : Nat) (h : ∀ k, g (k + K) = some r) : Ev g r := ⟨K, fun k hk => by have := h (k - K); rwa [Nat.sub_add_cancel hk] at this⟩
theorem Evc.const {α : Type} {x : Option α} {r : α} (h : x = some r) : Ev (fun _ => x) r := ⟨0, fun _ _ => h⟩
theorem digits_small {n : Nat} (h : n < 10) : digS (n : Int) = strOfNums [wrap64 (48 + (n : Int)) % 256] := by
  unfold digS
  rw [Lib.itoa_nonneg, Lib.decDigits_one h]
  have e : wrap64 (48 + (n : Int)) % 256 = ((48 + n : Nat) : Int) := by rw [wid (by omega) (by omega)]; omega
  rw [e]; rfl
theorem digits_big {n : Nat} (h : ¬ n < 10) : digS (n : Int) = digS ((n / 10 : Nat) : Int) ++ strOfNums [wrap64 (48 + (Int.tmod (n : Int) 10)) % 256] := by
  have e : wrap64 (48 + Int.tmod (n : Int) 10) % 256 = ((48 + n % 10 : Nat) : Int) := by rw [Int.tmod_eq_emod_of_nonneg (by omega), wid (by omega) (by omega)]; omega
  rw [e]
  unfold digS
  rw [Lib.itoa_nonneg, Lib.itoa_nonneg]
  apply ByteArray.ext
  apply Array.ext'
  rw [ByteArray.data_append, Array.toList_append]
  conv => lhs; rw [Lib.decDigits, dif_neg h]
  rfl
theorem l00Digits_eq : ∀ n : Nat, n ≤ 999999999 → Ev (fun k => spec_l00Digits.f k (n : Int)) (digS n) := by
  intro n
  induction n using Nat.strongRecOn with
  | _ n ih =>
    intro hn
    by_cases h : n < 10
    · refine Evc.val 1 fun k => ?_
      rw [spec_l00Digits.f, if_neg (by omega), if_neg (by omega), if_pos (by omega), digits_small h]
    · have hd : wrap64 (Int.tdiv (n : Int) 10) = ((n / 10 : Nat) : Int) := by rw [Int.tdiv_eq_ediv_of_nonneg (by omega), wid (by omega) (by omega)]; omega
      refine Ev.step (f := fun k => (spec_l00Digits.f k ((n / 10 : Nat) : Int)).bind fun t => ((some (([(wrap64 (48 + (Int.tmod (n : Int) 10))) % 256] : List Int) : List Int)).bind fun y => (if t.size + (strOfNums y).size ≤ 9223372036854775807 then (some (t ++ (strOfNums y))) else (none)))) (fun k => ?_) ((ih (n / 10) (by omega) (by omega)).bind (Evc.const ?_))
      · rw [spec_l00Digits.f, if_neg (by omega), if_neg (by omega), if_neg (by omega), hd]
      · have hs := digS_size ((n / 10 : Nat) : Int) (by omega) (by omega)
        have h1 : (strOfNums [wrap64 (48 + Int.tmod (n : Int) 10) % 256]).size = 1 := rfl
        rw [Option.bind_some, if_pos (by rw [h1]; omega), digits_big h]
theorem digits_eq {n : Int} (h0 : 0 ≤ n) (h1 : n ≤ 999999999) : Ev (fun k => spec_l00Digits.f k n) (digS n) := by
  obtain ⟨m, rfl⟩ := Int.eq_ofNat_of_zero_le h0
  exact l00Digits_eq m (by omega)
end Go.Proofs.YtfafehhallbjiaaDoor.H
set_option linter.unusedVariables false
set_option linter.unusedSimpArgs false
namespace Go.Proofs.YtfafehhallbjiaaDoor.H
open Go.RowKit Go.Proofs.YtfafehhallbjiaaDoorW.PrintWords Go.Proofs.YtfafehhallbjiaaDoorW.PrintLast Go.Proofs.YtfafehhallbjiaaDoorW.PrintMore Go.Proofs.YtfafehhallbjiaaDoor.Q
theorem rdOf_size {l : List ByteArray} {b : Nat} (h : ∀ x ∈ l, x.size ≤ b) (i : Int) : (rdOf ByteArray.empty l i).size ≤ b := by
  unfold rdOf
  rw [List.getD_eq_getElem?_getD]
  cases e : l[i.toNat]? with
  | none => exact Nat.zero_le _
  | some x => exact h x (List.mem_of_getElem? e)
theorem edW_size (m : Int) : (edW m).size ≤ 10 := rdOf_size (by decide) m
theorem spW_size (m : Int) : (spW m).size ≤ 10 := rdOf_size (by decide) _
theorem rqW_size (m : Int) : (rqW m).size ≤ 10 := rdOf_size (by decide) m
theorem rqV_size (m : Int) : (rqV m).size ≤ 10 := rdOf_size (by decide) _
theorem mdW_size (m : Int) : (mdW m).size ≤ 10 := rdOf_size (by decide) m
theorem mdV_size (m : Int) : (mdV m).size ≤ 10 := rdOf_size (by decide) m
theorem edW_fin : ∀ j : Fin 9, edW ((j.val : Int) + 1) = spW ((j.val : Int) + 1) := by decide +kernel
theorem edW_eq {m : Int} (h0 : 1 ≤ m) (h1 : m ≤ 9) : edW m = spW m := by
  obtain ⟨j, rfl⟩ : ∃ j : Nat, m = (j : Int) + 1 := ⟨(m - 1).toNat, by omega⟩
  exact edW_fin ⟨j, by omega⟩
theorem rqW_fin : ∀ j : Fin 11, rqW ((j.val : Int) + 1) = rqV ((j.val : Int) + 1) := by decide +kernel
theorem rqW_eq {m : Int} (h0 : 1 ≤ m) (h1 : m ≤ 11) : rqW m = rqV m := by
  obtain ⟨j, rfl⟩ : ∃ j : Nat, m = (j : Int) + 1 := ⟨(m - 1).toNat, by omega⟩
  exact rqW_fin ⟨j, by omega⟩
theorem mdW_fin : ∀ j : Fin 5, mdW ((j.val : Int) + 1) = mdV ((j.val : Int) + 1) := by decide +kernel
theorem mdW_eq {m : Int} (h0 : 1 ≤ m) (h1 : m ≤ 5) : mdW m = mdV m := by
  obtain ⟨j, rfl⟩ : ∃ j : Nat, m = (j : Int) + 1 := ⟨(m - 1).toNat, by omega⟩
  exact mdW_fin ⟨j, by omega⟩
def quoS (t : ByteArray) : ByteArray := if t.toList = ([] : List UInt8) then (⟨#[45]⟩ : ByteArray) else hexS t
theorem quote_eq {t : ByteArray} (h : t.size ≤ 1048576) : Ev (fun k => spec_l06Quote.f k t) (quoS t) := by
  unfold spec_l06Quote.f quoS
  by_cases c : t.toList = ([] : List UInt8)
  · simp only [if_pos c]; exact Evc.const rfl
  · simp only [if_neg c]; exact (l01Hex_eq h).bind (Evc.const rfl)
def edS (m n a b : Int) (t : ByteArray) : ByteArray := edJ m (edW m ++ spC ++ digS n) (digS a) (digS b) (hexS t) t
theorem edJ_spJ {m : Int} (h0 : 1 ≤ m) (h1 : m ≤ 9) (h ta tb t : ByteArray) : spJ m h ta tb (quoS t) = edJ m h ta tb (hexS t) t := by
  unfold spJ edJ quoS spM
  by_cases d3 : m = 3
  · rw [if_pos d3, if_pos d3]
    by_cases c : t.toList = ([] : List UInt8)
    · rw [if_pos c, if_pos c]; rfl
    · rw [if_neg c, if_neg c, ByteArray.append_assoc]
  · rw [if_neg d3, if_neg d3]
    by_cases d1 : m = 1 ∨ m = 5
    · rw [if_pos d1, if_neg (by omega), if_pos d1]
      show h ++ (spC ++ ta) ++ (spC ++ tb) = _
      simp only [ByteArray.append_assoc]
    · rw [if_neg d1]
      by_cases d4 : m = 4 ∨ m = 6 ∨ m = 8
      · rw [if_pos d4, if_pos d4]
        show h ++ (spC ++ ta) = _
        rw [ByteArray.append_assoc]
      · rw [if_neg d4, if_neg d4, if_neg d1]; rfl
theorem eok_rng {m n a b : Int} {t : ByteArray} (h : EOK m n a b t) : (1 ≤ m ∧ m ≤ 9) ∧ (0 ≤ n ∧ n ≤ 999999) ∧ (0 ≤ a ∧ a ≤ 999999) ∧ (0 ≤ b ∧ b ≤ 999999) ∧ t.size ≤ 20 := by unfold EOK at h; omega
theorem editText_un {n a b : Int} (h2 : 0 ≤ n ∧ n ≤ 999999) (h3 : 0 ≤ a ∧ a ≤ 999999) (h4 : 0 ≤ b ∧ b ≤ 999999) (k : Nat) (m : Int) (t : ByteArray) : impl_editText.f k m n a b t =
    (impl_hexOf.f k t).bind fun th => if (((digS n).size ≤ 1000 ∧ (digS a).size ≤ 1000 ∧ (digS b).size ≤ 1000 ∧ th.size ≤ 1000 ∧ (edW m).size ≤ 1000) ∧ (0 ≤ m ∧ m < 10)) then some (edJ m (edW m ++ spC ++ digS n) (digS a) (digS b) th t) else none := by
  have e1 := itoa_f (n := n) h2.1 (Int.le_trans h2.2 (by decide))
  have e2 := itoa_f (n := a) h3.1 (Int.le_trans h3.2 (by decide))
  have e3 := itoa_f (n := b) h4.1 (Int.le_trans h4.2 (by decide))
  unfold impl_editText.f
  rw [e1, Option.bind_some, e2, Option.bind_some, e3, Option.bind_some]
theorem editText_eq {m n a b : Int} {t : ByteArray} (h : EOK m n a b t) : Ev (fun k => impl_editText.f k m n a b t) (edS m n a b t) := by
  obtain ⟨h1, h2, h3, h4, h5⟩ := eok_rng h
  have z1 := digS_size n (by omega) (by omega)
  have z2 := digS_size a (by omega) (by omega)
  have z3 := digS_size b (by omega) (by omega)
  have z4 := hexS_size t
  have z5 := edW_size m
  have g1 : (digS n).size ≤ 1000 := by omega
  have g2 : (digS a).size ≤ 1000 := by omega
  have g3 : (digS b).size ≤ 1000 := by omega
  have g4 : (hexS t).size ≤ 1000 := by omega
  have g5 : (edW m).size ≤ 1000 := by omega
  have g6 : 0 ≤ m ∧ m < 10 := by omega
  refine Ev.congr (fun k => editText_un h2 h3 h4 k m t) ((hexOf_eq (t := t) (by omega)).bind (Evc.const (if_pos ⟨⟨g1, g2, g3, g4, g5⟩, g6⟩)))
theorem l06Text_eq {m n a b : Int} {t : ByteArray} (h : EOK m n a b t) : Ev (fun k => spec_l06Text.f k m n a b t) (edS m n a b t) := by
  obtain ⟨h1, h2, h3, h4, h5⟩ := eok_rng h
  have z1 := digS_size n (by omega) (by omega)
  have z2 := digS_size a (by omega) (by omega)
  have z3 := digS_size b (by omega) (by omega)
  have z4 : (quoS t).size ≤ 1000 := by
    unfold quoS
    split
    · decide
    · rw [hexS_size]; omega
  have z5 := spW_size m
  unfold spec_l06Text.f edS
  refine (digits_eq (n := n) (by omega) (by omega)).bind ((digits_eq (n := a) (by omega) (by omega)).bind ((digits_eq (n := b) (by omega) (by omega)).bind ((quote_eq (t := t) (by omega)).bind (Evc.const ?_))))
  rw [if_pos ⟨⟨by omega, by omega, by omega, by omega, by omega⟩, by omega, by omega⟩, edJ_spJ (by omega) (by omega), edW_eq (by omega) (by omega)]
theorem edS_size {m n a b : Int} {t : ByteArray} (h : EOK m n a b t) : (edS m n a b t).size ≤ 1000 := by
  obtain ⟨h1, h2, h3, h4, h5⟩ := eok_rng h
  have z1 := digS_size n (by omega) (by omega)
  have z2 := digS_size a (by omega) (by omega)
  have z3 := digS_size b (by omega) (by omega)
  have z4 := hexS_size t
  have z5 := edW_size m
  have e1 : spC.size = 1 := rfl
  have e2 : (⟨#[32, 45]⟩ : ByteArray).size = 2 := rfl
  unfold edS edJ
  repeat' split
  all_goals (simp only [ByteArray.size_append, e1, e2]; omega)
def rqLn (kd ss nd qa : Int) (te : ByteArray) : ByteArray := rqJ kd (rqW kd) (digS ss) (digS nd) (digS qa) (mdW qa) te
theorem rok_rng {kd ss nd qa ek en ea eb : Int} {et : ByteArray} (h : ROK kd ss nd qa ek en ea eb et) : RqS kd ss nd qa ∧ (0 ≤ ss ∧ ss ≤ 999999) ∧ (0 ≤ nd ∧ nd ≤ 999999) ∧ (0 ≤ qa ∧ qa ≤ 999999) ∧ (kd = 4 → 1 ≤ qa ∧ qa ≤ 5) ∧ (kd = 7 → EOK ek en ea eb et) := by
  unfold ROK at h
  rcases h with h | h | h | h | h | h
  · refine ⟨?_, by omega, by omega, by omega, by omega, fun h7 => by omega⟩; unfold RqS; omega
  · refine ⟨?_, by omega, by omega, by omega, by omega, fun h7 => by omega⟩; unfold RqS; omega
  · refine ⟨?_, by omega, by omega, by omega, by omega, fun h7 => by omega⟩; unfold RqS; omega
  · refine ⟨?_, by omega, by omega, by omega, by omega, fun h7 => by omega⟩; unfold RqS; omega
  · obtain ⟨q1, q2, q3, q4, q5, q6⟩ := h
    refine ⟨?_, by omega, by omega, by omega, by omega, fun _ => q6⟩; clear q6; unfold RqS; omega
  · refine ⟨?_, by omega, by omega, by omega, by omega, fun h7 => by omega⟩; unfold RqS; omega
theorem edit_part {kd ek en ea eb : Int} {et : ByteArray} (h : kd = 7 → EOK ek en ea eb et) : ∃ te : ByteArray, te.size ≤ 1000 ∧ Ev (fun k => if kd = 7 then impl_editText.f k ek en ea eb et else some ⟨#[]⟩) te ∧ Ev (fun k => if kd = 7 then spec_l06Text.f k ek en ea eb et else some ⟨#[]⟩) te := by
  by_cases c : kd = 7
  · simp only [if_pos c]; exact ⟨_, edS_size (h c), editText_eq (h c), l06Text_eq (h c)⟩
  · simp only [if_neg c]; exact ⟨⟨#[]⟩, by decide, Evc.const rfl, Evc.const rfl⟩
theorem reqLine_un {n a b : Int} (h2 : 0 ≤ n ∧ n ≤ 999999) (h3 : 0 ≤ a ∧ a ≤ 999999) (h4 : 0 ≤ b ∧ b ≤ 999999) (k : Nat) (kd ek en ea eb : Int) (et : ByteArray) : impl_requestLine.f k kd n a b ek en ea eb et =
    (if kd = 7 then impl_editText.f k ek en ea eb et else some ⟨#[]⟩).bind fun te => if (((digS n).size ≤ 9000 ∧ (digS a).size ≤ 9000 ∧ (digS b).size ≤ 9000 ∧ te.size ≤ 9000 ∧ (rqW kd).size ≤ 9000) ∧ (mdW b).size ≤ 9000) ∧ RqS kd n a b then some (rqJ kd (rqW kd) (digS n) (digS a) (digS b) (mdW b) te) else none := by
  have e1 := itoa_f (n := n) h2.1 (Int.le_trans h2.2 (by decide))
  have e2 := itoa_f (n := a) h3.1 (Int.le_trans h3.2 (by decide))
  have e3 := itoa_f (n := b) h4.1 (Int.le_trans h4.2 (by decide))
  unfold impl_requestLine.f
  rw [e1, Option.bind_some, e2, Option.bind_some, e3, Option.bind_some]
theorem line_eq {kd ss nd qa ek en ea eb : Int} {et : ByteArray} (h : ROK kd ss nd qa ek en ea eb et) : ∃ r, Ev (fun k => impl_requestLine.f k kd ss nd qa ek en ea eb et) r ∧ Ev (fun k => spec_l12Request.f k kd ss nd qa ek en ea eb et) r := by
  obtain ⟨h0, h1, h2, h3, h4, h5⟩ := rok_rng h
  obtain ⟨te, ht, e1, e2⟩ := edit_part h5
  have z1 := digS_size ss (by omega) (by omega)
  have z2 := digS_size nd (by omega) (by omega)
  have z3 := digS_size qa (by omega) (by omega)
  have z4 := rqW_size kd
  have z5 := rqV_size kd
  have z6 := mdW_size qa
  have z7 := mdV_size qa
  refine ⟨rqLn kd ss nd qa te, ?_, ?_⟩
  · have g1 : ((((digS ss).size ≤ 9000 ∧ (digS nd).size ≤ 9000 ∧ (digS qa).size ≤ 9000 ∧ te.size ≤ 9000 ∧ (rqW kd).size ≤ 9000) ∧ (mdW qa).size ≤ 9000) ∧ RqS kd ss nd qa) := ⟨⟨⟨by omega, by omega, by omega, by omega, by omega⟩, by omega⟩, h0⟩
    exact Ev.congr (fun k => reqLine_un h1 h2 h3 k kd ek en ea eb et) (e1.bind (Evc.const (if_pos g1)))
  · unfold spec_l12Request.f
    refine (digits_eq (n := ss) (by omega) (by omega)).bind ((digits_eq (n := nd) (by omega) (by omega)).bind ((digits_eq (n := qa) (by omega) (by omega)).bind (e2.bind (Evc.const ?_))))
    rw [if_pos ⟨⟨⟨by omega, by omega, by omega, by omega, by omega⟩, by omega⟩, h0⟩]
    have hk := h0.1
    unfold rqLn
    rw [rqW_eq hk.1 hk.2]
    by_cases c : kd = 4
    · rw [mdW_eq (h4 c).1 (h4 c).2]
    · unfold rqJ; simp only [if_neg c]
end Go.Proofs.YtfafehhallbjiaaDoor.H
set_option linter.unusedVariables false
set_option linter.unusedSimpArgs false
namespace Go.Proofs.YtfafehhallbjiaaDoor.Pure
open Go.RowKit Go.Proofs.YtfafehhallbjiaaDoor.Q Go.Proofs.YtfafehhallbjiaaDoorW.PrintWords Go.Proofs.YtfafehhallbjiaaDoorW.PrintLast Go.Proofs.YtfafehhallbjiaaDoor.H
theorem ev_up {α : Type} {g : Nat → Option α} {r : α} (n : Nat) (h : ∀ k, g (k + n) = some r) : Ev g r := ⟨n, fun k hk => by have := h (k - n); rwa [Nat.sub_add_cancel hk] at this⟩
theorem FnExactRequestLine : laws_FnExactRequestLine.Pure := by
  intro a0 a1 a2 a3 a4 a5 a6 a7 a8 w0 w1 w2 w3 w4 w5 w6 w7 w8
  refine Ev.rounds ?_
  unfold laws_FnExactRequestLine.f laws_szRequest.f laws_szEdit.f laws_toRequest.f laws_toEdit.f
  simp only [Option.bind_some]
  obtain ⟨v, hv⟩ : ∃ v, (((if wrap64 (1048576 - (a8.size : Int)) < 0 then some (-1) else some (wrap64 (1048576 - (a8.size : Int)))) : Option Int).bind fun t => if t < 0 then some (-1) else some t) = some v := by
    split
    · exact ⟨_, rfl⟩
    · rename_i h; exact ⟨wrap64 (1048576 - (a8.size : Int)), by rw [Option.bind_some, if_neg h]⟩
  rw [hv]
  simp only [Option.bind_some]
  by_cases hz : v < 0
  · simp only [if_pos hz]; exact Evc.const rfl
  simp only [if_neg hz]
  have same : ∀ (r : ByteArray × Int), Ev (fun k => spec_RequestLine.f k a0 a1 a2 a3 a4 a5 a6 a7 a8) r → Ev (fun k => impl_RequestLine.f k a0 a1 a2 a3 a4 a5 a6 a7 a8) r → Ev (fun k => (spec_RequestLine.f k a0 a1 a2 a3 a4 a5 a6 a7 a8).bind fun p => (impl_RequestLine.f k a0 a1 a2 a3 a4 a5 a6 a7 a8).bind fun q => if q.1.toList = p.1.toList then (if q.2 = p.2 then some true else none) else none) true := fun r h1 h2 => by
    refine h1.bind (h2.bind (Evc.const ?_))
    rw [if_pos rfl, if_pos rfl]
  by_cases h : ROK a0 a1 a2 a3 a4 a5 a6 a7 a8
  · obtain ⟨r, e1, e2⟩ := line_eq h
    refine same (r, 0) ?_ ?_
    · refine Ev.bind (a := true) (ev_up 5 fun k => by rw [spec_RequestOK_eq, decide_eq_true h]) ?_
      simp only [if_true]
      exact e2.bind (Evc.const rfl)
    · refine Ev.bind (a := true) (ev_up 3 fun k => by rw [impl_RequestOK_eq, decide_eq_true h]) ?_
      simp only [if_true]
      exact e1.bind (Evc.const rfl)
  · refine same (⟨#[]⟩, 1) ?_ ?_
    · refine Ev.bind (a := false) (ev_up 5 fun k => by rw [spec_RequestOK_eq, decide_eq_false h]) (Evc.const rfl)
    · refine Ev.bind (a := false) (ev_up 3 fun k => by rw [impl_RequestOK_eq, decide_eq_false h]) (Evc.const rfl)
end Go.Proofs.YtfafehhallbjiaaDoor.Pure
