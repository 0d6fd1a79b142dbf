-- Written by wip/tools/gprint.py over the translation: functions, each with its contract. (what this law's arguments read as)
import Derived.Test.YtnppmhijoaeibaaDoorRow
import Derived.Test.YtnppmhijoaeibaaDoorPFnExactHoldTextx1
namespace Go.Proofs.YtnppmhijoaeibaaDoor.Q
open Go.RowKit Go.Proofs.YtnppmhijoaeibaaDoorW.PrintWords Go.Proofs.YtnppmhijoaeibaaDoorW.PrintLast Go.Proofs.YtnppmhijoaeibaaDoor.H
set_option linter.unusedVariables false
set_option linter.unusedSimpArgs false
namespace RowFnExactHoldText
def wf_i64 (x : Int) : Prop := (Lit.int .i64 x).wf = true
theorem opn3 : Opn 3 (Kd.int .i64) wf_i64 := opn_int Tryd.underlying3
theorem opt23 {H : Type} (enc : TypeId × Value → H) (W : World) (fuel : Nat) (cs : List Value) (x : DataW H × List MemPlace) (h : DataW.trod enc Tryd.prog W 0 (fun _ => true) true fuel 23 cs = some x) :
    ∃ (a0 : Int) (a1 : Int) (a2 : Int), cs = [.int .i64 a0, .int .i64 a1, .int .i64 a2] ∧ wf_i64 a0 ∧ wf_i64 a1 ∧ wf_i64 a2 := by
  obtain ⟨xs, n, _, _, hl, hx, hf⟩ := DataW.trod_struct Tryd.underlying23 h
  rw [show Tryd.prog.cellsOf 23 = 3 from by kernel_rfl] at hl
  have hx2 : xs.length = 3 := hx
  obtain ⟨q0, t0, rfl, b0⟩ := cons_of hl
  obtain ⟨q1, t1, rfl, b1⟩ := cons_of b0
  obtain ⟨q2, t2, rfl, b2⟩ := cons_of b1
  obtain rfl := List.eq_nil_of_length_eq_zero b2
  have g0 : DataW.trod enc Tryd.prog W 0 (fun _ => true) true n 3 (([q0, q1, q2].drop 0).take (Tryd.prog.cellsOf 3)) = some (xs[0]'(by rw [hx2]; decide)) := (hf 0 _ rfl).trans (List.getElem?_eq_getElem (by rw [hx2]; decide))
  rw [show Tryd.prog.cellsOf 3 = 1 from by kernel_rfl] at g0
  simp only [List.drop_zero, List.drop_succ_cons, List.take_succ_cons, List.take_zero] at g0
  obtain ⟨a0, e0, w0⟩ := opn3 enc W n _ _ g0
  cases e0
  have g1 : DataW.trod enc Tryd.prog W 0 (fun _ => true) true n 3 (([.int .i64 a0, q1, q2].drop 1).take (Tryd.prog.cellsOf 3)) = some (xs[1]'(by rw [hx2]; decide)) := (hf 1 _ rfl).trans (List.getElem?_eq_getElem (by rw [hx2]; decide))
  rw [show Tryd.prog.cellsOf 3 = 1 from by kernel_rfl] at g1
  simp only [List.drop_zero, List.drop_succ_cons, List.take_succ_cons, List.take_zero] at g1
  obtain ⟨a1, e1, w1⟩ := opn3 enc W n _ _ g1
  cases e1
  have g2 : DataW.trod enc Tryd.prog W 0 (fun _ => true) true n 3 (([.int .i64 a0, .int .i64 a1, q2].drop 2).take (Tryd.prog.cellsOf 3)) = some (xs[2]'(by rw [hx2]; decide)) := (hf 2 _ rfl).trans (List.getElem?_eq_getElem (by rw [hx2]; decide))
  rw [show Tryd.prog.cellsOf 3 = 1 from by kernel_rfl] at g2
  simp only [List.drop_zero, List.drop_succ_cons, List.take_succ_cons, List.take_zero] at g2
  obtain ⟨a2, e2, w2⟩ := opn3 enc W n _ _ g2
  cases e2
  exact ⟨a0, a1, a2, rfl, w0, w1, w2⟩
end RowFnExactHoldText
open RowFnExactHoldText in
def laws_FnExactHoldText.Pure : Prop := ∀ (a0_0 : Int) (a0_1 : Int) (a0_2 : Int), wf_i64 a0_0 → wf_i64 a0_1 → wf_i64 a0_2 → ∃ k, laws_FnExactHoldText.f k a0_0 a0_1 a0_2 = some true
end Go.Proofs.YtnppmhijoaeibaaDoor.Q
