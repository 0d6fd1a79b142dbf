/- FnExactHoldText: the program's HoldText returns what the reference's returns. No condition beyond the statement's own. -/
import Derived.Test.YtnppmhijoaeibaaDoorStmFnExactHoldText
import Derived.Test.YtnppmhijoaeibaaDoorPHdtx1
import Derived.Test.YtnppmhijoaeibaaDoorPHdtx1
import Derived.Test.YtnppmhijoaeibaaDoorHold
import Derived.Test.YtnppmhijoaeibaaDoorDig
set_option linter.unusedVariables false
set_option linter.unusedSimpArgs false
namespace Go.Proofs.YtnppmhijoaeibaaDoor.Pure
open Go.RowKit Go.Proofs.YtnppmhijoaeibaaDoor.Q Go.Proofs.YtnppmhijoaeibaaDoorW.PrintWords Go.Proofs.YtnppmhijoaeibaaDoorW.PrintLast Go.Proofs.YtnppmhijoaeibaaDoor.H

theorem word_fin : ∀ m : Fin 6, 1 ≤ m.val → modeV ((m.val : Nat) : Int) = modeW ((m.val : Nat) : Int) ∧ (modeW ((m.val : Nat) : Int)).size ≤ 10 := by decide
theorem word_eq {a : Int} (h : 1 ≤ a ∧ a ≤ 5) : modeV a = modeW a ∧ (modeW a).size ≤ 10 := by
  obtain ⟨n, rfl⟩ := Int.eq_ofNat_of_zero_le (show 0 ≤ a by omega)
  exact word_fin ⟨n, by omega⟩ (by show 1 ≤ n; omega)
theorem FnExactHoldText : laws_FnExactHoldText.Pure := by
  intro a0 a1 a2 w0 w1 w2
  refine Ev.rounds ?_
  unfold laws_FnExactHoldText.f laws_toHold.f
  simp only [Option.bind_some]
  have same : ∀ (g : Nat → Option (ByteArray × Int)) (r : ByteArray × Int), Ev g r → impl_HoldText.f a0 a1 a2 = some r → Ev (fun k => (g k).bind fun bt105 => (impl_HoldText.f a0 a1 a2).bind fun bt110 => if bt110.1.toList = bt105.1.toList then (if bt110.2 = bt105.2 then some true else none) else none) true := fun g r hg hi => by
    refine hg.bind (Evc.const ?_)
    rw [hi, Option.bind_some, if_pos rfl, if_pos rfl]
  by_cases h0 : 1 ≤ a0 ∧ a0 ≤ 999
  · by_cases h1 : 1 ≤ a2 ∧ a2 ≤ 5
    · by_cases h2 : 1 ≤ a1 ∧ a1 ≤ 999999
      · obtain ⟨e, hz⟩ := word_eq h1
        have z1 := digS_size a0 (by omega) (by omega)
        have z2 := digS_size a1 (by omega) (by omega)
        refine same _ (holdJ (digS a0) (modeW a2) (digS a1), 0) ?_ ?_
        · unfold spec_HoldText.f spec_l07Mode.f spec_l12Hold.f
          simp only [in_d, Option.bind_some, decide_eq_true_eq, if_pos h0, if_pos h1, if_pos h2]
          refine Ev.bind (a := holdJ (digS a0) (modeW a2) (digS a1)) ((digits_eq (n := a0) (by omega) (by omega)).bind ?_) (Evc.const rfl)
          refine (digits_eq (n := a1) (by omega) (by omega)).bind (Evc.const ?_)
          rw [e, if_pos ⟨⟨by omega, by omega, by omega⟩, by omega, by omega⟩]
        · unfold impl_HoldText.f impl_isSession.f impl_isMode.f impl_holdText.f
          simp only [within_d, Option.bind_some, decide_eq_true_eq, if_pos h0, if_pos h1, if_pos h2, itoa_f (n := a0) (by omega) (by omega), itoa_f (n := a1) (by omega) (by omega)]
          rw [if_pos ⟨⟨by omega, by omega, by omega⟩, by omega, by omega⟩]; rfl
      · refine same _ (⟨#[]⟩, 1) (Evc.val 0 fun k => ?_) ?_
        · unfold spec_HoldText.f spec_l07Mode.f; simp only [in_d, Option.bind_some, decide_eq_true_eq, if_pos h0, if_pos h1, if_neg h2]
        · unfold impl_HoldText.f impl_isSession.f impl_isMode.f; simp only [within_d, Option.bind_some, decide_eq_true_eq, if_pos h0, if_neg h2]
    · refine same _ (⟨#[]⟩, 1) (Evc.val 0 fun k => ?_) ?_
      · unfold spec_HoldText.f spec_l07Mode.f; simp only [in_d, Option.bind_some, decide_eq_true_eq, if_pos h0, if_neg h1]
      · unfold impl_HoldText.f impl_isSession.f impl_isMode.f
        by_cases h2 : 1 ≤ a1 ∧ a1 ≤ 999999
        · simp only [within_d, Option.bind_some, decide_eq_true_eq, if_pos h0, if_pos h2, if_neg h1]
        · simp only [within_d, Option.bind_some, decide_eq_true_eq, if_pos h0, if_neg h2]
  · refine same _ (⟨#[]⟩, 1) (Evc.val 0 fun k => ?_) ?_
    · unfold spec_HoldText.f; simp only [in_d, Option.bind_some, decide_eq_true_eq, if_neg h0]
    · unfold impl_HoldText.f impl_isSession.f; simp only [within_d, Option.bind_some, decide_eq_true_eq, if_neg h0]
end Go.Proofs.YtnppmhijoaeibaaDoor.Pure
