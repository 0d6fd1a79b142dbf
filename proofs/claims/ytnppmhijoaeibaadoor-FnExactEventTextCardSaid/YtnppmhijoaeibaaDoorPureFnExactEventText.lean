/- FnExactEventText: the program's EventText returns what the reference's returns. No condition beyond the statement's own. -/
import Derived.Test.YtnppmhijoaeibaaDoorStmFnExactEventText
import Derived.Test.YtnppmhijoaeibaaDoorPEvtx2
import Derived.Test.YtnppmhijoaeibaaDoorPEvtx1
import Derived.Test.YtnppmhijoaeibaaDoorDig
set_option linter.unusedVariables false
set_option linter.unusedSimpArgs false
namespace Go.Proofs.YtnppmhijoaeibaaDoor.Pure
open Go.RowKit Go.Proofs.YtnppmhijoaeibaaDoor.Q Go.Proofs.YtnppmhijoaeibaaDoorW.PrintWords Go.Proofs.YtnppmhijoaeibaaDoorW.PrintLast Go.Proofs.YtnppmhijoaeibaaDoor.H

def codeL : List ByteArray := [(⟨#[111, 107]⟩ : ByteArray), ⟨#[98, 97, 100]⟩, ⟨#[108, 111, 110, 103]⟩, ⟨#[102, 111, 114, 109]⟩, ⟨#[114, 97, 110, 103, 101]⟩, ⟨#[110, 111, 110, 101]⟩, ⟨#[109, 97, 110, 121]⟩, ⟨#[102, 117, 108, 108]⟩, ⟨#[115, 105, 122, 101]⟩, ⟨#[115, 117, 109]⟩, ⟨#[107, 105, 110, 100]⟩, ⟨#[100, 101, 101, 112]⟩, ⟨#[99, 111, 110, 116, 101, 110, 116]⟩, ⟨#[114, 111, 111, 116]⟩, ⟨#[119, 97, 105, 116]⟩, ⟨#[118, 105, 99, 116, 105, 109]⟩, ⟨#[108, 97, 112, 115, 101, 100]⟩, ⟨#[104, 101, 108, 100]⟩, ⟨#[119, 111, 114, 107]⟩, ⟨#[109, 111, 100, 101]⟩, ⟨#[111, 114, 100, 101, 114]⟩, ⟨#[115, 97, 109, 101]⟩]
theorem codeL_len : (codeL.length : Int) = 22 := rfl
theorem codeL_size : ∀ m : Fin 22, (rdOf ByteArray.empty codeL ((m.val : Nat) : Int)).size ≤ 10 := by decide
theorem codeWord_eq {a : Int} (h : 0 ≤ a ∧ a ≤ 21) : ∃ s, spec_CodeWord.f a = some s ∧ impl_CodeWord.f a = some s ∧ s.size ≤ 10 := by
  refine ⟨rdOf ByteArray.empty codeL a, ?_, ?_, ?_⟩
  · have e : spec_CodeWord.f a = (if a < 0 then some ⟨#[]⟩ else if a ≥ (codeL.length : Int) then some ⟨#[]⟩ else if 0 ≤ a then (if a < (codeL.length : Int) then some (rdOf ByteArray.empty codeL a) else none) else none) := rfl
    rw [e, codeL_len, if_neg (by omega), if_neg (by omega), if_pos h.1, if_pos (by omega)]
  · have e : impl_CodeWord.f a = (impl_isCode.f a).bind fun t => if t = true then (if 0 ≤ a then (if a < (codeL.length : Int) then some (rdOf ByteArray.empty codeL a) else none) else none) else some ⟨#[]⟩ := rfl
    rw [e, codeL_len]
    unfold impl_isCode.f
    simp only [within_d, Option.bind_some, decide_eq_true_eq]
    rw [if_pos h, if_pos h.1, if_pos (by omega)]
  · obtain ⟨n, rfl⟩ := Int.eq_ofNat_of_zero_le h.1
    exact codeL_size ⟨n, by omega⟩
def eventP (a b c : Int) (s : ByteArray) : ByteArray := digS a ++ (⟨#[32]⟩ : ByteArray) ++ s ++ (⟨#[32]⟩ : ByteArray) ++ digS c
theorem one_size : (⟨#[32]⟩ : ByteArray).size = 1 := rfl
theorem FnExactEventText : laws_FnExactEventText.Pure := by
  intro a0 a1 a2 w0 w1 w2
  refine Ev.rounds ?_
  unfold laws_FnExactEventText.f laws_toEvent.f
  simp only [Option.bind_some]
  have same : ∀ (g : Nat → Option (ByteArray × Int)) (r : ByteArray × Int), Ev g r → impl_EventText.f a0 a1 a2 = some r → Ev (fun k => (g k).bind fun bt105 => (impl_EventText.f a0 a1 a2).bind fun bt110 => if bt110.1.toList = bt105.1.toList then (if bt110.2 = bt105.2 then some true else none) else none) true := fun g r hg hi => by
    refine hg.bind (Evc.const ?_)
    rw [hi, Option.bind_some, if_pos rfl, if_pos rfl]
  by_cases h0 : 1 ≤ a0 ∧ a0 ≤ 999
  · by_cases h1 : 0 ≤ a1 ∧ a1 ≤ 21
    · by_cases h2 : 0 ≤ a2 ∧ a2 ≤ 999999
      · obtain ⟨s, hs, hi, hz⟩ := codeWord_eq h1
        have z1 := digS_size a0 (by omega) (by omega)
        have z2 := digS_size a2 (by omega) (by omega)
        refine same _ (eventP a0 a1 a2 s, 0) ?_ ?_
        · unfold spec_EventText.f spec_l12Event.f
          simp only [in_d, Option.bind_some, decide_eq_true_eq, if_pos h0, if_pos h1, if_pos h2, hs]
          refine Ev.bind (a := eventP a0 a1 a2 s) ((digits_eq (n := a0) (by omega) (by omega)).bind ?_) (Evc.const rfl)
          refine Ev.congr (fun k => (if_pos (by omega)).trans ((if_pos (by simp only [ByteArray.size_append, one_size]; omega)).trans (if_pos (by simp only [ByteArray.size_append, one_size]; omega)))) ?_
          refine (digits_eq (n := a2) (by omega) (by omega)).bind (Evc.const ?_)
          rw [if_pos (by simp only [ByteArray.size_append, one_size]; omega)]; rfl
        · unfold impl_EventText.f impl_isSession.f impl_isCode.f impl_eventText.f
          simp only [within_d, Option.bind_some, decide_eq_true_eq, if_pos h0, if_pos h1, if_pos h2, itoa_f (n := a0) (by omega) (by omega), itoa_f (n := a2) (by omega) (by omega), hi]
          rw [if_pos (by omega), if_pos (by simp only [ByteArray.size_append, one_size]; omega), if_pos (by simp only [ByteArray.size_append, one_size]; omega), if_pos (by simp only [ByteArray.size_append, one_size]; omega)]; rfl
      · refine same _ (⟨#[]⟩, 1) (Evc.val 0 fun k => ?_) ?_
        · unfold spec_EventText.f; simp only [in_d, Option.bind_some, decide_eq_true_eq, if_pos h0, if_pos h1, if_neg h2]
        · unfold impl_EventText.f impl_isSession.f impl_isCode.f; simp only [within_d, Option.bind_some, decide_eq_true_eq, if_pos h0, if_pos h1, if_neg h2]
    · refine same _ (⟨#[]⟩, 1) (Evc.val 0 fun k => ?_) ?_
      · unfold spec_EventText.f; simp only [in_d, Option.bind_some, decide_eq_true_eq, if_pos h0, if_neg h1]
      · unfold impl_EventText.f impl_isSession.f impl_isCode.f; simp only [within_d, Option.bind_some, decide_eq_true_eq, if_pos h0, if_neg h1]
  · refine same _ (⟨#[]⟩, 1) (Evc.val 0 fun k => ?_) ?_
    · unfold spec_EventText.f; simp only [in_d, Option.bind_some, decide_eq_true_eq, if_neg h0]
    · unfold impl_EventText.f impl_isSession.f; simp only [within_d, Option.bind_some, decide_eq_true_eq, if_neg h0]
end Go.Proofs.YtnppmhijoaeibaaDoor.Pure
