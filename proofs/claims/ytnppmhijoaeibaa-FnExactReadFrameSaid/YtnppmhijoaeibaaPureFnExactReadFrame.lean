/- The program's ReadFrame returns what the reference's returns, for all arguments. No condition beyond the statement's own. -/
import Derived.Test.YtnppmhijoaeibaaPFnExactReadFramex1
import Derived.Test.YtnppmhijoaeibaaWireR
namespace Go.Proofs.Ytnppmhijoaeibaa.Pure
open Go.RowKit Go.Proofs.Ytnppmhijoaeibaa.PFnExactReadFrame Go.Proofs.YtnppmhijoaeibaaW.PrintWords Go.Proofs.YtnppmhijoaeibaaW.PrintLast Go.Proofs.Ytnppmhijoaeibaa.H

theorem FnExactReadFrame : laws_FnExactReadFrame.Pure := by
  intro a0 h0
  refine Ev.rounds ?_
  unfold laws_FnExactReadFrame.f
  by_cases h : (a0.size : Int) > 1048576
  · exact ⟨0, fun k _ => if_pos h⟩
  obtain ⟨r, e1, e2⟩ := ReadFrame_same (t := a0)
  simp only [if_neg h]
  exact e1.bind (e2.bind (Ev.const (by simp)))

end Go.Proofs.Ytnppmhijoaeibaa.Pure
