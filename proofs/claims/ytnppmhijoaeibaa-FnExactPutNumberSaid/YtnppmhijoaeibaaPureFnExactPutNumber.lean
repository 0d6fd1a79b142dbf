/- The program's PutNumber returns what the reference's returns, for all arguments. No condition beyond the statement's own. -/
import Derived.Test.YtnppmhijoaeibaaPFnExactPutNumberx1
import Derived.Test.YtnppmhijoaeibaaWireR
namespace Go.Proofs.Ytnppmhijoaeibaa.Pure
open Go.RowKit Go.Proofs.Ytnppmhijoaeibaa.PFnExactPutNumber Go.Proofs.YtnppmhijoaeibaaW.PrintWords Go.Proofs.YtnppmhijoaeibaaW.PrintLast Go.Proofs.Ytnppmhijoaeibaa.H

theorem FnExactPutNumber : laws_FnExactPutNumber.Pure := by
  intro a0 h0
  refine Ev.rounds ?_
  unfold laws_FnExactPutNumber.f
  obtain ⟨r, e1, e2⟩ := PutNumber_same (n := a0)
  simp only [e2]
  exact e1.bind (Ev.const (by simp))

end Go.Proofs.Ytnppmhijoaeibaa.Pure
