/- Small lemmas that the printed texts and ours share. -/
import Derived.Test.YtnppmhijoaeibaaProg
import Derived.WalkKit
set_option linter.unusedVariables false
namespace Go.Proofs.Ytnppmhijoaeibaa.H
open Go.RowKit
theorem wid {x : Int} (h1 : -9223372036854775808 ≤ x) (h2 : x ≤ 9223372036854775807) : wrap64 x = x := by unfold wrap64; omega
end Go.Proofs.Ytnppmhijoaeibaa.H
