-- Written by wip/tools/gprint.py over the translation: functions, each with its contract.
import Derived.Test.YtnppmhijoaeibaaPHexx0
import Derived.Test.YtnppmhijoaeibaaPHexx1
import Derived.Test.YtnppmhijoaeibaaPHexx2
namespace Go.Proofs.Ytnppmhijoaeibaa.Q
open Go.RowKit Go.Proofs.YtnppmhijoaeibaaW.PrintWords Go.Proofs.YtnppmhijoaeibaaW.PrintLast Go.Proofs.YtnppmhijoaeibaaW.PrintMore
open Go.Proofs.Ytnppmhijoaeibaa.H
attribute [local go_sem] max2_int min2_int max_two min_two max_three min_three max_four min_four   -- for this text's walks alone
set_option linter.unusedVariables false
set_option linter.unusedSimpArgs false

end Go.Proofs.Ytnppmhijoaeibaa.Q
