-- Written by wip/tools/gprint.py over the translation: functions, each with its contract.
import Derived.Test.YtnppmhijoaeibaaProg
import Derived.Below
import Derived.Deep.Draws
import Derived.Deep.AppendLies
import Derived.Maps.AppendAt
import Derived.OwnWalk
import Derived.Laws.BytesArg
import Derived.Laws.MakeOwn
import Derived.Laws.OwnMore
import Derived.Deep.OwnRows
import Derived.Tactics
import Derived.Lib.ConvBytes
import Derived.Laws.Slices
import Derived.WalkKit
import Derived.KernelRfl
import Derived.RowKit3
import Derived.Deep.LoopGhost
import Derived.Deep.QuietTactic
import Derived.BigQuiet
import Derived.WideLaws
import Derived.Deep.DeepCutAuto
import Derived.Deep.CutBlock
import Derived.Deep.RegionHeld3
import Derived.Laws.Rows
import Derived.Lib.AppendStr
import Derived.ArgAppend
import Derived.Laws.IdiomCopy
import Derived.OrdersHeld
import Derived.Laws.BitsLemmas
import Derived.RowKit
import Derived.Test.YtnppmhijoaeibaaPHexx1
import Derived.Test.YtnppmhijoaeibaaPHexx2
import Derived.Test.YtnppmhijoaeibaaPSomex1
import Derived.Test.YtnppmhijoaeibaaPSrcx1
import Derived.Test.YtnppmhijoaeibaaPWirex1
import Derived.Test.YtnppmhijoaeibaaPWirex2
import Derived.Test.YtnppmhijoaeibaaPWirex3
import Derived.Test.YtnppmhijoaeibaaPWirex4
import Derived.Test.YtnppmhijoaeibaaWWords
import Derived.Test.YtnppmhijoaeibaaWLast
import Derived.Test.YtnppmhijoaeibaaWTab
import Derived.Test.YtnppmhijoaeibaaWFour
import Derived.Test.YtnppmhijoaeibaaWQPut
import Derived.Test.YtnppmhijoaeibaaWApart
import Derived.Test.YtnppmhijoaeibaaWArr
import Derived.Test.YtnppmhijoaeibaaWZeros
import Derived.Test.YtnppmhijoaeibaaWFoot
import Derived.Test.YtnppmhijoaeibaaWKept
import Derived.Test.YtnppmhijoaeibaaWShare
import Derived.Test.YtnppmhijoaeibaaWN
import Derived.Test.YtnppmhijoaeibaaWFootNe
import Derived.Test.YtnppmhijoaeibaaWAt
import Derived.Test.YtnppmhijoaeibaaWEqStruct
import Derived.Test.YtnppmhijoaeibaaWRepsOne
import Derived.Test.YtnppmhijoaeibaaWInv
import Derived.Test.YtnppmhijoaeibaaWInvWords
import Derived.Test.YtnppmhijoaeibaaWGuard
import Derived.Test.YtnppmhijoaeibaaWNEv
import Derived.Test.YtnppmhijoaeibaaWMore
namespace Go.Proofs.Ytnppmhijoaeibaa.Q
open Go.RowKit Go.Proofs.YtnppmhijoaeibaaW.PrintWords Go.Proofs.YtnppmhijoaeibaaW.PrintLast Go.Proofs.YtnppmhijoaeibaaW.PrintMore
open Go.Proofs.Ytnppmhijoaeibaa.H
attribute [local go_sem] max2_int min2_int max_two min_two max_three min_three max_four min_four   -- for this text's walks alone
set_option linter.unusedVariables false
set_option linter.unusedSimpArgs false



-- the values' own types

end Go.Proofs.Ytnppmhijoaeibaa.Q
