-- Written by wip/tools/gprint.py over the translation: functions, each with its contract.
import Derived.Test.YtnppmhijoaeibaaDoorProg
import Derived.Below
import Derived.Deep.Draws
import Derived.Deep.AppendLies
import Derived.Maps.AppendAt
import Derived.OwnWalk
import Derived.Laws.BytesArg
import Derived.Laws.MakeOwn
import Derived.Laws.OwnMore
import Derived.Deep.OwnRows
import Derived.Tactics
import Derived.Lib.ConvBytes
import Derived.Laws.Slices
import Derived.WalkKit
import Derived.KernelRfl
import Derived.RowKit3
import Derived.Deep.LoopGhost
import Derived.Deep.QuietTactic
import Derived.BigQuiet
import Derived.WideLaws
import Derived.Deep.DeepCutAuto
import Derived.Deep.CutBlock
import Derived.Deep.RegionHeld3
import Derived.Laws.Rows
import Derived.Lib.AppendStr
import Derived.ArgAppend
import Derived.Laws.IdiomCopy
import Derived.OrdersHeld
import Derived.Laws.BitsLemmas
import Derived.RowKit
import Derived.Test.YtnppmhijoaeibaaDoorAid
import Derived.Test.YtnppmhijoaeibaaDoorHold
import Derived.Test.YtnppmhijoaeibaaDoorPEvtx1
import Derived.Test.YtnppmhijoaeibaaDoorPEvtx2
import Derived.Test.YtnppmhijoaeibaaDoorPHdtx1
import Derived.Test.YtnppmhijoaeibaaDoorPHldx1
import Derived.Test.YtnppmhijoaeibaaDoorTab
import Derived.Test.YtnppmhijoaeibaaDoorWWords
import Derived.Test.YtnppmhijoaeibaaDoorWLast
import Derived.Test.YtnppmhijoaeibaaDoorWTab
import Derived.Test.YtnppmhijoaeibaaDoorWFour
import Derived.Test.YtnppmhijoaeibaaDoorWQPut
import Derived.Test.YtnppmhijoaeibaaDoorWApart
import Derived.Test.YtnppmhijoaeibaaDoorWArr
import Derived.Test.YtnppmhijoaeibaaDoorWZeros
import Derived.Test.YtnppmhijoaeibaaDoorWFoot
import Derived.Test.YtnppmhijoaeibaaDoorWKept
import Derived.Test.YtnppmhijoaeibaaDoorWShare
import Derived.Test.YtnppmhijoaeibaaDoorWN
import Derived.Test.YtnppmhijoaeibaaDoorWFootNe
import Derived.Test.YtnppmhijoaeibaaDoorWAt
import Derived.Test.YtnppmhijoaeibaaDoorWEqStruct
import Derived.Test.YtnppmhijoaeibaaDoorWRepsOne
import Derived.Test.YtnppmhijoaeibaaDoorWInv
import Derived.Test.YtnppmhijoaeibaaDoorWInvWords
import Derived.Test.YtnppmhijoaeibaaDoorWGuard
import Derived.Test.YtnppmhijoaeibaaDoorWNEv
import Derived.Test.YtnppmhijoaeibaaDoorWMore
namespace Go.Proofs.YtnppmhijoaeibaaDoor.Q
open Go.RowKit Go.Proofs.YtnppmhijoaeibaaDoorW.PrintWords Go.Proofs.YtnppmhijoaeibaaDoorW.PrintLast Go.Proofs.YtnppmhijoaeibaaDoorW.PrintMore
open Go.Proofs.YtnppmhijoaeibaaDoor.H
attribute [local go_sem] max2_int min2_int max_two min_two max_three min_three max_four min_four   -- for this text's walks alone
set_option linter.unusedVariables false
set_option linter.unusedSimpArgs false



-- the values' own types

end Go.Proofs.YtnppmhijoaeibaaDoor.Q
