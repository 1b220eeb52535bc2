/- Contracts of the Go functions that the statement ArithSums reaches, and its row: what each answers, as a Lean function, and that the Go code answers just so. No further condition. -/
import Derived.Test.YtoojmpcpbnlkaaaProg
import Derived.Below
import Derived.Deep.Draws
import Derived.Deep.AppendLies
import Derived.Maps.AppendAt
import Derived.OwnWalk
import Derived.Laws.BytesArg
import Derived.Laws.MakeOwn
import Derived.Laws.OwnMore
import Derived.Deep.OwnRows
import Derived.Tactics
import Derived.Lib.ConvBytes
import Derived.Laws.Slices
import Derived.WalkKit
import Derived.KernelRfl
import Derived.RowKit3
import Derived.Deep.LoopGhost
import Derived.Deep.QuietTactic
import Derived.BigQuiet
import Derived.WideLaws
import Derived.Deep.DeepCutAuto
import Derived.Deep.CutBlock
import Derived.Deep.RegionHeld3
import Derived.Laws.Rows
import Derived.Lib.AppendStr
import Derived.ArgAppend
import Derived.Laws.IdiomCopy
import Derived.OrdersHeld
import Derived.Laws.BitsLemmas
import Derived.RowKit
import Derived.Test.YtoojmpcpbnlkaaaArr2
import Derived.Test.YtoojmpcpbnlkaaaWWords
import Derived.Test.YtoojmpcpbnlkaaaWLast
import Derived.Test.YtoojmpcpbnlkaaaWTab
import Derived.Test.YtoojmpcpbnlkaaaWFour
import Derived.Test.YtoojmpcpbnlkaaaWQPut
import Derived.Test.YtoojmpcpbnlkaaaWApart
import Derived.Test.YtoojmpcpbnlkaaaWArr
import Derived.Test.YtoojmpcpbnlkaaaWZeros
import Derived.Test.YtoojmpcpbnlkaaaWFoot
import Derived.Test.YtoojmpcpbnlkaaaWKept
import Derived.Test.YtoojmpcpbnlkaaaWShare
import Derived.Test.YtoojmpcpbnlkaaaWN
import Derived.Test.YtoojmpcpbnlkaaaWFootNe
import Derived.Test.YtoojmpcpbnlkaaaWAt
import Derived.Test.YtoojmpcpbnlkaaaWEqStruct
import Derived.Test.YtoojmpcpbnlkaaaWRepsOne
import Derived.Test.YtoojmpcpbnlkaaaWInv
import Derived.Test.YtoojmpcpbnlkaaaWInvWords
import Derived.Test.YtoojmpcpbnlkaaaWGuard
import Derived.Test.YtoojmpcpbnlkaaaWNEv
import Derived.Test.YtoojmpcpbnlkaaaWMore
namespace Go.Proofs.Ytoojmpcpbnlkaaa.PArithSums
open Go.RowKit Go.Proofs.YtoojmpcpbnlkaaaW.PrintWords Go.Proofs.YtoojmpcpbnlkaaaW.PrintLast Go.Proofs.YtoojmpcpbnlkaaaW.PrintMore
attribute [local go_sem] max2_int min2_int max_two min_two max_three min_three max_four min_four   -- for this text's walks alone
set_option linter.unusedVariables false
set_option linter.unusedSimpArgs false



def errW : Option Int → Value
  | none => .nilIface
  | some c => .iface 0 (.int .i64 c)
theorem errW_none : errW none = .nilIface := rfl
theorem errW_some (c : Int) : errW (some c) = .iface 0 (.int .i64 c) := rfl

-- the values' own types

end Go.Proofs.Ytoojmpcpbnlkaaa.PArithSums
