/- Contracts of the Go functions that the statement DependGcds reaches, part 0: what each answers, as a Lean function, and that the Go code answers just so. No further condition. -/
import Derived.Test.YtghdjomcojjkmaaProg
import Derived.Below
import Derived.Deep.Draws
import Derived.Deep.AppendLies
import Derived.Maps.AppendAt
import Derived.OwnWalk
import Derived.Laws.BytesArg
import Derived.Laws.MakeOwn
import Derived.Laws.OwnMore
import Derived.Deep.OwnRows
import Derived.Tactics
import Derived.Lib.ConvBytes
import Derived.Laws.Slices
import Derived.WalkKit
import Derived.KernelRfl
import Derived.RowKit3
import Derived.Deep.LoopGhost
import Derived.Deep.QuietTactic
import Derived.BigQuiet
import Derived.WideLaws
import Derived.Deep.DeepCutAuto
import Derived.Deep.CutBlock
import Derived.Deep.RegionHeld3
import Derived.Laws.Rows
import Derived.Lib.AppendStr
import Derived.ArgAppend
import Derived.Laws.IdiomCopy
import Derived.OrdersHeld
import Derived.Laws.BitsLemmas
import Derived.RowKit
import Derived.Test.YtghdjomcojjkmaaWWords
import Derived.Test.YtghdjomcojjkmaaWLast
import Derived.Test.YtghdjomcojjkmaaWTab
import Derived.Test.YtghdjomcojjkmaaWFour
import Derived.Test.YtghdjomcojjkmaaWQPut
import Derived.Test.YtghdjomcojjkmaaWApart
import Derived.Test.YtghdjomcojjkmaaWArr
import Derived.Test.YtghdjomcojjkmaaWZeros
import Derived.Test.YtghdjomcojjkmaaWFoot
import Derived.Test.YtghdjomcojjkmaaWKept
import Derived.Test.YtghdjomcojjkmaaWShare
import Derived.Test.YtghdjomcojjkmaaWN
import Derived.Test.YtghdjomcojjkmaaWFootNe
import Derived.Test.YtghdjomcojjkmaaWAt
import Derived.Test.YtghdjomcojjkmaaWEqStruct
import Derived.Test.YtghdjomcojjkmaaWRepsOne
import Derived.Test.YtghdjomcojjkmaaWInv
import Derived.Test.YtghdjomcojjkmaaWInvWords
import Derived.Test.YtghdjomcojjkmaaWGuard
import Derived.Test.YtghdjomcojjkmaaWNEv
import Derived.Test.YtghdjomcojjkmaaWMore
namespace Go.Proofs.Ytghdjomcojjkmaa.PDependGcds
open Go.RowKit Go.Proofs.YtghdjomcojjkmaaW.PrintWords Go.Proofs.YtghdjomcojjkmaaW.PrintLast Go.Proofs.YtghdjomcojjkmaaW.PrintMore
attribute [local go_sem] max2_int min2_int max_two min_two max_three min_three max_four min_four   -- for this text's walks alone
set_option linter.unusedVariables false
set_option linter.unusedSimpArgs false



def errW : Option Int → Value
  | none => .nilIface
  | some c => .iface 0 (.int .i64 c)
theorem errW_none : errW none = .nilIface := rfl
theorem errW_some (c : Int) : errW (some c) = .iface 0 (.int .i64 c) := rfl

theorem info2 : (Try.prog.info? 2).map (fun i => (i.zero, i.size, i.bytes)) = some (some (.int .i64 0), 1, 8) := by kernel_rfl
-- the values' own types

end Go.Proofs.Ytghdjomcojjkmaa.PDependGcds
