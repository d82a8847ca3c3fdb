-- printed by a turned copy
import Derived.Test.YtoilboodndgeeaaProg
import Derived.Below
import Derived.Deep.Draws
import Derived.Deep.AppendLies
import Derived.Maps.AppendAt
import Derived.OwnWalk
import Derived.Laws.BytesArg
import Derived.Laws.MakeOwn
import Derived.Laws.OwnMore
import Derived.Deep.OwnRows
import Derived.Tactics
import Derived.Lib.ConvBytes
import Derived.Laws.Slices
import Derived.WalkKit
import Derived.KernelRfl
import Derived.RowKit3
import Derived.Deep.LoopGhost
import Derived.Deep.QuietTactic
import Derived.BigQuiet
import Derived.WideLaws
import Derived.Deep.DeepCutAuto
import Derived.Deep.CutBlock
import Derived.Deep.RegionHeld3
import Derived.Laws.Rows
import Derived.Lib.AppendStr
import Derived.ArgAppend
import Derived.Laws.IdiomCopy
import Derived.OrdersHeld
import Derived.Laws.BitsLemmas
import Derived.RowKit
import Derived.Test.YtoilboodndgeeaaWWords
import Derived.Test.YtoilboodndgeeaaWLast
import Derived.Test.YtoilboodndgeeaaWTab
import Derived.Test.YtoilboodndgeeaaWFour
import Derived.Test.YtoilboodndgeeaaWQPut
import Derived.Test.YtoilboodndgeeaaWApart
import Derived.Test.YtoilboodndgeeaaWArr
import Derived.Test.YtoilboodndgeeaaWZeros
import Derived.Test.YtoilboodndgeeaaWFoot
import Derived.Test.YtoilboodndgeeaaWKept
import Derived.Test.YtoilboodndgeeaaWShare
import Derived.Test.YtoilboodndgeeaaWN
import Derived.Test.YtoilboodndgeeaaWFootNe
import Derived.Test.YtoilboodndgeeaaWAt
import Derived.Test.YtoilboodndgeeaaWEqStruct
import Derived.Test.YtoilboodndgeeaaWRepsOne
import Derived.Test.YtoilboodndgeeaaWInv
import Derived.Test.YtoilboodndgeeaaWInvWords
import Derived.Test.YtoilboodndgeeaaWGuard
import Derived.Test.YtoilboodndgeeaaWNEv
import Derived.Test.YtoilboodndgeeaaWMore
namespace Go.Proofs.Ytoilboodndgeeaa.PFnMagic
open Go.RowKit Go.Proofs.YtoilboodndgeeaaW.PrintWords Go.Proofs.YtoilboodndgeeaaW.PrintLast Go.Proofs.YtoilboodndgeeaaW.PrintMore
attribute [local go_sem] max2_int min2_int max_two min_two max_three min_three max_four min_four   -- for this text's walks alone
set_option linter.unusedVariables false
set_option linter.unusedSimpArgs false



def errW : Option Int → Value
  | none => .nilIface
  | some c => .iface 0 (.int .i64 c)
theorem errW_none : errW none = .nilIface := rfl
theorem errW_some (c : Int) : errW (some c) = .iface 0 (.int .i64 c) := rfl

theorem info3 : (Try.prog.info? 3).map (fun i => (i.zero, i.size, i.bytes)) = some (some (.int .i64 0), 1, 8) := by kernel_rfl
-- the values' own types

end Go.Proofs.Ytoilboodndgeeaa.PFnMagic
