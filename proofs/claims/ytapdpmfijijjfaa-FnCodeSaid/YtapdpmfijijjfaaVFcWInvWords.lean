/- Words that the walks of this law lean on: of the seat's printed words those that a text of this law names. -/
import Derived.Test.YtapdpmfijijjfaaVFcWInv
import Derived.Test.YtapdpmfijijjfaaVFcWFootNe
namespace Go.Proofs.YtapdpmfijijjfaaW.PrintWords
open Go.RowKit
end Go.Proofs.YtapdpmfijijjfaaW.PrintWords
namespace Go.Proofs.YtapdpmfijijjfaaW.PrintLast
section
variable {ops : Array Oper} {a : Act} {o og : Oper} {g : Nat} {t : Tmp} {u : Bool}
end
end Go.Proofs.YtapdpmfijijjfaaW.PrintLast
