/- Words that the walks of this law lean on: of the seat's printed words those that a text of this law names. -/
import Derived.Test.YtapdpmfijijjfaaDoorVCtWInv
import Derived.Test.YtapdpmfijijjfaaDoorVCtWFootNe
namespace Go.Proofs.YtapdpmfijijjfaaDoorW.PrintWords
open Go.RowKit
end Go.Proofs.YtapdpmfijijjfaaDoorW.PrintWords
namespace Go.Proofs.YtapdpmfijijjfaaDoorW.PrintLast
section
variable {ops : Array Oper} {a : Act} {o og : Oper} {g : Nat} {t : Tmp} {u : Bool}
end
end Go.Proofs.YtapdpmfijijjfaaDoorW.PrintLast
