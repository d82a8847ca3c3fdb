/- Words that the walks of this law lean on: of the seat's printed words those that a text of this law names. -/
import Derived.Test.YtofkfpapnhaheaaVRfWInv
import Derived.Test.YtofkfpapnhaheaaVRfWFootNe
namespace Go.Proofs.YtofkfpapnhaheaaW.PrintWords
open Go.RowKit
end Go.Proofs.YtofkfpapnhaheaaW.PrintWords
namespace Go.Proofs.YtofkfpapnhaheaaW.PrintLast
section
variable {ops : Array Oper} {a : Act} {o og : Oper} {g : Nat} {t : Tmp} {u : Bool}
end
end Go.Proofs.YtofkfpapnhaheaaW.PrintLast
