/- Words that the walks of this law lean on: of the seat's printed words those that a text of this law names. -/
import Derived.Test.YtofkfpapnhaheaaVSfWWords
/-! ### 58. A guarded operation whose guard is known to want it: the same goal without the guard -/
namespace Go.Proofs.YtofkfpapnhaheaaW.PrintWords
open Go.RowKit
section
variable {P : Program} {ops : Array Oper} {rest : List Oper} {o : Oper} {a : Act} {Q : Exit → Act → World → Prop} {W : World}
end
end Go.Proofs.YtofkfpapnhaheaaW.PrintWords
