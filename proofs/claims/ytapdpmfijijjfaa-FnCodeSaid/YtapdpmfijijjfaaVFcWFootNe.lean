/- Words that the walks of this law lean on: of the seat's printed words those that a text of this law names. -/
import Derived.Test.YtapdpmfijijjfaaVFcWN
/-! ### 52. A row that stays read whatever happens to a block (a set of blocks) doesn't lie there -/
namespace Go.Proofs.YtapdpmfijijjfaaW.PrintWords
open Go.RowKit
namespace Kd
section
variable {α : Type} {d : Kd α} {W : World} {g n : Nat} {S ok : Nat → Prop} {A : Option Addr} {ad : Addr} {xs : List α}
end
end Kd
end Go.Proofs.YtapdpmfijijjfaaW.PrintWords
