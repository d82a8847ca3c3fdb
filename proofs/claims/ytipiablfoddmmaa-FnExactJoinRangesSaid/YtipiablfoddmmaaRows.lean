/-
  No cell of these rows narrows 'for every input' (looked for: loops, veiled, ifaces, maps, wideKeys, modest, calm, conditions, laid).
  DERIVED. THE GIVEN ROWS OF THIS SEAT. 6 by the template 'for every input the law returns true; each argument reads behind the call as it read before'; 0 by the template 'total and deterministic' (their statements: YtipiablfoddmmaaTotals.lean).
  GIVEN WITH THE SEED: the statements are not yours to turn. If you find one false, say at which input.
  Laid BY PROGRAM, IN A SANDBOX (cutbox-rows.mjs): the forced cells as the released guide's own fill.sh prints them over the translation 79ee84c94157977d… (all of the seat's roots in one cut). By AI agents, Wed Nov 11 2026. No macro, syntax, notation, axiom, sorry.
-/
import Derived.Test.YtipiablfoddmmaaChecked
import GoSem.Claim
import GoSem.ClaimJoined
import GoSem.ClaimMapViews
import Derived.JoinedTies
import Derived.KernelRfl
namespace Go.Proofs.Ytipiablfoddmmaa
/- THE CELL 'sum', in the pinned program and in every row, IS THE sha256 OF THE DUMP (.gsa) THAT YtipiablfoddmmaaProg.lean LOADS. Nothing in Lean hashes anything: it is a label: what it is worth is what the hold of that sum in a sandbox is worth. -/
noncomputable def Try.pinned : Pinned := { name := "ytipiablfoddmmaa", sum := "79ee84c94157977d4e29089a1345457e58b0670118a3bc5205dc0759cf5683bb", checked := Try.checked }
namespace Rows
def none {H : Type} : Left H := { results := [], args := [] }

/-- 'laws.FnExactAddTagged': WHATEVER THE INPUT: true; the input reads as it did. -/
def fnExactAddTaggedSpec : ChangeSpec := { name := "fnExactAddTagged", fn := fun _ => fun
  | [d1, d2] => { results := [.lit (.bool true)], args := [d1, d2] }
  | _ => none }
def fnExactAddTaggedRow : OpenClaim := { program := "ytipiablfoddmmaa", sum := "79ee84c94157977d4e29089a1345457e58b0670118a3bc5205dc0759cf5683bb", func := "loop.example/g00350/laws.FnExactAddTagged", spec := "fnExactAddTagged", apart := false }
def FnExactAddTaggedSaid : Prop := fnExactAddTaggedRow.holds Try.pinned (OpenSpec.ofChange fnExactAddTaggedSpec)

/-- ITS FALSE NEIGHBOUR: 'it returns false'. Refute it at one input. -/
def fnExactAddTaggedWrong : ChangeSpec := { name := "fnExactAddTagged", fn := fun _ => fun
  | [d1, d2] => { results := [.lit (.bool false)], args := [d1, d2] }
  | _ => none }
def FnExactAddTaggedWrongFalsely : Prop := fnExactAddTaggedRow.holds Try.pinned (OpenSpec.ofChange fnExactAddTaggedWrong)

/-- 'laws.FnExactMulTagged': WHATEVER THE INPUT: true; the input reads as it did. -/
def fnExactMulTaggedSpec : ChangeSpec := { name := "fnExactMulTagged", fn := fun _ => fun
  | [d1, d2] => { results := [.lit (.bool true)], args := [d1, d2] }
  | _ => none }
def fnExactMulTaggedRow : OpenClaim := { program := "ytipiablfoddmmaa", sum := "79ee84c94157977d4e29089a1345457e58b0670118a3bc5205dc0759cf5683bb", func := "loop.example/g00350/laws.FnExactMulTagged", spec := "fnExactMulTagged", apart := false }
def FnExactMulTaggedSaid : Prop := fnExactMulTaggedRow.holds Try.pinned (OpenSpec.ofChange fnExactMulTaggedSpec)

/-- ITS FALSE NEIGHBOUR: 'it returns false'. Refute it at one input. -/
def fnExactMulTaggedWrong : ChangeSpec := { name := "fnExactMulTagged", fn := fun _ => fun
  | [d1, d2] => { results := [.lit (.bool false)], args := [d1, d2] }
  | _ => none }
def FnExactMulTaggedWrongFalsely : Prop := fnExactMulTaggedRow.holds Try.pinned (OpenSpec.ofChange fnExactMulTaggedWrong)

/-- 'laws.FnExactPlanMul': WHATEVER THE INPUT: true; the input reads as it did. -/
def fnExactPlanMulSpec : ChangeSpec := { name := "fnExactPlanMul", fn := fun _ => fun
  | [d] => { results := [.lit (.bool true)], args := [d] }
  | _ => none }
def fnExactPlanMulRow : OpenClaim := { program := "ytipiablfoddmmaa", sum := "79ee84c94157977d4e29089a1345457e58b0670118a3bc5205dc0759cf5683bb", func := "loop.example/g00350/laws.FnExactPlanMul", spec := "fnExactPlanMul", apart := false }
def FnExactPlanMulSaid : Prop := fnExactPlanMulRow.holds Try.pinned (OpenSpec.ofChange fnExactPlanMulSpec)

/-- ITS FALSE NEIGHBOUR: 'it returns false'. Refute it at one input. -/
def fnExactPlanMulWrong : ChangeSpec := { name := "fnExactPlanMul", fn := fun _ => fun
  | [d] => { results := [.lit (.bool false)], args := [d] }
  | _ => none }
def FnExactPlanMulWrongFalsely : Prop := fnExactPlanMulRow.holds Try.pinned (OpenSpec.ofChange fnExactPlanMulWrong)

/-- 'laws.FnExactJoinFacts': WHATEVER THE INPUT: true; the input reads as it did. -/
def fnExactJoinFactsSpec : ChangeSpec := { name := "fnExactJoinFacts", fn := fun _ => fun
  | [d1, d2] => { results := [.lit (.bool true)], args := [d1, d2] }
  | _ => none }
def fnExactJoinFactsRow : OpenClaim := { program := "ytipiablfoddmmaa", sum := "79ee84c94157977d4e29089a1345457e58b0670118a3bc5205dc0759cf5683bb", func := "loop.example/g00350/laws.FnExactJoinFacts", spec := "fnExactJoinFacts", apart := false }
def FnExactJoinFactsSaid : Prop := fnExactJoinFactsRow.holds Try.pinned (OpenSpec.ofChange fnExactJoinFactsSpec)

/-- ITS FALSE NEIGHBOUR: 'it returns false'. Refute it at one input. -/
def fnExactJoinFactsWrong : ChangeSpec := { name := "fnExactJoinFacts", fn := fun _ => fun
  | [d1, d2] => { results := [.lit (.bool false)], args := [d1, d2] }
  | _ => none }
def FnExactJoinFactsWrongFalsely : Prop := fnExactJoinFactsRow.holds Try.pinned (OpenSpec.ofChange fnExactJoinFactsWrong)

/-- 'laws.FnExactMeetRanges': WHATEVER THE INPUT: true; the input reads as it did. -/
def fnExactMeetRangesSpec : ChangeSpec := { name := "fnExactMeetRanges", fn := fun _ => fun
  | [d1, d2] => { results := [.lit (.bool true)], args := [d1, d2] }
  | _ => none }
def fnExactMeetRangesRow : OpenClaim := { program := "ytipiablfoddmmaa", sum := "79ee84c94157977d4e29089a1345457e58b0670118a3bc5205dc0759cf5683bb", func := "loop.example/g00350/laws.FnExactMeetRanges", spec := "fnExactMeetRanges", apart := false }
def FnExactMeetRangesSaid : Prop := fnExactMeetRangesRow.holds Try.pinned (OpenSpec.ofChange fnExactMeetRangesSpec)

/-- ITS FALSE NEIGHBOUR: 'it returns false'. Refute it at one input. -/
def fnExactMeetRangesWrong : ChangeSpec := { name := "fnExactMeetRanges", fn := fun _ => fun
  | [d1, d2] => { results := [.lit (.bool false)], args := [d1, d2] }
  | _ => none }
def FnExactMeetRangesWrongFalsely : Prop := fnExactMeetRangesRow.holds Try.pinned (OpenSpec.ofChange fnExactMeetRangesWrong)

/-- 'laws.FnExactJoinRanges': WHATEVER THE INPUT: true; the input reads as it did. -/
def fnExactJoinRangesSpec : ChangeSpec := { name := "fnExactJoinRanges", fn := fun _ => fun
  | [d1, d2] => { results := [.lit (.bool true)], args := [d1, d2] }
  | _ => none }
def fnExactJoinRangesRow : OpenClaim := { program := "ytipiablfoddmmaa", sum := "79ee84c94157977d4e29089a1345457e58b0670118a3bc5205dc0759cf5683bb", func := "loop.example/g00350/laws.FnExactJoinRanges", spec := "fnExactJoinRanges", apart := false }
def FnExactJoinRangesSaid : Prop := fnExactJoinRangesRow.holds Try.pinned (OpenSpec.ofChange fnExactJoinRangesSpec)

/-- ITS FALSE NEIGHBOUR: 'it returns false'. Refute it at one input. -/
def fnExactJoinRangesWrong : ChangeSpec := { name := "fnExactJoinRanges", fn := fun _ => fun
  | [d1, d2] => { results := [.lit (.bool false)], args := [d1, d2] }
  | _ => none }
def FnExactJoinRangesWrongFalsely : Prop := fnExactJoinRangesRow.holds Try.pinned (OpenSpec.ofChange fnExactJoinRangesWrong)

/- THE SECOND FORM. 'bulk': how many values and letters a reading holds, each counted each time it is reached (what is shared counts as often as it is met; a slice's spare places count too). A statement '..UptoSaid' is the law's where the arguments, and the package variables that the reading takes, are together of bulk at most 1048576: NARROWER than '..Said'. Prove '..Said' where nothing that the law and all that it calls make is longer than what came in: it says more and counts as full. Else prove '..UptoSaid'. A law counts once. -/
mutual
def uptoBulk {H : Type} : DataW H → Nat
  | .lit (.string bytes) => bytes.length + 1
  | .lit _ => 1
  | .nil => 1
  | .ptr d => uptoBulk d + 1
  | .slice elems spare => uptoBulkAll elems + uptoBulkAll spare + 1
  | .agg parts => uptoBulkAll parts + 1
  | .iface _ d => uptoBulk d + 1
  | .map entries => uptoBulkEntries entries + 1
  | .held _ => 1
def uptoBulkAll {H : Type} : List (DataW H) → Nat
  | [] => 0
  | d :: r => uptoBulk d + uptoBulkAll r
def uptoBulkEntries {H : Type} : List (Lit × DataW H) → Nat
  | [] => 0
  | x :: r => uptoBulkEntry x + uptoBulkEntries r
def uptoBulkEntry {H : Type} : Lit × DataW H → Nat
  | (.string bytes, d) => bytes.length + uptoBulk d + 1
  | (_, d) => uptoBulk d + 1
 end
def uptoSmall : (H : Type) → List (DataW H) → Bool := fun _ ds => decide (uptoBulkAll ds ≤ 1048576)
def OpenSpec.upto (s : _root_.Go.ChangeSpec) : _root_.Go.OpenSpec := { _root_.Go.OpenSpec.ofChange s with cond := some uptoSmall }

/-- 'laws.FnExactAddTagged', WHERE WHAT IT READS IS OF BULK AT MOST 1048576: true; the input reads as it did. -/
def fnExactAddTaggedUptoRow : OpenClaim := { program := "ytipiablfoddmmaa", sum := "79ee84c94157977d4e29089a1345457e58b0670118a3bc5205dc0759cf5683bb", func := "loop.example/g00350/laws.FnExactAddTagged", spec := "fnExactAddTagged", apart := false, narrowed := true }
def FnExactAddTaggedUptoSaid : Prop := fnExactAddTaggedUptoRow.holds Try.pinned (OpenSpec.upto fnExactAddTaggedSpec)

/-- 'laws.FnExactMulTagged', WHERE WHAT IT READS IS OF BULK AT MOST 1048576: true; the input reads as it did. -/
def fnExactMulTaggedUptoRow : OpenClaim := { program := "ytipiablfoddmmaa", sum := "79ee84c94157977d4e29089a1345457e58b0670118a3bc5205dc0759cf5683bb", func := "loop.example/g00350/laws.FnExactMulTagged", spec := "fnExactMulTagged", apart := false, narrowed := true }
def FnExactMulTaggedUptoSaid : Prop := fnExactMulTaggedUptoRow.holds Try.pinned (OpenSpec.upto fnExactMulTaggedSpec)

/-- 'laws.FnExactPlanMul', WHERE WHAT IT READS IS OF BULK AT MOST 1048576: true; the input reads as it did. -/
def fnExactPlanMulUptoRow : OpenClaim := { program := "ytipiablfoddmmaa", sum := "79ee84c94157977d4e29089a1345457e58b0670118a3bc5205dc0759cf5683bb", func := "loop.example/g00350/laws.FnExactPlanMul", spec := "fnExactPlanMul", apart := false, narrowed := true }
def FnExactPlanMulUptoSaid : Prop := fnExactPlanMulUptoRow.holds Try.pinned (OpenSpec.upto fnExactPlanMulSpec)

/-- 'laws.FnExactJoinFacts', WHERE WHAT IT READS IS OF BULK AT MOST 1048576: true; the input reads as it did. -/
def fnExactJoinFactsUptoRow : OpenClaim := { program := "ytipiablfoddmmaa", sum := "79ee84c94157977d4e29089a1345457e58b0670118a3bc5205dc0759cf5683bb", func := "loop.example/g00350/laws.FnExactJoinFacts", spec := "fnExactJoinFacts", apart := false, narrowed := true }
def FnExactJoinFactsUptoSaid : Prop := fnExactJoinFactsUptoRow.holds Try.pinned (OpenSpec.upto fnExactJoinFactsSpec)

/-- 'laws.FnExactMeetRanges', WHERE WHAT IT READS IS OF BULK AT MOST 1048576: true; the input reads as it did. -/
def fnExactMeetRangesUptoRow : OpenClaim := { program := "ytipiablfoddmmaa", sum := "79ee84c94157977d4e29089a1345457e58b0670118a3bc5205dc0759cf5683bb", func := "loop.example/g00350/laws.FnExactMeetRanges", spec := "fnExactMeetRanges", apart := false, narrowed := true }
def FnExactMeetRangesUptoSaid : Prop := fnExactMeetRangesUptoRow.holds Try.pinned (OpenSpec.upto fnExactMeetRangesSpec)

/-- 'laws.FnExactJoinRanges', WHERE WHAT IT READS IS OF BULK AT MOST 1048576: true; the input reads as it did. -/
def fnExactJoinRangesUptoRow : OpenClaim := { program := "ytipiablfoddmmaa", sum := "79ee84c94157977d4e29089a1345457e58b0670118a3bc5205dc0759cf5683bb", func := "loop.example/g00350/laws.FnExactJoinRanges", spec := "fnExactJoinRanges", apart := false, narrowed := true }
def FnExactJoinRangesUptoSaid : Prop := fnExactJoinRangesUptoRow.holds Try.pinned (OpenSpec.upto fnExactJoinRangesSpec)

end Rows
end Go.Proofs.Ytipiablfoddmmaa
