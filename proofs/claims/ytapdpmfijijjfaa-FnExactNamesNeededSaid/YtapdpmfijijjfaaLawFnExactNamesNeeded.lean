-- printed by a turned copy of the print
/- The row of the law loop.example/g00350/laws.FnExactNamesNeeded, out of its pure statement and the walks. It says what Rows.FnExactNamesNeededSaid says; no condition of its own. -/
import Derived.Test.YtapdpmfijijjfaaRows
import Derived.Test.YtapdpmfijijjfaaPFnExactNamesNeededx6
import Derived.Test.YtapdpmfijijjfaaPureFnExactNamesNeeded
import Derived.Test.YtapdpmfijijjfaaOpens
import Derived.WalkKit
import Derived.ProofKit
import Derived.OpenShut
import Derived.ShutString
import Derived.ChangeOld
import Derived.Below
import Derived.SizedLaws
import Derived.Test.YtapdpmfijijjfaaWSized
namespace Go.Proofs.Ytapdpmfijijjfaa.fnExactNamesNeeded
open Go.ChangeShapes Go.WideShapes Go.ChangeAt Go.RowKit Go.Proofs.YtapdpmfijijjfaaW.PrintWords Go.Proofs.Ytapdpmfijijjfaa.PFnExactNamesNeeded Go.Proofs.Ytapdpmfijijjfaa.Opens
open Go.ChangeMaps (open_string shut_string)
set_option linter.unusedVariables false
theorem own : ownKnob Try.prog.godebug = none := by kernel_rfl
theorem laidOut : laidOutB Try.prog = true := by kernel_rfl
theorem opens3 : Opens Try.prog 3 (Kd.int .i64) (fun x => (Lit.int .i64 x).wf = true) := opens_int Try.underlying3
theorem opens64 : Opens Try.prog 64 k64 (fun x => ((Lit.int .i64 x.f0).wf = true ∧ (Lit.int .i64 x.f1).wf = true ∧ (Lit.int .i64 x.f2).wf = true ∧ (Lit.int .i64 x.f3).wf = true ∧ (Lit.int .i64 x.f4).wf = true)) := opens_iso (fun x : S64 => (x.f0, x.f1, x.f2, x.f3, x.f4)) (fun x => ⟨x.1, x.2.1, x.2.2.1, x.2.2.2.1, x.2.2.2.2⟩) (fun _ => rfl) (opens_struct5 Try.underlying64 (by kernel_rfl) ⟨rfl, rfl, rfl, rfl, rfl⟩ ⟨by kernel_rfl, by kernel_rfl, by kernel_rfl, by kernel_rfl, by kernel_rfl⟩ opens3 opens3 opens3 opens3 opens3)
theorem opens37 : Opens Try.prog 37 (Kd.slice 64 k64) (fun x => (x.length ≤ 9223372036854775807 ∧ ∀ y0_ ∈ x, ((Lit.int .i64 y0_.f0).wf = true ∧ (Lit.int .i64 y0_.f1).wf = true ∧ (Lit.int .i64 y0_.f2).wf = true ∧ (Lit.int .i64 y0_.f3).wf = true ∧ (Lit.int .i64 y0_.f4).wf = true))) := opens_slice Try.underlying37 (by kernel_rfl) opens64 ⟨z64, trivial⟩
set_option maxRecDepth 100000 in
theorem lifted (os : Os) (started : os.Started) (H : Type) (enc : TypeId × Value → H) :
    ReturnsInHanded {} Try.checked os 5 .any (Rows.fnExactNamesNeededSpec.pre6 enc Try.prog Try.f5 Rows.fnExactNamesNeededRow.domain false) (Rows.fnExactNamesNeededSpec.post enc Try.prog Try.f5 false true false false) := by
  refine returnsInHanded_of_change_sized (C := Try.checked) own started (by kernel_rfl) Try.func5
    (ChangeSpec.witness6 (enc := enc) (C := Try.checked) false ⟨#[], #[.slice none 0 0], []⟩ 8 (by kernel_rfl) (by kernel_rfl) (by kernel_rfl) (by kernel_rfl)) ?_
  intro W base args ds gs before hval0 hW hcnd hsz0 _
  have hsz : (DataW.weightsEach Try.prog (Try.f5.params.toList ++ Rows.fnExactNamesNeededSpec.plain.varTypes Try.prog) (ds ++ gs)).all (· ≤ reachBytes) = true := hsz0
  have hval : ∀ (j : Nat) t v, Try.f5.params[j]? = some t → args[j]? = some v → Value.okWide Try.prog W .any base t v := hval0
  have hW' := hW
  obtain ⟨p, q, hA0, hV, rfl, hfz, hnd⟩ := hW
  have hA : DataW.TrodAll enc Try.prog W 0 (fun _ => true) true Try.f5.params.toList args.toList ds p := hA0
  rw [Try.params5] at hA hval hsz
  obtain ⟨v0, vs0, d0, ds0, p0, q0, hargs, rfl, rfl, h0, r0⟩ := trodAll_cons hA
  obtain ⟨rfl, rfl, rfl⟩ := trodAll_nil r0
  obtain rfl : args = #[v0] := by cases args; simp_all
  obtain ⟨rfl, rfl⟩ := trodVars_none hV
  obtain ⟨a0, len0, cap0, rfl⟩ := okWide_slice Try.underlying37 (hval 0 37 v0 rfl rfl)
  have k0 := h0
  have lt0 : ∀ x ∈ p0, x.block < W.heap.size := by obtain ⟨m, hm⟩ := k0; exact DataW.trod_lt m _ _ _ hm
  obtain ⟨l0, rfl, hc0, hr0, F0⟩ := take_slice opens37 h0
  clear hA0 hval0 hsz0 hsz
  obtain ⟨k, hk⟩ := Pure.FnExactNamesNeeded l0 F0
  refine (laws_FnExactNamesNeeded.calls k a0 cap0 l0 W hr0 hc0 hk).mono fun e W' ⟨he, bel0⟩ => ?_
  have bel : Below W.heap.size W W' := bel0
  subst he
  exact ⟨_, rfl, _, _, _, [], _, [], hW', trodAll_mk1 (shut_bool Try.underlying4 _), (trodAll_cons_mk (Below.trod laidOut (by kernel_rfl) (of_decide_eq_true (by kernel_rfl)) k0 bel lt0) trodAll_mk0), rfl, bel.frame _, fun h => by cases h⟩
theorem over : Rows.fnExactNamesNeededRow.holds Try.pinned (OpenSpec.ofChange Rows.fnExactNamesNeededSpec) :=
  OpenClaim.holds_of_wide 5 Try.f5 rfl rfl rfl rfl rfl rfl rfl ⟨rfl, rfl, rfl, rfl, rfl⟩ rfl rfl rfl rfl rfl (by kernel_rfl) Try.func5 (by kernel_rfl)
    (of_decide_eq_true (by kernel_rfl)) (by unfold Func.isWrapper; first | (rw [if_pos (by decide +kernel)]; kernel_rfl) | (rw [if_neg (by decide +kernel)]; exact ⟨rfl, rfl⟩))
    (fun os started H enc _ => lifted os started H enc)
theorem proved : Rows.FnExactNamesNeededSaid := over
#print axioms proved
end Go.Proofs.Ytapdpmfijijjfaa.fnExactNamesNeeded
namespace Go.Proofs.Ytapdpmfijijjfaa
/-- The row, under a short name, for the claim. -/
theorem fnExactNamesNeeded_holds : Rows.FnExactNamesNeededSaid := fnExactNamesNeeded.proved
end Go.Proofs.Ytapdpmfijijjfaa
