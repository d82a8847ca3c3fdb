-- printed by a turned copy of the print
import Derived.Test.YtapdpmfijijjfaaPFnCodex0
import Derived.Test.YtapdpmfijijjfaaPFnCodex2
import Derived.Test.YtapdpmfijijjfaaPFnCodex5
import Derived.Test.YtapdpmfijijjfaaPFnCodex6
import Derived.Test.YtapdpmfijijjfaaPFnCodex7
import Derived.Test.YtapdpmfijijjfaaPFnCodex8
import Derived.Test.YtapdpmfijijjfaaPFnCodex9
import Derived.Test.YtapdpmfijijjfaaPFnCodex10
namespace Go.Proofs.Ytapdpmfijijjfaa.PFnCode
open Go.RowKit Go.Proofs.YtapdpmfijijjfaaW.PrintWords Go.Proofs.YtapdpmfijijjfaaW.PrintLast Go.Proofs.YtapdpmfijijjfaaW.PrintMore
attribute [local go_sem] max2_int min2_int max_two min_two max_three min_three max_four min_four   -- for this text's walks alone
set_option linter.unusedVariables false
set_option linter.unusedSimpArgs false

/-! ### laws_FnCode: function 3 -/
mutual
def laws_FnCode.j0 : Nat → List Int → List (S53) → List Int → List Int → List Int → Bool → Bool → Option (Bool)
 | 0, _, _, _, _, _, _, _ => none
 | k + 1, x1, x5, x6, x7, x8, x9, x85 => if x85 = true then (some false) else (if x9 = true then ((laws_numberOf.f k x1).bind fun t415 => (if (wrap64 ((x5.length : Int) + 1)) = 0 then (none) else (if 0 ≤ (Int.tmod t415 (wrap64 ((x5.length : Int) + 1))) then (if (Int.tmod t415 (wrap64 ((x5.length : Int) + 1))) ≤ (x5.length : Int) then ((impl_RunCode.f k (x5.take ((Int.tmod t415 (wrap64 ((x5.length : Int) + 1))) : Int).toNat) x6).bind fun bt420 => ((impl_RunCode.f k (x5.drop ((Int.tmod t415 (wrap64 ((x5.length : Int) + 1))) : Int).toNat) bt420.2.1).bind fun bt431 => (if bt420.2.2 = true then (if bt431.2.2 = true then ((laws_sameInts.f k bt431.2.1 x8).bind fun t438 => (if t438 = true then ((some (([] : List Int) : List Int)).bind fun y439 => (if y439.length + bt420.1.length < 17592186044416 then ((some (y439 ++ bt420.1 : List Int)).bind fun y442 => (if y442.length + bt431.1.length < 17592186044416 then ((laws_sameInts.f k (y442 ++ bt431.1) x7).bind fun t448 => (laws_FnCode.j1 k x1 x5 x6 x7 x8 (Int.tmod t415 (wrap64 ((x5.length : Int) + 1))) (!t448))) else (none))) else (none))) else (laws_FnCode.j1 k x1 x5 x6 x7 x8 (Int.tmod t415 (wrap64 ((x5.length : Int) + 1))) true))) else (laws_FnCode.j1 k x1 x5 x6 x7 x8 (Int.tmod t415 (wrap64 ((x5.length : Int) + 1))) true)) else (laws_FnCode.j1 k x1 x5 x6 x7 x8 (Int.tmod t415 (wrap64 ((x5.length : Int) + 1))) true)))) else (none)) else (none)))) else (laws_FnCode.j6 k x1))
def laws_FnCode.j6 : Nat → List Int → Option (Bool)
 | 0, _ => none
 | k + 1, x1 => (spec_DrawNamesNeeded.f k x1).bind fun t487 => ((impl_NamesNeeded.f k t487).bind fun bt490 => ((spec_NamesNeeded.f k t487).bind fun bt494 => ((impl_NamesSet.f k t487).bind fun bt498 => ((spec_NamesSet.f k t487).bind fun bt502 => (if (bt490.2 == bt494.2) = true then ((laws_sameInts.f k bt490.1 bt494.1).bind fun t506 => (if t506 = true then (if (bt498.2 == bt502.2) = true then ((laws_sameInts.f k bt498.1 bt502.1).bind fun t507 => (some t507)) else (some false)) else (some false))) else (some false))))))
def laws_FnCode.j1 : Nat → List Int → List (S53) → List Int → List Int → List Int → Int → Bool → Option (Bool)
 | 0, _, _, _, _, _, _, _ => none
 | k + 1, x1, x5, x6, x7, x8, x13, x132 => if x132 = true then (some false) else ((impl_NamesNeeded.f k x5).bind fun bt449 => ((impl_NamesSet.f k x5).bind fun bt453 => (if bt449.2 = true then (laws_FnCode.j2 k x1 x5 x6 x7 x8 x13 bt449.1 bt453.1 (!bt453.2)) else (laws_FnCode.j2 k x1 x5 x6 x7 x8 x13 bt449.1 bt453.1 true))))
def laws_FnCode.j2 : Nat → List Int → List (S53) → List Int → List Int → List Int → Int → List Int → List Int → Bool → Option (Bool)
 | 0, _, _, _, _, _, _, _, _, _ => none
 | k + 1, x1, x5, x6, x7, x8, x13, x20, x22, x148 => if x148 = true then (some false) else ((some (([] : List Int) : List Int)).bind fun y457 => (if y457.length + x6.length < 17592186044416 then ((some (y457 ++ x6 : List Int)).bind fun y460 => (laws_FnCode.l0 k x1 x5 x6 x7 x8 x13 x20 x22 y460 (y460.length : Int) 0)) else (none)))
def laws_FnCode.l0 : Nat → List Int → List (S53) → List Int → List Int → List Int → Int → List Int → List Int → List Int → Int → Int → Option (Bool)
 | 0, _, _, _, _, _, _, _, _, _, _, _ => none
 | k + 1, x1, x5, x6, x7, x8, x13, x20, x22, x24, x153, x154 => if x154 < x153 then ((laws_has.f k x20 x154).bind fun t463 => (if t463 = true then (laws_FnCode.l0 k x1 x5 x6 x7 x8 x13 x20 x22 x24 x153 (wrap64 (x154 + 1))) else (if 0 ≤ x154 then (if x154 < (x24.length : Int) then (laws_FnCode.l0 k x1 x5 x6 x7 x8 x13 x20 x22 (x24.set (x154 : Int).toNat (Go.bits .and .i64 (wrap64 ((wrap64 ((rd x24 x154) + 1)) + x13)) 65535)) x153 (wrap64 (x154 + 1))) else (none)) else (none)))) else ((impl_RunCode.f k x5 x24).bind fun bt466 => (if bt466.2.2 = true then ((laws_sameInts.f k bt466.1 x7).bind fun t473 => (laws_FnCode.j4 k x1 x6 x8 x22 x24 bt466.2.1 (!t473))) else (laws_FnCode.j4 k x1 x6 x8 x22 x24 bt466.2.1 true)))
def laws_FnCode.j4 : Nat → List Int → List Int → List Int → List Int → List Int → List Int → Bool → Option (Bool)
 | 0, _, _, _, _, _, _, _ => none
 | k + 1, x1, x6, x8, x22, x24, x27, x187 => if x187 = true then (some false) else (laws_FnCode.l1 k x1 x6 x8 x22 x24 x27 (x27.length : Int) 0)
def laws_FnCode.l1 : Nat → List Int → List Int → List Int → List Int → List Int → List Int → Int → Int → Option (Bool)
 | 0, _, _, _, _, _, _, _, _ => none
 | k + 1, x1, x6, x8, x22, x24, x27, x189, x190 => if x190 < x189 then ((laws_has.f k x22 x190).bind fun t474 => (if t474 = true then (if 0 ≤ x190 then (if x190 < (x27.length : Int) then (if x190 < (x8.length : Int) then (if (rd x27 x190) = (rd x8 x190) then ((laws_has.f k x22 x190).bind fun t477 => (if t477 = true then (laws_FnCode.l1 k x1 x6 x8 x22 x24 x27 x189 (wrap64 (x190 + 1))) else (if x190 < (x24.length : Int) then (if (rd x27 x190) = (rd x24 x190) then (if x190 < (x6.length : Int) then (if (rd x8 x190) = (rd x6 x190) then (laws_FnCode.l1 k x1 x6 x8 x22 x24 x27 x189 (wrap64 (x190 + 1))) else (some false)) else (none)) else (some false)) else (none)))) else (some false)) else (none)) else (none)) else (none)) else ((laws_has.f k x22 x190).bind fun t482 => (if t482 = true then (laws_FnCode.l1 k x1 x6 x8 x22 x24 x27 x189 (wrap64 (x190 + 1))) else (if 0 ≤ x190 then (if x190 < (x27.length : Int) then (if x190 < (x24.length : Int) then (if (rd x27 x190) = (rd x24 x190) then (if x190 < (x8.length : Int) then (if x190 < (x6.length : Int) then (if (rd x8 x190) = (rd x6 x190) then (laws_FnCode.l1 k x1 x6 x8 x22 x24 x27 x189 (wrap64 (x190 + 1))) else (some false)) else (none)) else (none)) else (some false)) else (none)) else (none)) else (none)))))) else (laws_FnCode.j6 k x1)
end
def laws_FnCode.f (k : Nat) (l0 : List Int) (l1 : List Int) : Option (Bool) := if (wrap64 ((l0.length : Int) + (l1.length : Int))) > 1048576 then (some true) else ((spec_DrawRunCode.f k l0).bind fun bt391 => ((impl_RunCode.f k bt391.1 bt391.2).bind fun bt397 => ((spec_RunCode.f k bt391.1 bt391.2).bind fun bt404 => (if (bt397.2.2 != bt404.2.2) = true then (laws_FnCode.j0 k l1 bt391.1 bt391.2 bt397.1 bt397.2.1 bt397.2.2 true) else ((laws_sameInts.f k bt397.1 bt404.1).bind fun t411 => (if t411 = true then ((laws_sameInts.f k bt397.2.1 bt404.2.1).bind fun t412 => (if t412 = true then ((impl_GoodCode.f k bt391.1).bind fun t413 => ((spec_GoodCode.f k bt391.1).bind fun t414 => (laws_FnCode.j0 k l1 bt391.1 bt391.2 bt397.1 bt397.2.1 bt397.2.2 (t413 != t414)))) else (laws_FnCode.j0 k l1 bt391.1 bt391.2 bt397.1 bt397.2.1 bt397.2.2 true))) else (laws_FnCode.j0 k l1 bt391.1 bt391.2 bt397.1 bt397.2.1 bt397.2.2 true)))))))
theorem laws_FnCode.mono_l : ∀ k, (∀ y0 y1 y2 y3 y4 y5 y6, LeO (laws_FnCode.j0 k y0 y1 y2 y3 y4 y5 y6) (laws_FnCode.j0 (k + 1) y0 y1 y2 y3 y4 y5 y6)) ∧ (∀ y0, LeO (laws_FnCode.j6 k y0) (laws_FnCode.j6 (k + 1) y0)) ∧ (∀ y0 y1 y2 y3 y4 y5 y6, LeO (laws_FnCode.j1 k y0 y1 y2 y3 y4 y5 y6) (laws_FnCode.j1 (k + 1) y0 y1 y2 y3 y4 y5 y6)) ∧ (∀ y0 y1 y2 y3 y4 y5 y6 y7 y8, LeO (laws_FnCode.j2 k y0 y1 y2 y3 y4 y5 y6 y7 y8) (laws_FnCode.j2 (k + 1) y0 y1 y2 y3 y4 y5 y6 y7 y8)) ∧ (∀ y0 y1 y2 y3 y4 y5 y6 y7 y8 y9 y10, LeO (laws_FnCode.l0 k y0 y1 y2 y3 y4 y5 y6 y7 y8 y9 y10) (laws_FnCode.l0 (k + 1) y0 y1 y2 y3 y4 y5 y6 y7 y8 y9 y10)) ∧ (∀ y0 y1 y2 y3 y4 y5 y6, LeO (laws_FnCode.j4 k y0 y1 y2 y3 y4 y5 y6) (laws_FnCode.j4 (k + 1) y0 y1 y2 y3 y4 y5 y6)) ∧ (∀ y0 y1 y2 y3 y4 y5 y6 y7, LeO (laws_FnCode.l1 k y0 y1 y2 y3 y4 y5 y6 y7) (laws_FnCode.l1 (k + 1) y0 y1 y2 y3 y4 y5 y6 y7))
 | 0 => ⟨fun _ _ _ _ _ _ _ r h => by simp [laws_FnCode.j0] at h, fun _ r h => by simp [laws_FnCode.j6] at h, fun _ _ _ _ _ _ _ r h => by simp [laws_FnCode.j1] at h, fun _ _ _ _ _ _ _ _ _ r h => by simp [laws_FnCode.j2] at h, fun _ _ _ _ _ _ _ _ _ _ _ r h => by simp [laws_FnCode.l0] at h, fun _ _ _ _ _ _ _ r h => by simp [laws_FnCode.j4] at h, fun _ _ _ _ _ _ _ _ r h => by simp [laws_FnCode.l1] at h⟩
 | k + 1 => by
  obtain ⟨ih0, ih1, ih2, ih3, ih4, ih5, ih6⟩ := laws_FnCode.mono_l k
  refine ⟨?_, ?_, ?_, ?_, ?_, ?_, ?_⟩
  ·intro y0 y1 y2 y3 y4 y5 y6
   unfold laws_FnCode.j0
   repeat' first
   | (with_reducible exact ih0 _ _ _ _ _ _ _)
   | (with_reducible exact ih1 _)
   | (with_reducible exact ih2 _ _ _ _ _ _ _)
   | (with_reducible exact ih3 _ _ _ _ _ _ _ _ _)
   | (with_reducible exact ih4 _ _ _ _ _ _ _ _ _ _ _)
   | (with_reducible exact ih5 _ _ _ _ _ _ _)
   | (with_reducible exact ih6 _ _ _ _ _ _ _ _)
   | (with_reducible exact impl_GoodCode.mono _ _)
   | (with_reducible exact impl_NamesNeeded.mono _ _)
   | (with_reducible exact impl_NamesSet.mono _ _)
   | (with_reducible exact impl_RunCode.mono _ _ _)
   | (with_reducible exact laws_has.mono _ _ _)
   | (with_reducible exact laws_numberOf.mono _ _)
   | (with_reducible exact laws_sameInts.mono _ _ _)
   | (with_reducible exact spec_DrawNamesNeeded.mono _ _)
   | (with_reducible exact spec_DrawRunCode.mono _ _)
   | (with_reducible exact spec_GoodCode.mono _ _)
   | (with_reducible exact spec_NamesNeeded.mono _ _)
   | (with_reducible exact spec_NamesSet.mono _ _)
   | (with_reducible exact spec_RunCode.mono _ _ _)
   | (with_reducible exact LeO.refl _)
   | (with_reducible exact LeO.none _)
   | (with_reducible refine LeO.ite ?_ ?_)
   | (with_reducible refine LeO.bind ?_ (fun _ => ?_))
   | exact ih0 _ _ _ _ _ _ _
   | exact ih1 _
   | exact ih2 _ _ _ _ _ _ _
   | exact ih3 _ _ _ _ _ _ _ _ _
   | exact ih4 _ _ _ _ _ _ _ _ _ _ _
   | exact ih5 _ _ _ _ _ _ _
   | exact ih6 _ _ _ _ _ _ _ _
   | exact impl_GoodCode.mono _ _
   | exact impl_NamesNeeded.mono _ _
   | exact impl_NamesSet.mono _ _
   | exact impl_RunCode.mono _ _ _
   | exact laws_has.mono _ _ _
   | exact laws_numberOf.mono _ _
   | exact laws_sameInts.mono _ _ _
   | exact spec_DrawNamesNeeded.mono _ _
   | exact spec_DrawRunCode.mono _ _
   | exact spec_GoodCode.mono _ _
   | exact spec_NamesNeeded.mono _ _
   | exact spec_NamesSet.mono _ _
   | exact spec_RunCode.mono _ _ _
   | exact LeO.none _
   | refine LeO.ite ?_ ?_
   | refine LeO.bind ?_ (fun _ => ?_)
  ·intro y0
   unfold laws_FnCode.j6
   repeat' first
   | (with_reducible exact ih0 _ _ _ _ _ _ _)
   | (with_reducible exact ih1 _)
   | (with_reducible exact ih2 _ _ _ _ _ _ _)
   | (with_reducible exact ih3 _ _ _ _ _ _ _ _ _)
   | (with_reducible exact ih4 _ _ _ _ _ _ _ _ _ _ _)
   | (with_reducible exact ih5 _ _ _ _ _ _ _)
   | (with_reducible exact ih6 _ _ _ _ _ _ _ _)
   | (with_reducible exact impl_GoodCode.mono _ _)
   | (with_reducible exact impl_NamesNeeded.mono _ _)
   | (with_reducible exact impl_NamesSet.mono _ _)
   | (with_reducible exact impl_RunCode.mono _ _ _)
   | (with_reducible exact laws_has.mono _ _ _)
   | (with_reducible exact laws_numberOf.mono _ _)
   | (with_reducible exact laws_sameInts.mono _ _ _)
   | (with_reducible exact spec_DrawNamesNeeded.mono _ _)
   | (with_reducible exact spec_DrawRunCode.mono _ _)
   | (with_reducible exact spec_GoodCode.mono _ _)
   | (with_reducible exact spec_NamesNeeded.mono _ _)
   | (with_reducible exact spec_NamesSet.mono _ _)
   | (with_reducible exact spec_RunCode.mono _ _ _)
   | (with_reducible exact LeO.refl _)
   | (with_reducible exact LeO.none _)
   | (with_reducible refine LeO.ite ?_ ?_)
   | (with_reducible refine LeO.bind ?_ (fun _ => ?_))
   | exact ih0 _ _ _ _ _ _ _
   | exact ih1 _
   | exact ih2 _ _ _ _ _ _ _
   | exact ih3 _ _ _ _ _ _ _ _ _
   | exact ih4 _ _ _ _ _ _ _ _ _ _ _
   | exact ih5 _ _ _ _ _ _ _
   | exact ih6 _ _ _ _ _ _ _ _
   | exact impl_GoodCode.mono _ _
   | exact impl_NamesNeeded.mono _ _
   | exact impl_NamesSet.mono _ _
   | exact impl_RunCode.mono _ _ _
   | exact laws_has.mono _ _ _
   | exact laws_numberOf.mono _ _
   | exact laws_sameInts.mono _ _ _
   | exact spec_DrawNamesNeeded.mono _ _
   | exact spec_DrawRunCode.mono _ _
   | exact spec_GoodCode.mono _ _
   | exact spec_NamesNeeded.mono _ _
   | exact spec_NamesSet.mono _ _
   | exact spec_RunCode.mono _ _ _
   | exact LeO.none _
   | refine LeO.ite ?_ ?_
   | refine LeO.bind ?_ (fun _ => ?_)
  ·intro y0 y1 y2 y3 y4 y5 y6
   unfold laws_FnCode.j1
   repeat' first
   | (with_reducible exact ih0 _ _ _ _ _ _ _)
   | (with_reducible exact ih1 _)
   | (with_reducible exact ih2 _ _ _ _ _ _ _)
   | (with_reducible exact ih3 _ _ _ _ _ _ _ _ _)
   | (with_reducible exact ih4 _ _ _ _ _ _ _ _ _ _ _)
   | (with_reducible exact ih5 _ _ _ _ _ _ _)
   | (with_reducible exact ih6 _ _ _ _ _ _ _ _)
   | (with_reducible exact impl_GoodCode.mono _ _)
   | (with_reducible exact impl_NamesNeeded.mono _ _)
   | (with_reducible exact impl_NamesSet.mono _ _)
   | (with_reducible exact impl_RunCode.mono _ _ _)
   | (with_reducible exact laws_has.mono _ _ _)
   | (with_reducible exact laws_numberOf.mono _ _)
   | (with_reducible exact laws_sameInts.mono _ _ _)
   | (with_reducible exact spec_DrawNamesNeeded.mono _ _)
   | (with_reducible exact spec_DrawRunCode.mono _ _)
   | (with_reducible exact spec_GoodCode.mono _ _)
   | (with_reducible exact spec_NamesNeeded.mono _ _)
   | (with_reducible exact spec_NamesSet.mono _ _)
   | (with_reducible exact spec_RunCode.mono _ _ _)
   | (with_reducible exact LeO.refl _)
   | (with_reducible exact LeO.none _)
   | (with_reducible refine LeO.ite ?_ ?_)
   | (with_reducible refine LeO.bind ?_ (fun _ => ?_))
   | exact ih0 _ _ _ _ _ _ _
   | exact ih1 _
   | exact ih2 _ _ _ _ _ _ _
   | exact ih3 _ _ _ _ _ _ _ _ _
   | exact ih4 _ _ _ _ _ _ _ _ _ _ _
   | exact ih5 _ _ _ _ _ _ _
   | exact ih6 _ _ _ _ _ _ _ _
   | exact impl_GoodCode.mono _ _
   | exact impl_NamesNeeded.mono _ _
   | exact impl_NamesSet.mono _ _
   | exact impl_RunCode.mono _ _ _
   | exact laws_has.mono _ _ _
   | exact laws_numberOf.mono _ _
   | exact laws_sameInts.mono _ _ _
   | exact spec_DrawNamesNeeded.mono _ _
   | exact spec_DrawRunCode.mono _ _
   | exact spec_GoodCode.mono _ _
   | exact spec_NamesNeeded.mono _ _
   | exact spec_NamesSet.mono _ _
   | exact spec_RunCode.mono _ _ _
   | exact LeO.none _
   | refine LeO.ite ?_ ?_
   | refine LeO.bind ?_ (fun _ => ?_)
  ·intro y0 y1 y2 y3 y4 y5 y6 y7 y8
   unfold laws_FnCode.j2
   repeat' first
   | (with_reducible exact ih0 _ _ _ _ _ _ _)
   | (with_reducible exact ih1 _)
   | (with_reducible exact ih2 _ _ _ _ _ _ _)
   | (with_reducible exact ih3 _ _ _ _ _ _ _ _ _)
   | (with_reducible exact ih4 _ _ _ _ _ _ _ _ _ _ _)
   | (with_reducible exact ih5 _ _ _ _ _ _ _)
   | (with_reducible exact ih6 _ _ _ _ _ _ _ _)
   | (with_reducible exact impl_GoodCode.mono _ _)
   | (with_reducible exact impl_NamesNeeded.mono _ _)
   | (with_reducible exact impl_NamesSet.mono _ _)
   | (with_reducible exact impl_RunCode.mono _ _ _)
   | (with_reducible exact laws_has.mono _ _ _)
   | (with_reducible exact laws_numberOf.mono _ _)
   | (with_reducible exact laws_sameInts.mono _ _ _)
   | (with_reducible exact spec_DrawNamesNeeded.mono _ _)
   | (with_reducible exact spec_DrawRunCode.mono _ _)
   | (with_reducible exact spec_GoodCode.mono _ _)
   | (with_reducible exact spec_NamesNeeded.mono _ _)
   | (with_reducible exact spec_NamesSet.mono _ _)
   | (with_reducible exact spec_RunCode.mono _ _ _)
   | (with_reducible exact LeO.refl _)
   | (with_reducible exact LeO.none _)
   | (with_reducible refine LeO.ite ?_ ?_)
   | (with_reducible refine LeO.bind ?_ (fun _ => ?_))
   | exact ih0 _ _ _ _ _ _ _
   | exact ih1 _
   | exact ih2 _ _ _ _ _ _ _
   | exact ih3 _ _ _ _ _ _ _ _ _
   | exact ih4 _ _ _ _ _ _ _ _ _ _ _
   | exact ih5 _ _ _ _ _ _ _
   | exact ih6 _ _ _ _ _ _ _ _
   | exact impl_GoodCode.mono _ _
   | exact impl_NamesNeeded.mono _ _
   | exact impl_NamesSet.mono _ _
   | exact impl_RunCode.mono _ _ _
   | exact laws_has.mono _ _ _
   | exact laws_numberOf.mono _ _
   | exact laws_sameInts.mono _ _ _
   | exact spec_DrawNamesNeeded.mono _ _
   | exact spec_DrawRunCode.mono _ _
   | exact spec_GoodCode.mono _ _
   | exact spec_NamesNeeded.mono _ _
   | exact spec_NamesSet.mono _ _
   | exact spec_RunCode.mono _ _ _
   | exact LeO.none _
   | refine LeO.ite ?_ ?_
   | refine LeO.bind ?_ (fun _ => ?_)
  ·intro y0 y1 y2 y3 y4 y5 y6 y7 y8 y9 y10
   unfold laws_FnCode.l0
   repeat' first
   | (with_reducible exact ih0 _ _ _ _ _ _ _)
   | (with_reducible exact ih1 _)
   | (with_reducible exact ih2 _ _ _ _ _ _ _)
   | (with_reducible exact ih3 _ _ _ _ _ _ _ _ _)
   | (with_reducible exact ih4 _ _ _ _ _ _ _ _ _ _ _)
   | (with_reducible exact ih5 _ _ _ _ _ _ _)
   | (with_reducible exact ih6 _ _ _ _ _ _ _ _)
   | (with_reducible exact impl_GoodCode.mono _ _)
   | (with_reducible exact impl_NamesNeeded.mono _ _)
   | (with_reducible exact impl_NamesSet.mono _ _)
   | (with_reducible exact impl_RunCode.mono _ _ _)
   | (with_reducible exact laws_has.mono _ _ _)
   | (with_reducible exact laws_numberOf.mono _ _)
   | (with_reducible exact laws_sameInts.mono _ _ _)
   | (with_reducible exact spec_DrawNamesNeeded.mono _ _)
   | (with_reducible exact spec_DrawRunCode.mono _ _)
   | (with_reducible exact spec_GoodCode.mono _ _)
   | (with_reducible exact spec_NamesNeeded.mono _ _)
   | (with_reducible exact spec_NamesSet.mono _ _)
   | (with_reducible exact spec_RunCode.mono _ _ _)
   | (with_reducible exact LeO.refl _)
   | (with_reducible exact LeO.none _)
   | (with_reducible refine LeO.ite ?_ ?_)
   | (with_reducible refine LeO.bind ?_ (fun _ => ?_))
   | exact ih0 _ _ _ _ _ _ _
   | exact ih1 _
   | exact ih2 _ _ _ _ _ _ _
   | exact ih3 _ _ _ _ _ _ _ _ _
   | exact ih4 _ _ _ _ _ _ _ _ _ _ _
   | exact ih5 _ _ _ _ _ _ _
   | exact ih6 _ _ _ _ _ _ _ _
   | exact impl_GoodCode.mono _ _
   | exact impl_NamesNeeded.mono _ _
   | exact impl_NamesSet.mono _ _
   | exact impl_RunCode.mono _ _ _
   | exact laws_has.mono _ _ _
   | exact laws_numberOf.mono _ _
   | exact laws_sameInts.mono _ _ _
   | exact spec_DrawNamesNeeded.mono _ _
   | exact spec_DrawRunCode.mono _ _
   | exact spec_GoodCode.mono _ _
   | exact spec_NamesNeeded.mono _ _
   | exact spec_NamesSet.mono _ _
   | exact spec_RunCode.mono _ _ _
   | exact LeO.none _
   | refine LeO.ite ?_ ?_
   | refine LeO.bind ?_ (fun _ => ?_)
  ·intro y0 y1 y2 y3 y4 y5 y6
   unfold laws_FnCode.j4
   repeat' first
   | (with_reducible exact ih0 _ _ _ _ _ _ _)
   | (with_reducible exact ih1 _)
   | (with_reducible exact ih2 _ _ _ _ _ _ _)
   | (with_reducible exact ih3 _ _ _ _ _ _ _ _ _)
   | (with_reducible exact ih4 _ _ _ _ _ _ _ _ _ _ _)
   | (with_reducible exact ih5 _ _ _ _ _ _ _)
   | (with_reducible exact ih6 _ _ _ _ _ _ _ _)
   | (with_reducible exact impl_GoodCode.mono _ _)
   | (with_reducible exact impl_NamesNeeded.mono _ _)
   | (with_reducible exact impl_NamesSet.mono _ _)
   | (with_reducible exact impl_RunCode.mono _ _ _)
   | (with_reducible exact laws_has.mono _ _ _)
   | (with_reducible exact laws_numberOf.mono _ _)
   | (with_reducible exact laws_sameInts.mono _ _ _)
   | (with_reducible exact spec_DrawNamesNeeded.mono _ _)
   | (with_reducible exact spec_DrawRunCode.mono _ _)
   | (with_reducible exact spec_GoodCode.mono _ _)
   | (with_reducible exact spec_NamesNeeded.mono _ _)
   | (with_reducible exact spec_NamesSet.mono _ _)
   | (with_reducible exact spec_RunCode.mono _ _ _)
   | (with_reducible exact LeO.refl _)
   | (with_reducible exact LeO.none _)
   | (with_reducible refine LeO.ite ?_ ?_)
   | (with_reducible refine LeO.bind ?_ (fun _ => ?_))
   | exact ih0 _ _ _ _ _ _ _
   | exact ih1 _
   | exact ih2 _ _ _ _ _ _ _
   | exact ih3 _ _ _ _ _ _ _ _ _
   | exact ih4 _ _ _ _ _ _ _ _ _ _ _
   | exact ih5 _ _ _ _ _ _ _
   | exact ih6 _ _ _ _ _ _ _ _
   | exact impl_GoodCode.mono _ _
   | exact impl_NamesNeeded.mono _ _
   | exact impl_NamesSet.mono _ _
   | exact impl_RunCode.mono _ _ _
   | exact laws_has.mono _ _ _
   | exact laws_numberOf.mono _ _
   | exact laws_sameInts.mono _ _ _
   | exact spec_DrawNamesNeeded.mono _ _
   | exact spec_DrawRunCode.mono _ _
   | exact spec_GoodCode.mono _ _
   | exact spec_NamesNeeded.mono _ _
   | exact spec_NamesSet.mono _ _
   | exact spec_RunCode.mono _ _ _
   | exact LeO.none _
   | refine LeO.ite ?_ ?_
   | refine LeO.bind ?_ (fun _ => ?_)
  ·intro y0 y1 y2 y3 y4 y5 y6 y7
   unfold laws_FnCode.l1
   repeat' first
   | (with_reducible exact ih0 _ _ _ _ _ _ _)
   | (with_reducible exact ih1 _)
   | (with_reducible exact ih2 _ _ _ _ _ _ _)
   | (with_reducible exact ih3 _ _ _ _ _ _ _ _ _)
   | (with_reducible exact ih4 _ _ _ _ _ _ _ _ _ _ _)
   | (with_reducible exact ih5 _ _ _ _ _ _ _)
   | (with_reducible exact ih6 _ _ _ _ _ _ _ _)
   | (with_reducible exact impl_GoodCode.mono _ _)
   | (with_reducible exact impl_NamesNeeded.mono _ _)
   | (with_reducible exact impl_NamesSet.mono _ _)
   | (with_reducible exact impl_RunCode.mono _ _ _)
   | (with_reducible exact laws_has.mono _ _ _)
   | (with_reducible exact laws_numberOf.mono _ _)
   | (with_reducible exact laws_sameInts.mono _ _ _)
   | (with_reducible exact spec_DrawNamesNeeded.mono _ _)
   | (with_reducible exact spec_DrawRunCode.mono _ _)
   | (with_reducible exact spec_GoodCode.mono _ _)
   | (with_reducible exact spec_NamesNeeded.mono _ _)
   | (with_reducible exact spec_NamesSet.mono _ _)
   | (with_reducible exact spec_RunCode.mono _ _ _)
   | (with_reducible exact LeO.refl _)
   | (with_reducible exact LeO.none _)
   | (with_reducible refine LeO.ite ?_ ?_)
   | (with_reducible refine LeO.bind ?_ (fun _ => ?_))
   | exact ih0 _ _ _ _ _ _ _
   | exact ih1 _
   | exact ih2 _ _ _ _ _ _ _
   | exact ih3 _ _ _ _ _ _ _ _ _
   | exact ih4 _ _ _ _ _ _ _ _ _ _ _
   | exact ih5 _ _ _ _ _ _ _
   | exact ih6 _ _ _ _ _ _ _ _
   | exact impl_GoodCode.mono _ _
   | exact impl_NamesNeeded.mono _ _
   | exact impl_NamesSet.mono _ _
   | exact impl_RunCode.mono _ _ _
   | exact laws_has.mono _ _ _
   | exact laws_numberOf.mono _ _
   | exact laws_sameInts.mono _ _ _
   | exact spec_DrawNamesNeeded.mono _ _
   | exact spec_DrawRunCode.mono _ _
   | exact spec_GoodCode.mono _ _
   | exact spec_NamesNeeded.mono _ _
   | exact spec_NamesSet.mono _ _
   | exact spec_RunCode.mono _ _ _
   | exact LeO.none _
   | refine LeO.ite ?_ ?_
   | refine LeO.bind ?_ (fun _ => ?_)
theorem laws_FnCode.mono : ∀ a0 a1 k, LeO (laws_FnCode.f k a0 a1) (laws_FnCode.f (k + 1) a0 a1) := by
 intro a0 a1 k
 obtain ⟨ih0, ih1, ih2, ih3, ih4, ih5, ih6⟩ := laws_FnCode.mono_l k
 unfold laws_FnCode.f
 repeat' first
   | (with_reducible exact ih0 _ _ _ _ _ _ _)
   | (with_reducible exact ih1 _)
   | (with_reducible exact ih2 _ _ _ _ _ _ _)
   | (with_reducible exact ih3 _ _ _ _ _ _ _ _ _)
   | (with_reducible exact ih4 _ _ _ _ _ _ _ _ _ _ _)
   | (with_reducible exact ih5 _ _ _ _ _ _ _)
   | (with_reducible exact ih6 _ _ _ _ _ _ _ _)
   | (with_reducible exact impl_GoodCode.mono _ _)
   | (with_reducible exact impl_NamesNeeded.mono _ _)
   | (with_reducible exact impl_NamesSet.mono _ _)
   | (with_reducible exact impl_RunCode.mono _ _ _)
   | (with_reducible exact laws_has.mono _ _ _)
   | (with_reducible exact laws_numberOf.mono _ _)
   | (with_reducible exact laws_sameInts.mono _ _ _)
   | (with_reducible exact spec_DrawNamesNeeded.mono _ _)
   | (with_reducible exact spec_DrawRunCode.mono _ _)
   | (with_reducible exact spec_GoodCode.mono _ _)
   | (with_reducible exact spec_NamesNeeded.mono _ _)
   | (with_reducible exact spec_NamesSet.mono _ _)
   | (with_reducible exact spec_RunCode.mono _ _ _)
   | (with_reducible exact LeO.refl _)
   | (with_reducible exact LeO.none _)
   | (with_reducible refine LeO.ite ?_ ?_)
   | (with_reducible refine LeO.bind ?_ (fun _ => ?_))
   | exact ih0 _ _ _ _ _ _ _
   | exact ih1 _
   | exact ih2 _ _ _ _ _ _ _
   | exact ih3 _ _ _ _ _ _ _ _ _
   | exact ih4 _ _ _ _ _ _ _ _ _ _ _
   | exact ih5 _ _ _ _ _ _ _
   | exact ih6 _ _ _ _ _ _ _ _
   | exact impl_GoodCode.mono _ _
   | exact impl_NamesNeeded.mono _ _
   | exact impl_NamesSet.mono _ _
   | exact impl_RunCode.mono _ _ _
   | exact laws_has.mono _ _ _
   | exact laws_numberOf.mono _ _
   | exact laws_sameInts.mono _ _ _
   | exact spec_DrawNamesNeeded.mono _ _
   | exact spec_DrawRunCode.mono _ _
   | exact spec_GoodCode.mono _ _
   | exact spec_NamesNeeded.mono _ _
   | exact spec_NamesSet.mono _ _
   | exact spec_RunCode.mono _ _ _
   | exact LeO.none _
   | refine LeO.ite ?_ ?_
   | refine LeO.bind ?_ (fun _ => ?_)
def laws_FnCode.T31 : Bool × List (List Nat × List Nat) := (true, [([], []), ([], []), ([0, 1], [0, 1]), ([2, 2], [2]), ([3], [3]), ([3], [3]), ([4, 5, 3], [3, 4, 5]), ([6, 3], [3, 6]), ([3], [3]), ([3], [3]), ([8, 9, 3], [3, 8, 9]), ([10, 3], [3, 10]), ([7, 11, 3], [3, 7, 11]), ([3, 12], [3, 12]), ([13, 3], [13]), ([14], [14]), ([14], [14]), ([15, 16, 14, 14], [14, 15, 16]), ([17, 14], [14, 17]), ([18, 17, 14], [14, 18]), ([19], [19]), ([19], [19]), ([20, 21, 19], [19, 20, 21]), ([22, 19], [19, 22]), ([19], [19]), ([19], [19]), ([24, 25, 19], [19, 24, 25]), ([26, 19], [19, 26]), ([23, 27, 19], [19, 23, 27]), ([28, 19, 19], [19, 28]), ([29], [29]), ([29], [29]), ([30, 31, 29], [29, 30, 31]), ([32, 29], [29, 32]), ([29], [29]), ([29], [29]), ([34, 35, 29], [29, 34, 35]), ([36, 29], [29, 36]), ([33, 37, 29], [29, 33, 37]), ([29, 38, 19], [19, 29, 38]), ([19, 39, 14], [14, 19, 39]), ([14, 40], [14, 40])])
def laws_FnCode.B31 : List Nat := [0, 0, 3, 7, 15, 15, 63, 127, 15, 15, 783, 1807, 4095, 8191, 16383, 32767, 32767, 131071, 262143, 524287, 1048575, 1048575, 4194303, 8388607, 1048575, 1048575, 51380223, 118489087, 268435455, 536870911, 1073741823, 1073741823, 4294967295, 8589934591, 1073741823, 1073741823, 52613349375, 121332826111, 274877906943, 549755813887, 1099511627775, 2199023255551]
theorem laws_FnCode.tab31 : rtab .any (opsOf Try.f3 31) = laws_FnCode.T31 := by kernel_rfl
theorem laws_FnCode.bits31 : waitsOk laws_FnCode.T31.2 laws_FnCode.B31 = true := by kernel_rfl
set_option maxHeartbeats 8000000 in
set_option maxRecDepth 100000 in
theorem laws_FnCode.calls (k : Nat) (A0 : Option Addr) (c0 : Nat) (l0 : List Int) (A1 : Option Addr) (c1 : Nat) (l1 : List Int) (w : World) (hr0 : Kd.C (Kd.int .u8) w A0 l0.length l0) (hc0 : l0.length ≤ c0) (hr1 : Kd.C (Kd.int .u8) w A1 l1.length l1) (hc1 : l1.length ≤ c1) (h : laws_FnCode.f k l0 l1 = some true) :
  Calls Try.prog 3 #[.slice A0 l0.length c0, .slice A1 l1.length c1] w fun e w' => e = .returned (.bool true) ∧ Below w.heap.size w w' := by
 have HR0 := Aside0.mk hr0
 have HC0 := Aside0.mk hc0
 clear hr0 hc0
 have HR1 := Aside0.mk hr1
 have HC1 := Aside0.mk hc1
 clear hr1 hc1
 have HB := Aside0.mk (Below.refl w.heap.size w)
 have H : (if (wrap64 ((l0.length : Int) + (l1.length : Int))) > 1048576 then (some true) else ((spec_DrawRunCode.f k l0).bind fun bt391 => ((impl_RunCode.f k bt391.1 bt391.2).bind fun bt397 => ((spec_RunCode.f k bt391.1 bt391.2).bind fun bt404 => (if (bt397.2.2 != bt404.2.2) = true then (laws_FnCode.j0 k l1 bt391.1 bt391.2 bt397.1 bt397.2.1 bt397.2.2 true) else ((laws_sameInts.f k bt397.1 bt404.1).bind fun t411 => (if t411 = true then ((laws_sameInts.f k bt397.2.1 bt404.2.1).bind fun t412 => (if t412 = true then ((impl_GoodCode.f k bt391.1).bind fun t413 => ((spec_GoodCode.f k bt391.1).bind fun t414 => (laws_FnCode.j0 k l1 bt391.1 bt391.2 bt397.1 bt397.2.1 bt397.2.2 (t413 != t414)))) else (laws_FnCode.j0 k l1 bt391.1 bt391.2 bt397.1 bt397.2.1 bt397.2.2 true))) else (laws_FnCode.j0 k l1 bt391.1 bt391.2 bt397.1 bt397.2.1 bt397.2.2 true)))))))) = some true := h
 clear h
 by_cases c3 : (wrap64 ((l0.length : Int) + (l1.length : Int))) > 1048576
 ·rw [if_pos c3] at H
  have c3b0 : decide (1048576 < (wrap64 ((l0.length : Int) + (l1.length : Int)))) = true := decide_eq_true c3
  clear c3
  clear H
  go_enter Try.func3, Try.ntmps3
  go_wp2
  go_ret
  exact ⟨by first | rfl | (simp [errW_none, errW_some] <;> rfl) | (simp [*, errW_none, errW_some] <;> rfl), by repeat (first | (with_reducible first | exact HB.out | apply below_alloc | apply pw_below_drewN | apply below_drew1) | exact HB.out)⟩
 ·rw [if_neg c3] at H
  have c3b0 : decide (1048576 < (wrap64 ((l0.length : Int) + (l1.length : Int)))) = false := decide_eq_false c3
  clear c3
  replace H := Option.bind_eq_some_iff.mp H
  obtain ⟨⟨t391, t392⟩, A40, H⟩ := H
  replace H : ((impl_RunCode.f k t391 t392).bind fun bt397 => ((spec_RunCode.f k t391 t392).bind fun bt404 => (if (bt397.2.2 != bt404.2.2) = true then (laws_FnCode.j0 k l1 t391 t392 bt397.1 bt397.2.1 bt397.2.2 true) else ((laws_sameInts.f k bt397.1 bt404.1).bind fun t411 => (if t411 = true then ((laws_sameInts.f k bt397.2.1 bt404.2.1).bind fun t412 => (if t412 = true then ((impl_GoodCode.f k t391).bind fun t413 => ((spec_GoodCode.f k t391).bind fun t414 => (laws_FnCode.j0 k l1 t391 t392 bt397.1 bt397.2.1 bt397.2.2 (t413 != t414)))) else (laws_FnCode.j0 k l1 t391 t392 bt397.1 bt397.2.1 bt397.2.2 true))) else (laws_FnCode.j0 k l1 t391 t392 bt397.1 bt397.2.1 bt397.2.2 true)))))) = some true := H
  have A4 := Aside0.mk A40
  clear A40
  replace H := Option.bind_eq_some_iff.mp H
  obtain ⟨⟨t397, t398, t399⟩, A50, H⟩ := H
  replace H : ((spec_RunCode.f k t391 t392).bind fun bt404 => (if (t399 != bt404.2.2) = true then (laws_FnCode.j0 k l1 t391 t392 t397 t398 t399 true) else ((laws_sameInts.f k t397 bt404.1).bind fun t411 => (if t411 = true then ((laws_sameInts.f k t398 bt404.2.1).bind fun t412 => (if t412 = true then ((impl_GoodCode.f k t391).bind fun t413 => ((spec_GoodCode.f k t391).bind fun t414 => (laws_FnCode.j0 k l1 t391 t392 t397 t398 t399 (t413 != t414)))) else (laws_FnCode.j0 k l1 t391 t392 t397 t398 t399 true))) else (laws_FnCode.j0 k l1 t391 t392 t397 t398 t399 true))))) = some true := H
  have A5 := Aside0.mk A50
  clear A50
  replace H := Option.bind_eq_some_iff.mp H
  obtain ⟨⟨t404, t405, t406⟩, A60, H⟩ := H
  replace H : (if (t399 != t406) = true then (laws_FnCode.j0 k l1 t391 t392 t397 t398 t399 true) else ((laws_sameInts.f k t397 t404).bind fun t411 => (if t411 = true then ((laws_sameInts.f k t398 t405).bind fun t412 => (if t412 = true then ((impl_GoodCode.f k t391).bind fun t413 => ((spec_GoodCode.f k t391).bind fun t414 => (laws_FnCode.j0 k l1 t391 t392 t397 t398 t399 (t413 != t414)))) else (laws_FnCode.j0 k l1 t391 t392 t397 t398 t399 true))) else (laws_FnCode.j0 k l1 t391 t392 t397 t398 t399 true)))) = some true := H
  have A6 := Aside0.mk A60
  clear A60
  have HC7 := Aside0.mk H
  clear H
  go_enter Try.func3, Try.ntmps3
  go_upto_region 6 with (first | ((with_reducible refine gate_callee (f := 6) rfl ?_); refine goesL_ (some 47) rfl rfl Try.func6 (by kernel_rfl) rfl #[.slice A0 l0.length c0] rfl (by (try simp only [List.map_toArray, List.map_cons, List.map_nil]); first | done | rfl | (simp only [List.length_drop, List.length_take]; rfl)) ?_; (with_reducible refine (spec_DrawRunCode.calls k _ _ l0 t391 t392 _ ?side1 ?side2 A4.out).mono ?_); (case side1 => repeat (first | exact HR0.out | (with_reducible refine Kd.C_alloc ?_ _) | (with_reducible refine Kd.C_drewN ?_ _) | (with_reducible refine Kd.C_drew ?_))); (case side2 => exact HC0.out); rintro e w8 ⟨v393, v395, rfl, ho0, ho1, hb⟩; refine ⟨_, rfl, ?_⟩; have n0_ := Aside0.mk (Kd.R_lower ho0 (below_size (by repeat (first | (with_reducible first | exact HB.out | apply below_alloc | apply pw_below_drewN | apply below_drew1) | exact HB.out)))); have n1_ := Aside0.mk (Kd.R_lower ho1 (below_size (by repeat (first | (with_reducible first | exact HB.out | apply below_alloc | apply pw_below_drewN | apply below_drew1) | exact HB.out)))); have n2_ := Aside0.mk (below_step (by repeat (first | (with_reducible first | exact HB.out | apply below_alloc | apply pw_below_drewN | apply below_drew1) | exact HB.out)) hb); clear HB; have HO394 := n0_; have HO396 := n1_; have HB := n2_; clear n0_ n1_ n2_; (try clear hb); (try clear hb2); (try clear hk); (try clear hi); (try clear ho0); (try clear ho1); obtain ⟨Ao9, co9, eo9⟩ := Kd.R_slice HO394.out; subst eo9; obtain ⟨Ao10, co10, eo10⟩ := Kd.R_slice HO396.out; subst eo10) | ((with_reducible refine gate_callee (f := 7) rfl ?_); refine goesL_ (some 53) rfl rfl Try.func7 (by kernel_rfl) rfl #[.slice Ao9 t391.length co9, .slice Ao10 t392.length co10] rfl (by (try simp only [List.map_toArray, List.map_cons, List.map_nil]); first | done | rfl | (simp only [List.length_drop, List.length_take]; rfl)) ?_; (with_reducible refine (impl_RunCode.calls k _ _ t391 _ _ t392 t397 t398 t399 _ ?side1 ?side2 ?side3 ?side4 A5.out).mono ?_); (case side1 => repeat (first | exact (Kd.R_reads' HO394.out).2.2 | (with_reducible refine Kd.C_alloc ?_ _) | (with_reducible refine Kd.C_drewN ?_ _) | (with_reducible refine Kd.C_drew ?_))); (case side2 => exact (Kd.R_reads' HO394.out).2.1); (case side3 => repeat (first | exact (Kd.R_reads' HO396.out).2.2 | (with_reducible refine Kd.C_alloc ?_ _) | (with_reducible refine Kd.C_drewN ?_ _) | (with_reducible refine Kd.C_drew ?_))); (case side4 => exact (Kd.R_reads' HO396.out).2.1); rintro e w11 ⟨v400, v402, rfl, ho0, ho1, hb⟩; refine ⟨_, rfl, ?_⟩; have n0_ := Aside0.mk (Kd.R_below (by (with_reducible repeat (first | apply Kd.R_alloc | apply Kd.R_drewN | apply Kd.R_drew)); exact HO394.out) hb); have n1_ := Aside0.mk (Kd.R_mono (Kd.R_told (Kd.R_told (Kd.R_old (by (with_reducible repeat (first | apply Kd.R_alloc | apply Kd.R_drewN | apply Kd.R_drew)); exact HO396.out) hb) (Kd.R_base ho0)) (Kd.R_base ho1)) (fun _ h_ => h_.1)); have n2_ := Aside0.mk (Kd.R_lower (Kd.R_new' ho0 (Kd.R_lt (by (with_reducible repeat (first | apply Kd.R_alloc | apply Kd.R_drewN | apply Kd.R_drew)); exact HO396.out))) (below_size (by repeat (first | (with_reducible first | exact HB.out | apply below_alloc | apply pw_below_drewN | apply below_drew1) | exact HB.out)))); have n3_ := Aside0.mk (Kd.R_lower (Kd.R_new' ho1 (Kd.R_lt (by (with_reducible repeat (first | apply Kd.R_alloc | apply Kd.R_drewN | apply Kd.R_drew)); exact HO396.out))) (below_size (by repeat (first | (with_reducible first | exact HB.out | apply below_alloc | apply pw_below_drewN | apply below_drew1) | exact HB.out)))); have n4_ := Aside0.mk (below_step (by repeat (first | (with_reducible first | exact HB.out | apply below_alloc | apply pw_below_drewN | apply below_drew1) | exact HB.out)) hb); clear HO394; clear HO396; clear HB; have HO394 := n0_; have HO396 := n1_; have HO401 := n2_; have HO403 := n3_; have HB := n4_; clear n0_ n1_ n2_ n3_ n4_; (try clear hb); (try clear hb2); (try clear hk); (try clear hi); (try clear ho0); (try clear ho1)) | ((with_reducible refine gate_callee (f := 8) rfl ?_); refine goesL_ (some 60) rfl rfl Try.func8 (by kernel_rfl) rfl #[.slice Ao9 t391.length co9, .slice Ao10 t392.length co10] rfl (by (try simp only [List.map_toArray, List.map_cons, List.map_nil]); first | done | rfl | (simp only [List.length_drop, List.length_take]; rfl)) ?_; (with_reducible refine (spec_RunCode.calls k _ _ t391 _ _ t392 t404 t405 t406 _ ?side1 ?side2 ?side3 ?side4 A6.out).mono ?_); (case side1 => repeat (first | exact (Kd.R_reads' HO394.out).2.2 | (with_reducible refine Kd.C_alloc ?_ _) | (with_reducible refine Kd.C_drewN ?_ _) | (with_reducible refine Kd.C_drew ?_))); (case side2 => exact (Kd.R_reads' HO394.out).2.1); (case side3 => repeat (first | exact (Kd.R_reads' HO396.out).2.2 | (with_reducible refine Kd.C_alloc ?_ _) | (with_reducible refine Kd.C_drewN ?_ _) | (with_reducible refine Kd.C_drew ?_))); (case side4 => exact (Kd.R_reads' HO396.out).2.1); rintro e w12 ⟨v407, v409, rfl, ho0, ho1, hb⟩; refine ⟨_, rfl, ?_⟩; have n0_ := Aside0.mk (Kd.R_below (by (with_reducible repeat (first | apply Kd.R_alloc | apply Kd.R_drewN | apply Kd.R_drew)); exact HO394.out) hb); have n1_ := Aside0.mk (Kd.R_mono (Kd.R_told (Kd.R_told (Kd.R_old (by (with_reducible repeat (first | apply Kd.R_alloc | apply Kd.R_drewN | apply Kd.R_drew)); exact HO396.out) hb) (Kd.R_base ho0)) (Kd.R_base ho1)) (fun _ h_ => h_.1)); have n2_ := Aside0.mk (Kd.R_mono (Kd.R_told (Kd.R_told (Kd.R_old (by (with_reducible repeat (first | apply Kd.R_alloc | apply Kd.R_drewN | apply Kd.R_drew)); exact HO401.out) hb) (Kd.R_base ho0)) (Kd.R_base ho1)) (fun _ h_ => h_.1)); have n3_ := Aside0.mk (Kd.R_mono (Kd.R_told (Kd.R_told (Kd.R_old (by (with_reducible repeat (first | apply Kd.R_alloc | apply Kd.R_drewN | apply Kd.R_drew)); exact HO403.out) hb) (Kd.R_base ho0)) (Kd.R_base ho1)) (fun _ h_ => h_.1)); have n4_ := Aside0.mk (Kd.R_lower (Kd.R_new' (Kd.R_new' (Kd.R_new' ho0 (Kd.R_lt (by (with_reducible repeat (first | apply Kd.R_alloc | apply Kd.R_drewN | apply Kd.R_drew)); exact HO396.out))) (Kd.R_lt (by (with_reducible repeat (first | apply Kd.R_alloc | apply Kd.R_drewN | apply Kd.R_drew)); exact HO401.out))) (Kd.R_lt (by (with_reducible repeat (first | apply Kd.R_alloc | apply Kd.R_drewN | apply Kd.R_drew)); exact HO403.out))) (below_size (by repeat (first | (with_reducible first | exact HB.out | apply below_alloc | apply pw_below_drewN | apply below_drew1) | exact HB.out)))); have n5_ := Aside0.mk (Kd.R_lower (Kd.R_new' (Kd.R_new' (Kd.R_new' ho1 (Kd.R_lt (by (with_reducible repeat (first | apply Kd.R_alloc | apply Kd.R_drewN | apply Kd.R_drew)); exact HO396.out))) (Kd.R_lt (by (with_reducible repeat (first | apply Kd.R_alloc | apply Kd.R_drewN | apply Kd.R_drew)); exact HO401.out))) (Kd.R_lt (by (with_reducible repeat (first | apply Kd.R_alloc | apply Kd.R_drewN | apply Kd.R_drew)); exact HO403.out))) (below_size (by repeat (first | (with_reducible first | exact HB.out | apply below_alloc | apply pw_below_drewN | apply below_drew1) | exact HB.out)))); have n6_ := Aside0.mk (below_step (by repeat (first | (with_reducible first | exact HB.out | apply below_alloc | apply pw_below_drewN | apply below_drew1) | exact HB.out)) hb); clear HO394; clear HO396; clear HO401; clear HO403; clear HB; have HO394 := n0_; have HO396 := n1_; have HO401 := n2_; have HO403 := n3_; have HO408 := n4_; have HO410 := n5_; have HB := n6_; clear n0_ n1_ n2_ n3_ n4_ n5_ n6_; (try clear hb); (try clear hb2); (try clear hk); (try clear hi); (try clear ho0); (try clear ho1)))
  (try simp only [Act.put, List.setIfInBounds_toArray, List.set_cons_zero, List.set_cons_succ])
  go_cut [85] (fun v85 wc => ∃ (kq : Nat) (x85_6 : Bool), v85 = .bool x85_6 ∧ Aside0 (laws_FnCode.j0 kq l1 t391 t392 t397 t398 t399 x85_6 = some true) ∧ Aside0 (kq ≤ k) ∧ Aside0 (Kd.R k53 53 wc w.heap.size (fun _ => True) (.slice Ao9 t391.length co9) t391) ∧ Aside0 (Kd.R (Kd.int .i64) 3 wc w.heap.size (fun k_ => some k_ ≠ (v400 : Value).ownBlock ∧ some k_ ≠ (v402 : Value).ownBlock) (.slice Ao10 t392.length co10) t392) ∧ Aside0 (Kd.R (Kd.int .i64) 3 wc w.heap.size (fun k_ => some k_ ≠ ((.slice Ao10 t392.length co10) : Value).ownBlock ∧ some k_ ≠ (v402 : Value).ownBlock) v400 t397) ∧ Aside0 (Kd.R (Kd.int .i64) 3 wc w.heap.size (fun k_ => some k_ ≠ ((.slice Ao10 t392.length co10) : Value).ownBlock ∧ some k_ ≠ (v400 : Value).ownBlock) v402 t398) ∧ Aside0 (Below w.heap.size w wc))
  case first => as_aux_lemma =>
   have H := HC7.out
   clear HC7
   by_cases c13 : (t399 != t406) = true
   ·rw [if_pos c13] at H
    have c13b0 : (t399 != t406) = true := c13
    (try (have c13b1 : decide (t399 = t406) = false := by simpa using c13))
    (try (have c13b2 : (t399 == t406) = false := by simpa using c13))
    (try (have c13b3 : ¬ (t399 = t406) := by simpa using c13))
    clear c13
    (first | rw [c13b0] | (simp only [i64_w, i32_w]; rw [c13b0]) | skip)
    exact absurd H (by cases k <;> simp [laws_FnCode.j0])
   rw [if_neg c13] at H
   have c13b0 : (t399 != t406) = false := by simpa using c13
   (try (have c13b1 : decide (t399 = t406) = true := by simpa using c13))
   (try (have c13b2 : (t399 == t406) = true := by simpa using c13))
   clear c13
   (first | rw [c13b0] | (simp only [i64_w, i32_w]; rw [c13b0]) | skip)
   replace H := Option.bind_eq_some_iff.mp H
   obtain ⟨t411, A140, H⟩ := H
   replace H : (if t411 = true then ((laws_sameInts.f k t398 t405).bind fun t412 => (if t412 = true then ((impl_GoodCode.f k t391).bind fun t413 => ((spec_GoodCode.f k t391).bind fun t414 => (laws_FnCode.j0 k l1 t391 t392 t397 t398 t399 (t413 != t414)))) else (laws_FnCode.j0 k l1 t391 t392 t397 t398 t399 true))) else (laws_FnCode.j0 k l1 t391 t392 t397 t398 t399 true)) = some true := H
   have A14 := Aside0.mk A140
   clear A140
   by_cases c15 : t411 = true
   rotate_left
   ·replace c15 := Bool.eq_false_iff.mpr c15
    subst c15
    have H1 : (laws_FnCode.j0 k l1 t391 t392 t397 t398 t399 true) = some true := by rw [if_neg (show ¬ (false = true) by decide)] at H; exact H
    clear H
    have H := H1
    clear H1
    exact absurd H (by cases k <;> simp [laws_FnCode.j0])
   subst c15
   have H1 : ((laws_sameInts.f k t398 t405).bind fun t412 => (if t412 = true then ((impl_GoodCode.f k t391).bind fun t413 => ((spec_GoodCode.f k t391).bind fun t414 => (laws_FnCode.j0 k l1 t391 t392 t397 t398 t399 (t413 != t414)))) else (laws_FnCode.j0 k l1 t391 t392 t397 t398 t399 true))) = some true := by rw [if_pos rfl] at H; exact H
   clear H
   have H := H1
   clear H1
   replace H := Option.bind_eq_some_iff.mp H
   obtain ⟨t412, A160, H⟩ := H
   replace H : (if t412 = true then ((impl_GoodCode.f k t391).bind fun t413 => ((spec_GoodCode.f k t391).bind fun t414 => (laws_FnCode.j0 k l1 t391 t392 t397 t398 t399 (t413 != t414)))) else (laws_FnCode.j0 k l1 t391 t392 t397 t398 t399 true)) = some true := H
   have A16 := Aside0.mk A160
   clear A160
   by_cases c17 : t412 = true
   rotate_left
   ·replace c17 := Bool.eq_false_iff.mpr c17
    subst c17
    have H1 : (laws_FnCode.j0 k l1 t391 t392 t397 t398 t399 true) = some true := by rw [if_neg (show ¬ (false = true) by decide)] at H; exact H
    clear H
    have H := H1
    clear H1
    exact absurd H (by cases k <;> simp [laws_FnCode.j0])
   subst c17
   have H1 : ((impl_GoodCode.f k t391).bind fun t413 => ((spec_GoodCode.f k t391).bind fun t414 => (laws_FnCode.j0 k l1 t391 t392 t397 t398 t399 (t413 != t414)))) = some true := by rw [if_pos rfl] at H; exact H
   clear H
   have H := H1
   clear H1
   replace H := Option.bind_eq_some_iff.mp H
   obtain ⟨t413, A180, H⟩ := H
   replace H : ((spec_GoodCode.f k t391).bind fun t414 => (laws_FnCode.j0 k l1 t391 t392 t397 t398 t399 (t413 != t414))) = some true := H
   have A18 := Aside0.mk A180
   clear A180
   replace H := Option.bind_eq_some_iff.mp H
   obtain ⟨t414, A190, H⟩ := H
   replace H : (laws_FnCode.j0 k l1 t391 t392 t397 t398 t399 (t413 != t414)) = some true := H
   have A19 := Aside0.mk A190
   clear A190
   have H' := Aside0.mk H
   clear H
   obtain ⟨Ao20, co20, eo20⟩ := Kd.R_slice HO401.out
   subst eo20
   obtain ⟨Ao21, co21, eo21⟩ := Kd.R_slice HO408.out
   subst eo21
   go_wp2_with (first | (go_at_call 9; (with_reducible refine (laws_sameInts.calls k _ _ t397 _ _ t404 true _ ?side1 ?side2 ?side3 ?side4 A14.out).mono ?_); (case side1 => repeat (first | exact (Kd.R_reads' HO401.out).2.2 | (with_reducible refine Kd.C_alloc ?_ _) | (with_reducible refine Kd.C_drewN ?_ _) | (with_reducible refine Kd.C_drew ?_))); (case side2 => exact (Kd.R_reads' HO401.out).2.1); (case side3 => repeat (first | exact (Kd.R_reads' HO408.out).2.2 | (with_reducible refine Kd.C_alloc ?_ _) | (with_reducible refine Kd.C_drewN ?_ _) | (with_reducible refine Kd.C_drew ?_))); (case side4 => exact (Kd.R_reads' HO408.out).2.1); rintro e w' ⟨rfl, ⟨nd, rfl⟩⟩; obtain ⟨Ao22, co22, eo22⟩ := Kd.R_slice HO403.out; subst eo22; obtain ⟨Ao23, co23, eo23⟩ := Kd.R_slice HO410.out; subst eo23) | (go_at_call 9; (with_reducible refine (laws_sameInts.calls k _ _ t398 _ _ t405 true _ ?side1 ?side2 ?side3 ?side4 A16.out).mono ?_); (case side1 => repeat (first | exact (Kd.R_reads' HO403.out).2.2 | (with_reducible refine Kd.C_alloc ?_ _) | (with_reducible refine Kd.C_drewN ?_ _) | (with_reducible refine Kd.C_drew ?_))); (case side2 => exact (Kd.R_reads' HO403.out).2.1); (case side3 => repeat (first | exact (Kd.R_reads' HO410.out).2.2 | (with_reducible refine Kd.C_alloc ?_ _) | (with_reducible refine Kd.C_drewN ?_ _) | (with_reducible refine Kd.C_drew ?_))); (case side4 => exact (Kd.R_reads' HO410.out).2.1); rintro e w' ⟨rfl, ⟨nd, rfl⟩⟩) | (go_at_call 10; (with_reducible refine (impl_GoodCode.calls k _ _ t391 t413 _ ?side1 ?side2 A18.out).mono ?_); (case side1 => repeat (first | exact (Kd.R_reads' HO394.out).2.2 | (with_reducible refine Kd.C_alloc ?_ _) | (with_reducible refine Kd.C_drewN ?_ _) | (with_reducible refine Kd.C_drew ?_))); (case side2 => exact (Kd.R_reads' HO394.out).2.1); rintro e w24 ⟨rfl, hb⟩; have n0_ := Aside0.mk (Kd.R_below (by (with_reducible repeat (first | apply Kd.R_alloc | apply Kd.R_drewN | apply Kd.R_drew)); exact HO394.out) hb); have n1_ := Aside0.mk (Kd.R_below (by (with_reducible repeat (first | apply Kd.R_alloc | apply Kd.R_drewN | apply Kd.R_drew)); exact HO396.out) hb); have n2_ := Aside0.mk (Kd.R_below (by (with_reducible repeat (first | apply Kd.R_alloc | apply Kd.R_drewN | apply Kd.R_drew)); exact HO401.out) hb); have n3_ := Aside0.mk (Kd.R_below (by (with_reducible repeat (first | apply Kd.R_alloc | apply Kd.R_drewN | apply Kd.R_drew)); exact HO403.out) hb); have n4_ := Aside0.mk (Kd.R_below (by (with_reducible repeat (first | apply Kd.R_alloc | apply Kd.R_drewN | apply Kd.R_drew)); exact HO408.out) hb); have n5_ := Aside0.mk (Kd.R_below (by (with_reducible repeat (first | apply Kd.R_alloc | apply Kd.R_drewN | apply Kd.R_drew)); exact HO410.out) hb); have n6_ := Aside0.mk (below_step (by repeat (first | (with_reducible first | exact HB.out | apply below_alloc | apply pw_below_drewN | apply below_drew1) | exact HB.out)) hb); clear HO394; clear HO396; clear HO401; clear HO403; clear HO408; clear HO410; clear HB; have HO394 := n0_; have HO396 := n1_; have HO401 := n2_; have HO403 := n3_; have HO408 := n4_; have HO410 := n5_; have HB := n6_; clear n0_ n1_ n2_ n3_ n4_ n5_ n6_; (try clear hb); (try clear hb2); (try clear hk); (try clear hi)) | (go_at_call 11; (with_reducible refine (spec_GoodCode.calls k _ _ t391 t414 _ ?side1 ?side2 A19.out).mono ?_); (case side1 => repeat (first | exact (Kd.R_reads' HO394.out).2.2 | (with_reducible refine Kd.C_alloc ?_ _) | (with_reducible refine Kd.C_drewN ?_ _) | (with_reducible refine Kd.C_drew ?_))); (case side2 => exact (Kd.R_reads' HO394.out).2.1); rintro e w25 ⟨rfl, hb⟩; have n0_ := Aside0.mk (Kd.R_below (by (with_reducible repeat (first | apply Kd.R_alloc | apply Kd.R_drewN | apply Kd.R_drew)); exact HO394.out) hb); have n1_ := Aside0.mk (Kd.R_below (by (with_reducible repeat (first | apply Kd.R_alloc | apply Kd.R_drewN | apply Kd.R_drew)); exact HO396.out) hb); have n2_ := Aside0.mk (Kd.R_below (by (with_reducible repeat (first | apply Kd.R_alloc | apply Kd.R_drewN | apply Kd.R_drew)); exact HO401.out) hb); have n3_ := Aside0.mk (Kd.R_below (by (with_reducible repeat (first | apply Kd.R_alloc | apply Kd.R_drewN | apply Kd.R_drew)); exact HO403.out) hb); have n4_ := Aside0.mk (Kd.R_below (by (with_reducible repeat (first | apply Kd.R_alloc | apply Kd.R_drewN | apply Kd.R_drew)); exact HO408.out) hb); have n5_ := Aside0.mk (Kd.R_below (by (with_reducible repeat (first | apply Kd.R_alloc | apply Kd.R_drewN | apply Kd.R_drew)); exact HO410.out) hb); have n6_ := Aside0.mk (below_step (by repeat (first | (with_reducible first | exact HB.out | apply below_alloc | apply pw_below_drewN | apply below_drew1) | exact HB.out)) hb); clear HO394; clear HO396; clear HO401; clear HO403; clear HO408; clear HO410; clear HB; have HO394 := n0_; have HO396 := n1_; have HO401 := n2_; have HO403 := n3_; have HO408 := n4_; have HO410 := n5_; have HB := n6_; clear n0_ n1_ n2_ n3_ n4_ n5_ n6_; (try clear hb); (try clear hb2); (try clear hk); (try clear hi)))
   go_meet
   case rel => exact ⟨_, ((t413 != t414)), (by first | rfl | (simp; done) | (simp [*]; done)), H', ⟨by first | omega | exact Nat.le_refl _⟩, ⟨by (with_reducible repeat (first | apply Kd.R_alloc | apply Kd.R_drewN | apply Kd.R_drew)); exact HO394.out⟩, ⟨by (with_reducible repeat (first | apply Kd.R_alloc | apply Kd.R_drewN | apply Kd.R_drew)); exact Kd.R_mono HO396.out (fun _ hk => ⟨hk.1.1.1.2, hk.1.1.2⟩)⟩, ⟨by (with_reducible repeat (first | apply Kd.R_alloc | apply Kd.R_drewN | apply Kd.R_drew)); exact Kd.R_mono HO401.out (fun _ hk => ⟨hk.1.1.2, hk.1.1.1⟩)⟩, ⟨by (with_reducible repeat (first | apply Kd.R_alloc | apply Kd.R_drewN | apply Kd.R_drew)); exact Kd.R_mono HO403.out (fun _ hk => ⟨hk.1.1.2, hk.1.1.1⟩)⟩, ⟨by repeat (first | (with_reducible first | exact HB.out | apply below_alloc | apply pw_below_drewN | apply below_drew1) | exact HB.out)⟩⟩
  case rest => as_aux_lemma =>
   clear HC7
   try clear c1
   try clear p2
   try clear c3
   try clear c3b0
   try clear c6
   try clear p6
   try clear c7
   try clear c8
   try clear c13
   try clear c13b0
   try clear c13b1
   try clear c13b2
   try clear c15
   try clear c17
   obtain ⟨kq, x85_6, rfl, HA, HJ6, HO_5, HO_6, HO_7, HO_8, HB⟩ := hcut
   cases kq with
   | zero => exact absurd HA.out (by simp [laws_FnCode.j0])
   | succ kj6 =>
    have H := HA.out
    clear HA
    simp only [laws_FnCode.j0] at H
    by_cases c26 : x85_6 = true
    ·subst c26
     have H1 : (some false) = some true := by rw [if_pos rfl] at H; exact H
     clear H
     have H := H1
     clear H1
     exact absurd H (by simp)
    replace c26 := Bool.eq_false_iff.mpr c26
    subst c26
    have H1 : (if t399 = true then ((laws_numberOf.f kj6 l1).bind fun t415 => (if (wrap64 ((t391.length : Int) + 1)) = 0 then (none) else (if 0 ≤ (Int.tmod t415 (wrap64 ((t391.length : Int) + 1))) then (if (Int.tmod t415 (wrap64 ((t391.length : Int) + 1))) ≤ (t391.length : Int) then ((impl_RunCode.f kj6 (t391.take ((Int.tmod t415 (wrap64 ((t391.length : Int) + 1))) : Int).toNat) t392).bind fun bt420 => ((impl_RunCode.f kj6 (t391.drop ((Int.tmod t415 (wrap64 ((t391.length : Int) + 1))) : Int).toNat) bt420.2.1).bind fun bt431 => (if bt420.2.2 = true then (if bt431.2.2 = true then ((laws_sameInts.f kj6 bt431.2.1 t398).bind fun t438 => (if t438 = true then ((some (([] : List Int) : List Int)).bind fun y439 => (if y439.length + bt420.1.length < 17592186044416 then ((some (y439 ++ bt420.1 : List Int)).bind fun y442 => (if y442.length + bt431.1.length < 17592186044416 then ((laws_sameInts.f kj6 (y442 ++ bt431.1) t397).bind fun t448 => (laws_FnCode.j1 kj6 l1 t391 t392 t397 t398 (Int.tmod t415 (wrap64 ((t391.length : Int) + 1))) (!t448))) else (none))) else (none))) else (laws_FnCode.j1 kj6 l1 t391 t392 t397 t398 (Int.tmod t415 (wrap64 ((t391.length : Int) + 1))) true))) else (laws_FnCode.j1 kj6 l1 t391 t392 t397 t398 (Int.tmod t415 (wrap64 ((t391.length : Int) + 1))) true)) else (laws_FnCode.j1 kj6 l1 t391 t392 t397 t398 (Int.tmod t415 (wrap64 ((t391.length : Int) + 1))) true)))) else (none)) else (none)))) else (laws_FnCode.j6 kj6 l1)) = some true := by rw [if_neg (show ¬ (false = true) by decide)] at H; exact H
    clear H
    have H := H1
    clear H1
    have HC27 := Aside0.mk H
    clear H
    go_upto_if 86 with (fail)
    go_cut [] (fun wc => ∃ (kq : Nat), Aside0 (laws_FnCode.j6 kq l1 = some true) ∧ Aside0 (kq ≤ kj6) ∧ Aside0 (Below w.heap.size w wc))
    case first => as_aux_lemma =>
     have H := HC27.out
     clear HC27
     by_cases c28 : t399 = true
     ·subst c28
      have H1 : ((laws_numberOf.f kj6 l1).bind fun t415 => (if (wrap64 ((t391.length : Int) + 1)) = 0 then (none) else (if 0 ≤ (Int.tmod t415 (wrap64 ((t391.length : Int) + 1))) then (if (Int.tmod t415 (wrap64 ((t391.length : Int) + 1))) ≤ (t391.length : Int) then ((impl_RunCode.f kj6 (t391.take ((Int.tmod t415 (wrap64 ((t391.length : Int) + 1))) : Int).toNat) t392).bind fun bt420 => ((impl_RunCode.f kj6 (t391.drop ((Int.tmod t415 (wrap64 ((t391.length : Int) + 1))) : Int).toNat) bt420.2.1).bind fun bt431 => (if bt420.2.2 = true then (if bt431.2.2 = true then ((laws_sameInts.f kj6 bt431.2.1 t398).bind fun t438 => (if t438 = true then ((some (([] : List Int) : List Int)).bind fun y439 => (if y439.length + bt420.1.length < 17592186044416 then ((some (y439 ++ bt420.1 : List Int)).bind fun y442 => (if y442.length + bt431.1.length < 17592186044416 then ((laws_sameInts.f kj6 (y442 ++ bt431.1) t397).bind fun t448 => (laws_FnCode.j1 kj6 l1 t391 t392 t397 t398 (Int.tmod t415 (wrap64 ((t391.length : Int) + 1))) (!t448))) else (none))) else (none))) else (laws_FnCode.j1 kj6 l1 t391 t392 t397 t398 (Int.tmod t415 (wrap64 ((t391.length : Int) + 1))) true))) else (laws_FnCode.j1 kj6 l1 t391 t392 t397 t398 (Int.tmod t415 (wrap64 ((t391.length : Int) + 1))) true)) else (laws_FnCode.j1 kj6 l1 t391 t392 t397 t398 (Int.tmod t415 (wrap64 ((t391.length : Int) + 1))) true)))) else (none)) else (none)))) = some true := by rw [if_pos rfl] at H; exact H
      clear H
      have H := H1
      clear H1
      replace H := Option.bind_eq_some_iff.mp H
      obtain ⟨t415, A290, H⟩ := H
      replace H : (if (wrap64 ((t391.length : Int) + 1)) = 0 then (none) else (if 0 ≤ (Int.tmod t415 (wrap64 ((t391.length : Int) + 1))) then (if (Int.tmod t415 (wrap64 ((t391.length : Int) + 1))) ≤ (t391.length : Int) then ((impl_RunCode.f kj6 (t391.take ((Int.tmod t415 (wrap64 ((t391.length : Int) + 1))) : Int).toNat) t392).bind fun bt420 => ((impl_RunCode.f kj6 (t391.drop ((Int.tmod t415 (wrap64 ((t391.length : Int) + 1))) : Int).toNat) bt420.2.1).bind fun bt431 => (if bt420.2.2 = true then (if bt431.2.2 = true then ((laws_sameInts.f kj6 bt431.2.1 t398).bind fun t438 => (if t438 = true then ((some (([] : List Int) : List Int)).bind fun y439 => (if y439.length + bt420.1.length < 17592186044416 then ((some (y439 ++ bt420.1 : List Int)).bind fun y442 => (if y442.length + bt431.1.length < 17592186044416 then ((laws_sameInts.f kj6 (y442 ++ bt431.1) t397).bind fun t448 => (laws_FnCode.j1 kj6 l1 t391 t392 t397 t398 (Int.tmod t415 (wrap64 ((t391.length : Int) + 1))) (!t448))) else (none))) else (none))) else (laws_FnCode.j1 kj6 l1 t391 t392 t397 t398 (Int.tmod t415 (wrap64 ((t391.length : Int) + 1))) true))) else (laws_FnCode.j1 kj6 l1 t391 t392 t397 t398 (Int.tmod t415 (wrap64 ((t391.length : Int) + 1))) true)) else (laws_FnCode.j1 kj6 l1 t391 t392 t397 t398 (Int.tmod t415 (wrap64 ((t391.length : Int) + 1))) true)))) else (none)) else (none))) = some true := H
      have A29 := Aside0.mk A290
      clear A290
      by_cases c30 : (wrap64 ((t391.length : Int) + 1)) = 0
      ·rw [if_pos c30] at H
       exact absurd H (by simp)
      rw [if_neg c30] at H
      have c30b0 : ((wrap64 ((t391.length : Int) + 1)) == 0) = false := beq_eq_false_iff_ne.mpr c30
      have c30b1 : ((wrap64 ((t391.length : Int) + 1)) != 0) = true := bne_iff_ne.mpr c30
      (first | rw [c30b0] | (simp only [i64_w, i32_w]; rw [c30b0]) | skip)
      obtain ⟨ji31, hji31⟩ : ∃ j_ : Int, (Int.tmod t415 (wrap64 ((t391.length : Int) + 1))) = j_ := ⟨_, rfl⟩
      replace H : (if 0 ≤ (ji31) then (if (ji31) ≤ (t391.length : Int) then ((impl_RunCode.f kj6 (t391.take ((ji31) : Int).toNat) t392).bind fun bt420 => ((impl_RunCode.f kj6 (t391.drop ((ji31) : Int).toNat) bt420.2.1).bind fun bt431 => (if bt420.2.2 = true then (if bt431.2.2 = true then ((laws_sameInts.f kj6 bt431.2.1 t398).bind fun t438 => (if t438 = true then ((some (([] : List Int) : List Int)).bind fun y439 => (if y439.length + bt420.1.length < 17592186044416 then ((some (y439 ++ bt420.1 : List Int)).bind fun y442 => (if y442.length + bt431.1.length < 17592186044416 then ((laws_sameInts.f kj6 (y442 ++ bt431.1) t397).bind fun t448 => (laws_FnCode.j1 kj6 l1 t391 t392 t397 t398 ji31 (!t448))) else (none))) else (none))) else (laws_FnCode.j1 kj6 l1 t391 t392 t397 t398 ji31 true))) else (laws_FnCode.j1 kj6 l1 t391 t392 t397 t398 ji31 true)) else (laws_FnCode.j1 kj6 l1 t391 t392 t397 t398 ji31 true)))) else (none)) else (none)) = some true := by first | (rw [hji31] at H; exact H) | (simp only [hji31] at H ⊢; exact H)
      (try rw [hji31] at A29)
      by_cases c32 : 0 ≤ (ji31)
      rotate_left
      ·rw [if_neg c32] at H
       exact absurd H (by simp)
      rw [if_pos c32] at H
      have c32b0 := eq_true c32
      have c32b1 : decide (0 ≤ (ji31)) = true := decide_eq_true c32
      clear c32
      by_cases c33 : (ji31) ≤ (t391.length : Int)
      rotate_left
      ·rw [if_neg c33] at H
       exact absurd H (by simp)
      rw [if_pos c33] at H
      have c33b0 := eq_true c33
      have c33b1 : decide ((ji31) ≤ (t391.length : Int)) = true := decide_eq_true c33
      clear c33
      obtain ⟨y416, hy416⟩ : ∃ y_ : List (S53), y_ = (t391.take ((ji31) : Int).toNat) := ⟨_, rfl⟩
      replace H : ((impl_RunCode.f kj6 y416 t392).bind fun bt420 => ((impl_RunCode.f kj6 (t391.drop ((ji31) : Int).toNat) bt420.2.1).bind fun bt431 => (if bt420.2.2 = true then (if bt431.2.2 = true then ((laws_sameInts.f kj6 bt431.2.1 t398).bind fun t438 => (if t438 = true then ((some (([] : List Int) : List Int)).bind fun y439 => (if y439.length + bt420.1.length < 17592186044416 then ((some (y439 ++ bt420.1 : List Int)).bind fun y442 => (if y442.length + bt431.1.length < 17592186044416 then ((laws_sameInts.f kj6 (y442 ++ bt431.1) t397).bind fun t448 => (laws_FnCode.j1 kj6 l1 t391 t392 t397 t398 ji31 (!t448))) else (none))) else (none))) else (laws_FnCode.j1 kj6 l1 t391 t392 t397 t398 ji31 true))) else (laws_FnCode.j1 kj6 l1 t391 t392 t397 t398 ji31 true)) else (laws_FnCode.j1 kj6 l1 t391 t392 t397 t398 ji31 true)))) = some true := by first | (rw [hy416]; with_reducible exact H) | (have H2_ := (Option.bind_some _ _).symm.trans H; rw [hy416]; with_reducible exact H2_) | (have H2_ := (Option.bind_some _ _).symm.trans H; with_reducible exact H2_) | with_reducible exact H | (rw [hy416]; exact H) | exact H
      have Ny416 := Aside0.mk hy416
      clear hy416
      replace H := Option.bind_eq_some_iff.mp H
      obtain ⟨⟨t420, t421, t422⟩, A340, H⟩ := H
      replace H : ((impl_RunCode.f kj6 (t391.drop ((ji31) : Int).toNat) t421).bind fun bt431 => (if t422 = true then (if bt431.2.2 = true then ((laws_sameInts.f kj6 bt431.2.1 t398).bind fun t438 => (if t438 = true then ((some (([] : List Int) : List Int)).bind fun y439 => (if y439.length + t420.length < 17592186044416 then ((some (y439 ++ t420 : List Int)).bind fun y442 => (if y442.length + bt431.1.length < 17592186044416 then ((laws_sameInts.f kj6 (y442 ++ bt431.1) t397).bind fun t448 => (laws_FnCode.j1 kj6 l1 t391 t392 t397 t398 ji31 (!t448))) else (none))) else (none))) else (laws_FnCode.j1 kj6 l1 t391 t392 t397 t398 ji31 true))) else (laws_FnCode.j1 kj6 l1 t391 t392 t397 t398 ji31 true)) else (laws_FnCode.j1 kj6 l1 t391 t392 t397 t398 ji31 true))) = some true := H
      have A34 := Aside0.mk A340
      clear A340
      have c35b0 := eq_true (of_decide_eq_true (by first | (with_reducible assumption) | assumption) : 0 ≤ (ji31))
      have c36b0 := eq_true (of_decide_eq_true (by first | (with_reducible assumption) | assumption) : (ji31) ≤ (t391.length : Int))
      obtain ⟨y427, hy427⟩ : ∃ y_ : List (S53), y_ = (t391.drop ((ji31) : Int).toNat) := ⟨_, rfl⟩
      replace H : ((impl_RunCode.f kj6 y427 t421).bind fun bt431 => (if t422 = true then (if bt431.2.2 = true then ((laws_sameInts.f kj6 bt431.2.1 t398).bind fun t438 => (if t438 = true then ((some (([] : List Int) : List Int)).bind fun y439 => (if y439.length + t420.length < 17592186044416 then ((some (y439 ++ t420 : List Int)).bind fun y442 => (if y442.length + bt431.1.length < 17592186044416 then ((laws_sameInts.f kj6 (y442 ++ bt431.1) t397).bind fun t448 => (laws_FnCode.j1 kj6 l1 t391 t392 t397 t398 ji31 (!t448))) else (none))) else (none))) else (laws_FnCode.j1 kj6 l1 t391 t392 t397 t398 ji31 true))) else (laws_FnCode.j1 kj6 l1 t391 t392 t397 t398 ji31 true)) else (laws_FnCode.j1 kj6 l1 t391 t392 t397 t398 ji31 true))) = some true := by first | (rw [hy427]; with_reducible exact H) | (have H2_ := (Option.bind_some _ _).symm.trans H; rw [hy427]; with_reducible exact H2_) | (have H2_ := (Option.bind_some _ _).symm.trans H; with_reducible exact H2_) | with_reducible exact H | (rw [hy427]; exact H) | exact H
      have Ny427 := Aside0.mk hy427
      clear hy427
      replace H := Option.bind_eq_some_iff.mp H
      obtain ⟨⟨t431, t432, t433⟩, A370, H⟩ := H
      replace H : (if t422 = true then (if t433 = true then ((laws_sameInts.f kj6 t432 t398).bind fun t438 => (if t438 = true then ((some (([] : List Int) : List Int)).bind fun y439 => (if y439.length + t420.length < 17592186044416 then ((some (y439 ++ t420 : List Int)).bind fun y442 => (if y442.length + t431.length < 17592186044416 then ((laws_sameInts.f kj6 (y442 ++ t431) t397).bind fun t448 => (laws_FnCode.j1 kj6 l1 t391 t392 t397 t398 ji31 (!t448))) else (none))) else (none))) else (laws_FnCode.j1 kj6 l1 t391 t392 t397 t398 ji31 true))) else (laws_FnCode.j1 kj6 l1 t391 t392 t397 t398 ji31 true)) else (laws_FnCode.j1 kj6 l1 t391 t392 t397 t398 ji31 true)) = some true := H
      have A37 := Aside0.mk A370
      clear A370
      have HC38 := Aside0.mk H
      clear H
      go_upto_region 12 with (first | ((with_reducible refine gate_callee (f := 12) rfl ?_); refine goesL_ (some 88) rfl rfl Try.func12 (by kernel_rfl) rfl #[.slice A1 l1.length c1] rfl (by (try simp only [List.map_toArray, List.map_cons, List.map_nil]); first | done | rfl | (simp only [List.length_drop, List.length_take]; rfl)) ?_; (with_reducible refine (laws_numberOf.calls kj6 _ _ l1 t415 _ ?side1 ?side2 A29.out).mono ?_); (case side1 => repeat (first | exact (Kd.C_below HR1.out HB.out) | (with_reducible refine Kd.C_alloc ?_ _) | (with_reducible refine Kd.C_drewN ?_ _) | (with_reducible refine Kd.C_drew ?_))); (case side2 => exact HC1.out); rintro e w' ⟨rfl, ⟨nd, rfl⟩⟩; refine ⟨_, rfl, ?_⟩; have q39 : ((ji31) : Int) ≤ ((t391.length : Int) : Int) := of_decide_eq_true (by first | (with_reducible assumption) | assumption); obtain ⟨i039, hi039, _, hsz39, _⟩ := info_parts info53; have hroom39 : t391.length ≤ co9 := (Kd.R_reads' HO_5.out).2.1; have hC39 : Kd.C k53 _ Ao9 t391.length t391 := (Kd.R_reads' HO_5.out).2.2; have hcut39 := cut_to (P := Try.prog) 23 53 .i64 Try.underlying23 hi039 Ao9 t391.length co9 (ji31) (of_decide_eq_true (by first | (with_reducible assumption) | assumption)) q39 hroom39; have hr39 := Kd.C_take (m := ((ji31) : Int).toNat) hC39 (by omega); have hy39 : y416.length = ((ji31) : Int).toNat := (by rw [Ny416.out, List.length_take]; omega); rw [← Ny416.out] at hr39; rw [← hy39] at hcut39; have HR419 := Aside0.mk hr39; have HC419 := Aside0.mk (show y416.length ≤ co9 from by omega); clear hr39 hC39 hroom39 hi039 hsz39; have KY39 := Aside0.mk hy39; clear hy39; have KL39 := Aside0.mk (show ((ji31) : Int).toNat ≤ t391.length from by omega); replace q39 := eq_true q39) | ((with_reducible refine gate_callee (f := 7) rfl ?_); refine goesL_ (some 98) rfl rfl Try.func7 (by kernel_rfl) rfl #[.slice Ao9 y416.length co9, .slice Ao10 t392.length co10] rfl (by (try simp only [List.map_toArray, List.map_cons, List.map_nil]); first | done | rfl | (simp only [List.length_drop, List.length_take]; rfl)) ?_; (with_reducible refine (impl_RunCode.calls kj6 _ _ y416 _ _ t392 t420 t421 t422 _ ?side1 ?side2 ?side3 ?side4 A34.out).mono ?_); (case side1 => repeat (first | exact (by repeat (first | (with_reducible first | exact HR419.out | exact Kd.C_drewN HR419.out _ | exact Kd.C_drew HR419.out) | exact HR419.out | (with_reducible refine Kd.C_alloc ?_ _) | (with_reducible refine Kd.C_drewN ?_ _) | (with_reducible refine Kd.C_drew ?_) | exact HR419.out)) | (with_reducible refine Kd.C_alloc ?_ _) | (with_reducible refine Kd.C_drewN ?_ _) | (with_reducible refine Kd.C_drew ?_))); (case side2 => exact HC419.out); (case side3 => repeat (first | exact (Kd.R_reads' HO_6.out).2.2 | (with_reducible refine Kd.C_alloc ?_ _) | (with_reducible refine Kd.C_drewN ?_ _) | (with_reducible refine Kd.C_drew ?_))); (case side4 => exact (Kd.R_reads' HO_6.out).2.1); rintro e w40 ⟨v423, v425, rfl, ho0, ho1, hb⟩; refine ⟨_, rfl, ?_⟩; have n0_ := Aside0.mk (Kd.R_below (by (with_reducible repeat (first | apply Kd.R_alloc | apply Kd.R_drewN | apply Kd.R_drew)); exact HO_5.out) hb); have n1_ := Aside0.mk (Kd.R_mono (Kd.R_told (Kd.R_told (Kd.R_old (by (with_reducible repeat (first | apply Kd.R_alloc | apply Kd.R_drewN | apply Kd.R_drew)); exact HO_6.out) hb) (Kd.R_base ho0)) (Kd.R_base ho1)) (fun _ h_ => h_.1)); have n2_ := Aside0.mk (Kd.R_mono (Kd.R_told (Kd.R_told (Kd.R_old (by (with_reducible repeat (first | apply Kd.R_alloc | apply Kd.R_drewN | apply Kd.R_drew)); exact HO_7.out) hb) (Kd.R_base ho0)) (Kd.R_base ho1)) (fun _ h_ => h_.1)); have n3_ := Aside0.mk (Kd.R_mono (Kd.R_told (Kd.R_told (Kd.R_old (by (with_reducible repeat (first | apply Kd.R_alloc | apply Kd.R_drewN | apply Kd.R_drew)); exact HO_8.out) hb) (Kd.R_base ho0)) (Kd.R_base ho1)) (fun _ h_ => h_.1)); have n4_ := Aside0.mk (Kd.R_lower (Kd.R_new' (Kd.R_new' (Kd.R_new' ho0 (Kd.R_lt (by (with_reducible repeat (first | apply Kd.R_alloc | apply Kd.R_drewN | apply Kd.R_drew)); exact HO_6.out))) (Kd.R_lt (by (with_reducible repeat (first | apply Kd.R_alloc | apply Kd.R_drewN | apply Kd.R_drew)); exact HO_7.out))) (Kd.R_lt (by (with_reducible repeat (first | apply Kd.R_alloc | apply Kd.R_drewN | apply Kd.R_drew)); exact HO_8.out))) (below_size (by repeat (first | (with_reducible first | exact HB.out | apply below_alloc | apply pw_below_drewN | apply below_drew1) | exact HB.out)))); have n5_ := Aside0.mk (Kd.R_lower (Kd.R_new' (Kd.R_new' (Kd.R_new' ho1 (Kd.R_lt (by (with_reducible repeat (first | apply Kd.R_alloc | apply Kd.R_drewN | apply Kd.R_drew)); exact HO_6.out))) (Kd.R_lt (by (with_reducible repeat (first | apply Kd.R_alloc | apply Kd.R_drewN | apply Kd.R_drew)); exact HO_7.out))) (Kd.R_lt (by (with_reducible repeat (first | apply Kd.R_alloc | apply Kd.R_drewN | apply Kd.R_drew)); exact HO_8.out))) (below_size (by repeat (first | (with_reducible first | exact HB.out | apply below_alloc | apply pw_below_drewN | apply below_drew1) | exact HB.out)))); have n6_ := Aside0.mk (Kd.C_below (by repeat (first | (with_reducible first | exact HR419.out | exact Kd.C_drewN HR419.out _ | exact Kd.C_drew HR419.out) | exact HR419.out | (with_reducible refine Kd.C_alloc ?_ _) | (with_reducible refine Kd.C_drewN ?_ _) | (with_reducible refine Kd.C_drew ?_) | exact HR419.out)) hb); have n7_ := Aside0.mk (below_step (by repeat (first | (with_reducible first | exact HB.out | apply below_alloc | apply pw_below_drewN | apply below_drew1) | exact HB.out)) hb); clear HO_5; clear HO_6; clear HO_7; clear HO_8; clear HR419; clear HB; have HO_5 := n0_; have HO_6 := n1_; have HO_7 := n2_; have HO_8 := n3_; have HO424 := n4_; have HO426 := n5_; have HR419 := n6_; have HB := n7_; clear n0_ n1_ n2_ n3_ n4_ n5_ n6_ n7_; (try clear hb); (try clear hb2); (try clear hk); (try clear hi); (try clear ho0); (try clear ho1); have q41 : ((ji31) : Int) ≤ ((t391.length : Int) : Int) := of_decide_eq_true (by first | (with_reducible assumption) | assumption); obtain ⟨i041, hi041, _, hsz41, _⟩ := info_parts info53; have hroom41 : t391.length ≤ co9 := (Kd.R_reads' HO_5.out).2.1; have hC41 : Kd.C k53 _ Ao9 t391.length t391 := (Kd.R_reads' HO_5.out).2.2; have q041 : (0 : Int) ≤ ((ji31) : Int) := of_decide_eq_true (by first | (with_reducible assumption) | assumption); have hcut41 := cut_from (P := Try.prog) 23 53 .i64 Try.underlying23 hi041 5 hsz41 Ao9 t391.length co9 (ji31) q041 q41; have hr41 := Kd.C_drop (m := ((ji31) : Int).toNat) (c := co9) hC41 (by omega) hroom41; obtain ⟨A41, hA41⟩ : ∃ A1, A1 = (if co9 = ((ji31) : Int).toNat then Ao9 else (Ao9 : Option Addr).map (·.add (((ji31) : Int).toNat * 5))) := ⟨_, rfl⟩; obtain ⟨c41, hc41⟩ : ∃ c1, c1 = co9 - ((ji31) : Int).toNat := ⟨_, rfl⟩; have hy41 : y427.length = t391.length - ((ji31) : Int).toNat := (by rw [Ny427.out, List.length_drop] <;> omega); rw [show (t391).drop ((ji31) : Int).toNat = y427 from Ny427.out.symm] at hr41; replace hr41 : Kd.C k53 _ A41 y427.length y427 := (by rw [hA41]; exact hr41); rw [← hy41, ← hA41, ← hc41] at hcut41; have HR430 := Aside0.mk hr41; have HC430 := Aside0.mk (show y427.length ≤ c41 from by rw [hy41, hc41]; exact Nat.sub_le_sub_right hroom41 _); clear hr41 hC41 hroom41 hi041 hsz41 hc41; have KY41 := Aside0.mk hy41; have KA41 := Aside0.mk hA41; clear hy41 hA41; have KL41 := Aside0.mk (show ((ji31) : Int).toNat ≤ t391.length from by omega); replace q41 := eq_true q41; obtain ⟨Ao42, co42, eo42⟩ := Kd.R_slice HO426.out; subst eo42) | ((with_reducible refine gate_callee (f := 7) rfl ?_); refine goesL_ (some 107) rfl rfl Try.func7 (by kernel_rfl) rfl #[.slice A41 y427.length c41, .slice Ao42 t421.length co42] rfl (by (try simp only [List.map_toArray, List.map_cons, List.map_nil]); first | done | rfl | (simp only [List.length_drop, List.length_take]; rfl)) ?_; (with_reducible refine (impl_RunCode.calls kj6 _ _ y427 _ _ t421 t431 t432 t433 _ ?side1 ?side2 ?side3 ?side4 A37.out).mono ?_); (case side1 => repeat (first | exact (by repeat (first | (with_reducible first | exact HR430.out | exact Kd.C_drewN HR430.out _ | exact Kd.C_drew HR430.out) | exact HR430.out | (with_reducible refine Kd.C_alloc ?_ _) | (with_reducible refine Kd.C_drewN ?_ _) | (with_reducible refine Kd.C_drew ?_) | exact HR430.out)) | (with_reducible refine Kd.C_alloc ?_ _) | (with_reducible refine Kd.C_drewN ?_ _) | (with_reducible refine Kd.C_drew ?_))); (case side2 => exact HC430.out); (case side3 => repeat (first | exact (Kd.R_reads' HO426.out).2.2 | (with_reducible refine Kd.C_alloc ?_ _) | (with_reducible refine Kd.C_drewN ?_ _) | (with_reducible refine Kd.C_drew ?_))); (case side4 => exact (Kd.R_reads' HO426.out).2.1); rintro e w43 ⟨v434, v436, rfl, ho0, ho1, hb⟩; refine ⟨_, rfl, ?_⟩; have n0_ := Aside0.mk (Kd.R_below (by (with_reducible repeat (first | apply Kd.R_alloc | apply Kd.R_drewN | apply Kd.R_drew)); exact HO_5.out) hb); have n1_ := Aside0.mk (Kd.R_mono (Kd.R_told (Kd.R_told (Kd.R_old (by (with_reducible repeat (first | apply Kd.R_alloc | apply Kd.R_drewN | apply Kd.R_drew)); exact HO_6.out) hb) (Kd.R_base ho0)) (Kd.R_base ho1)) (fun _ h_ => h_.1)); have n2_ := Aside0.mk (Kd.R_mono (Kd.R_told (Kd.R_told (Kd.R_old (by (with_reducible repeat (first | apply Kd.R_alloc | apply Kd.R_drewN | apply Kd.R_drew)); exact HO_7.out) hb) (Kd.R_base ho0)) (Kd.R_base ho1)) (fun _ h_ => h_.1)); have n3_ := Aside0.mk (Kd.R_mono (Kd.R_told (Kd.R_told (Kd.R_old (by (with_reducible repeat (first | apply Kd.R_alloc | apply Kd.R_drewN | apply Kd.R_drew)); exact HO_8.out) hb) (Kd.R_base ho0)) (Kd.R_base ho1)) (fun _ h_ => h_.1)); have n4_ := Aside0.mk (Kd.R_mono (Kd.R_told (Kd.R_told (Kd.R_old (by (with_reducible repeat (first | apply Kd.R_alloc | apply Kd.R_drewN | apply Kd.R_drew)); exact HO424.out) hb) (Kd.R_base ho0)) (Kd.R_base ho1)) (fun _ h_ => h_.1)); have n5_ := Aside0.mk (Kd.R_mono (Kd.R_told (Kd.R_told (Kd.R_old (by (with_reducible repeat (first | apply Kd.R_alloc | apply Kd.R_drewN | apply Kd.R_drew)); exact HO426.out) hb) (Kd.R_base ho0)) (Kd.R_base ho1)) (fun _ h_ => h_.1)); have n6_ := Aside0.mk (Kd.R_lower (Kd.R_new' (Kd.R_new' (Kd.R_new' (Kd.R_new' (Kd.R_new' ho0 (Kd.R_lt (by (with_reducible repeat (first | apply Kd.R_alloc | apply Kd.R_drewN | apply Kd.R_drew)); exact HO_6.out))) (Kd.R_lt (by (with_reducible repeat (first | apply Kd.R_alloc | apply Kd.R_drewN | apply Kd.R_drew)); exact HO_7.out))) (Kd.R_lt (by (with_reducible repeat (first | apply Kd.R_alloc | apply Kd.R_drewN | apply Kd.R_drew)); exact HO_8.out))) (Kd.R_lt (by (with_reducible repeat (first | apply Kd.R_alloc | apply Kd.R_drewN | apply Kd.R_drew)); exact HO424.out))) (Kd.R_lt (by (with_reducible repeat (first | apply Kd.R_alloc | apply Kd.R_drewN | apply Kd.R_drew)); exact HO426.out))) (below_size (by repeat (first | (with_reducible first | exact HB.out | apply below_alloc | apply pw_below_drewN | apply below_drew1) | exact HB.out)))); have n7_ := Aside0.mk (Kd.R_lower (Kd.R_new' (Kd.R_new' (Kd.R_new' (Kd.R_new' (Kd.R_new' ho1 (Kd.R_lt (by (with_reducible repeat (first | apply Kd.R_alloc | apply Kd.R_drewN | apply Kd.R_drew)); exact HO_6.out))) (Kd.R_lt (by (with_reducible repeat (first | apply Kd.R_alloc | apply Kd.R_drewN | apply Kd.R_drew)); exact HO_7.out))) (Kd.R_lt (by (with_reducible repeat (first | apply Kd.R_alloc | apply Kd.R_drewN | apply Kd.R_drew)); exact HO_8.out))) (Kd.R_lt (by (with_reducible repeat (first | apply Kd.R_alloc | apply Kd.R_drewN | apply Kd.R_drew)); exact HO424.out))) (Kd.R_lt (by (with_reducible repeat (first | apply Kd.R_alloc | apply Kd.R_drewN | apply Kd.R_drew)); exact HO426.out))) (below_size (by repeat (first | (with_reducible first | exact HB.out | apply below_alloc | apply pw_below_drewN | apply below_drew1) | exact HB.out)))); have n8_ := Aside0.mk (Kd.C_below (by repeat (first | (with_reducible first | exact HR419.out | exact Kd.C_drewN HR419.out _ | exact Kd.C_drew HR419.out) | exact HR419.out | (with_reducible refine Kd.C_alloc ?_ _) | (with_reducible refine Kd.C_drewN ?_ _) | (with_reducible refine Kd.C_drew ?_) | exact HR419.out)) hb); have n9_ := Aside0.mk (Kd.C_below (by repeat (first | (with_reducible first | exact HR430.out | exact Kd.C_drewN HR430.out _ | exact Kd.C_drew HR430.out) | exact HR430.out | (with_reducible refine Kd.C_alloc ?_ _) | (with_reducible refine Kd.C_drewN ?_ _) | (with_reducible refine Kd.C_drew ?_) | exact HR430.out)) hb); have n10_ := Aside0.mk (below_step (by repeat (first | (with_reducible first | exact HB.out | apply below_alloc | apply pw_below_drewN | apply below_drew1) | exact HB.out)) hb); clear HO_5; clear HO_6; clear HO_7; clear HO_8; clear HO424; clear HO426; clear HR419; clear HR430; clear HB; have HO_5 := n0_; have HO_6 := n1_; have HO_7 := n2_; have HO_8 := n3_; have HO424 := n4_; have HO426 := n5_; have HO435 := n6_; have HO437 := n7_; have HR419 := n8_; have HR430 := n9_; have HB := n10_; clear n0_ n1_ n2_ n3_ n4_ n5_ n6_ n7_ n8_ n9_ n10_; (try clear hb); (try clear hb2); (try clear hk); (try clear hi); (try clear ho0); (try clear ho1)))
      (try simp only [Act.put, List.setIfInBounds_toArray, List.set_cons_zero, List.set_cons_succ])
      go_cut [132] (fun v132 wc => ∃ (kq : Nat) (x132_37 : Bool), v132 = .bool x132_37 ∧ Aside0 (laws_FnCode.j1 kq l1 t391 t392 t397 t398 ji31 x132_37 = some true) ∧ Aside0 (kq ≤ kj6) ∧ Aside0 (Kd.R k53 53 wc w.heap.size (fun _ => True) (.slice Ao9 t391.length co9) t391) ∧ Aside0 (Kd.R (Kd.int .i64) 3 wc w.heap.size (fun k_ => some k_ ≠ (v400 : Value).ownBlock ∧ some k_ ≠ (v402 : Value).ownBlock) (.slice Ao10 t392.length co10) t392) ∧ Aside0 (Kd.R (Kd.int .i64) 3 wc w.heap.size (fun k_ => some k_ ≠ ((.slice Ao10 t392.length co10) : Value).ownBlock ∧ some k_ ≠ (v402 : Value).ownBlock) v400 t397) ∧ Aside0 (Kd.R (Kd.int .i64) 3 wc w.heap.size (fun k_ => some k_ ≠ ((.slice Ao10 t392.length co10) : Value).ownBlock ∧ some k_ ≠ (v400 : Value).ownBlock) v402 t398) ∧ Aside0 True ∧ Aside0 True ∧ Aside0 (Below w.heap.size w wc))
      case first => as_aux_lemma =>
       have H := HC38.out
       clear HC38
       by_cases c44 : t422 = true
       rotate_left
       ·replace c44 := Bool.eq_false_iff.mpr c44
        subst c44
        have H1 : (laws_FnCode.j1 kj6 l1 t391 t392 t397 t398 ji31 true) = some true := by rw [if_neg (show ¬ (false = true) by decide)] at H; exact H
        clear H
        have H := H1
        clear H1
        exact absurd H (by cases kj6 <;> simp [laws_FnCode.j1])
       subst c44
       have H1 : (if t433 = true then ((laws_sameInts.f kj6 t432 t398).bind fun t438 => (if t438 = true then ((some (([] : List Int) : List Int)).bind fun y439 => (if y439.length + t420.length < 17592186044416 then ((some (y439 ++ t420 : List Int)).bind fun y442 => (if y442.length + t431.length < 17592186044416 then ((laws_sameInts.f kj6 (y442 ++ t431) t397).bind fun t448 => (laws_FnCode.j1 kj6 l1 t391 t392 t397 t398 ji31 (!t448))) else (none))) else (none))) else (laws_FnCode.j1 kj6 l1 t391 t392 t397 t398 ji31 true))) else (laws_FnCode.j1 kj6 l1 t391 t392 t397 t398 ji31 true)) = some true := by rw [if_pos rfl] at H; exact H
       clear H
       have H := H1
       clear H1
       by_cases c45 : t433 = true
       rotate_left
       ·replace c45 := Bool.eq_false_iff.mpr c45
        subst c45
        have H1 : (laws_FnCode.j1 kj6 l1 t391 t392 t397 t398 ji31 true) = some true := by rw [if_neg (show ¬ (false = true) by decide)] at H; exact H
        clear H
        have H := H1
        clear H1
        exact absurd H (by cases kj6 <;> simp [laws_FnCode.j1])
       subst c45
       have H1 : ((laws_sameInts.f kj6 t432 t398).bind fun t438 => (if t438 = true then ((some (([] : List Int) : List Int)).bind fun y439 => (if y439.length + t420.length < 17592186044416 then ((some (y439 ++ t420 : List Int)).bind fun y442 => (if y442.length + t431.length < 17592186044416 then ((laws_sameInts.f kj6 (y442 ++ t431) t397).bind fun t448 => (laws_FnCode.j1 kj6 l1 t391 t392 t397 t398 ji31 (!t448))) else (none))) else (none))) else (laws_FnCode.j1 kj6 l1 t391 t392 t397 t398 ji31 true))) = some true := by rw [if_pos rfl] at H; exact H
       clear H
       have H := H1
       clear H1
       replace H := Option.bind_eq_some_iff.mp H
       obtain ⟨t438, A460, H⟩ := H
       replace H : (if t438 = true then ((some (([] : List Int) : List Int)).bind fun y439 => (if y439.length + t420.length < 17592186044416 then ((some (y439 ++ t420 : List Int)).bind fun y442 => (if y442.length + t431.length < 17592186044416 then ((laws_sameInts.f kj6 (y442 ++ t431) t397).bind fun t448 => (laws_FnCode.j1 kj6 l1 t391 t392 t397 t398 ji31 (!t448))) else (none))) else (none))) else (laws_FnCode.j1 kj6 l1 t391 t392 t397 t398 ji31 true)) = some true := H
       have A46 := Aside0.mk A460
       clear A460
       by_cases c47 : t438 = true
       rotate_left
       ·replace c47 := Bool.eq_false_iff.mpr c47
        subst c47
        have H1 : (laws_FnCode.j1 kj6 l1 t391 t392 t397 t398 ji31 true) = some true := by rw [if_neg (show ¬ (false = true) by decide)] at H; exact H
        clear H
        have H := H1
        clear H1
        exact absurd H (by cases kj6 <;> simp [laws_FnCode.j1])
       subst c47
       have H1 : ((some (([] : List Int) : List Int)).bind fun y439 => (if y439.length + t420.length < 17592186044416 then ((some (y439 ++ t420 : List Int)).bind fun y442 => (if y442.length + t431.length < 17592186044416 then ((laws_sameInts.f kj6 (y442 ++ t431) t397).bind fun t448 => (laws_FnCode.j1 kj6 l1 t391 t392 t397 t398 ji31 (!t448))) else (none))) else (none))) = some true := by rw [if_pos rfl] at H; exact H
       clear H
       have H := H1
       clear H1
       obtain ⟨y439, hy439⟩ : ∃ y_ : List Int, y_ = (([] : List Int)) := ⟨_, rfl⟩
       replace H : (if y439.length + t420.length < 17592186044416 then ((some (y439 ++ t420 : List Int)).bind fun y442 => (if y442.length + t431.length < 17592186044416 then ((laws_sameInts.f kj6 (y442 ++ t431) t397).bind fun t448 => (laws_FnCode.j1 kj6 l1 t391 t392 t397 t398 ji31 (!t448))) else (none))) else (none)) = some true := by first | (rw [hy439]; with_reducible exact H) | (have H2_ := (Option.bind_some _ _).symm.trans H; rw [hy439]; with_reducible exact H2_) | (have H2_ := (Option.bind_some _ _).symm.trans H; with_reducible exact H2_) | with_reducible exact H | (rw [hy439]; exact H) | exact H
       have Ny439 := Aside0.mk hy439
       clear hy439
       by_cases c48 : y439.length + t420.length < 17592186044416
       rotate_left
       ·rw [if_neg c48] at H
        exact absurd H (by simp)
       rw [if_pos c48] at H
       have LMc48 := Aside0.mk c48
       clear c48
       obtain ⟨y442, hy442⟩ : ∃ y_ : List Int, y_ = (y439 ++ t420) := ⟨_, rfl⟩
       replace H : (if y442.length + t431.length < 17592186044416 then ((laws_sameInts.f kj6 (y442 ++ t431) t397).bind fun t448 => (laws_FnCode.j1 kj6 l1 t391 t392 t397 t398 ji31 (!t448))) else (none)) = some true := by first | (rw [hy442]; with_reducible exact H) | (have H2_ := (Option.bind_some _ _).symm.trans H; rw [hy442]; with_reducible exact H2_) | (have H2_ := (Option.bind_some _ _).symm.trans H; with_reducible exact H2_) | with_reducible exact H | (rw [hy442]; exact H) | exact H
       have Ny442 := Aside0.mk hy442
       clear hy442
       by_cases c49 : y442.length + t431.length < 17592186044416
       rotate_left
       ·rw [if_neg c49] at H
        exact absurd H (by simp)
       rw [if_pos c49] at H
       have LMc49 := Aside0.mk c49
       clear c49
       obtain ⟨y445, hy445⟩ : ∃ y_ : List Int, y_ = (y442 ++ t431) := ⟨_, rfl⟩
       replace H : ((laws_sameInts.f kj6 y445 t397).bind fun t448 => (laws_FnCode.j1 kj6 l1 t391 t392 t397 t398 ji31 (!t448))) = some true := by first | (rw [hy445]; with_reducible exact H) | (have H2_ := (Option.bind_some _ _).symm.trans H; rw [hy445]; with_reducible exact H2_) | (have H2_ := (Option.bind_some _ _).symm.trans H; with_reducible exact H2_) | with_reducible exact H | (rw [hy445]; exact H) | exact H
       have Ny445 := Aside0.mk hy445
       clear hy445
       replace H := Option.bind_eq_some_iff.mp H
       obtain ⟨t448, A500, H⟩ := H
       replace H : (laws_FnCode.j1 kj6 l1 t391 t392 t397 t398 ji31 (!t448)) = some true := H
       have A50 := Aside0.mk A500
       clear A500
       have H' := Aside0.mk H
       clear H
       obtain ⟨Ao51, co51, eo51⟩ := Kd.R_slice HO437.out
       subst eo51
       obtain ⟨Ao52, co52, eo52⟩ := Kd.R_slice HO_8.out
       subst eo52
       go_wp2_with (first | (go_at_call 9; (with_reducible refine (laws_sameInts.calls kj6 _ _ t432 _ _ t398 true _ ?side1 ?side2 ?side3 ?side4 A46.out).mono ?_); (case side1 => repeat (first | exact (Kd.R_reads' HO437.out).2.2 | (with_reducible refine Kd.C_alloc ?_ _) | (with_reducible refine Kd.C_drewN ?_ _) | (with_reducible refine Kd.C_drew ?_))); (case side2 => exact (Kd.R_reads' HO437.out).2.1); (case side3 => repeat (first | exact (Kd.R_reads' HO_8.out).2.2 | (with_reducible refine Kd.C_alloc ?_ _) | (with_reducible refine Kd.C_drewN ?_ _) | (with_reducible refine Kd.C_drew ?_))); (case side4 => exact (Kd.R_reads' HO_8.out).2.1); rintro e w' ⟨rfl, ⟨nd, rfl⟩⟩) | ((with_reducible refine gate_dst (N := 124) rfl ?_); (try (refine gate_guard (by rfl) ?_; dsimp only)); refine Kd.R_lit (Kd.int .i64) _ 3 ?hg (N := 124) ?hd (xs := ([] : List Int)) (inner := []) (ok := fun _ => True) (okp := fun _ => True) ?hr ?hp (fun _ hk => hk) trivial (Below.refl _ _) (Nat.le_refl _) (by simp) ?_; (case hd => rfl); (case hg => rfl); (case hr => first | (go_simp; done) | (go_simp; rfl)); (case hp => exact (Reps.none _ _)); intro v440 w53 ho54 hb hg_ hnew_; clear hg_ hnew_; (first | rw [← Ny439.out] at ho54 | (simp only [Int.reduceToNat] at ho54; rw [← Ny439.out] at ho54)); have n0_ := Aside0.mk (Kd.R_below (by (with_reducible repeat (first | apply Kd.R_alloc | apply Kd.R_drewN | apply Kd.R_drew)); exact HO_5.out) hb); have n1_ := Aside0.mk (Kd.R_elder' (by (with_reducible repeat (first | apply Kd.R_alloc | apply Kd.R_drewN | apply Kd.R_drew)); exact HO_6.out) (Kd.R_base ho54) hb); have n2_ := Aside0.mk (Kd.R_elder' (by (with_reducible repeat (first | apply Kd.R_alloc | apply Kd.R_drewN | apply Kd.R_drew)); exact HO_7.out) (Kd.R_base ho54) hb); have n3_ := Aside0.mk (Kd.R_elder' (by (with_reducible repeat (first | apply Kd.R_alloc | apply Kd.R_drewN | apply Kd.R_drew)); exact HO_8.out) (Kd.R_base ho54) hb); have n4_ := Aside0.mk (Kd.R_elder' (by (with_reducible repeat (first | apply Kd.R_alloc | apply Kd.R_drewN | apply Kd.R_drew)); exact HO424.out) (Kd.R_base ho54) hb); have n5_ := Aside0.mk (Kd.R_elder' (by (with_reducible repeat (first | apply Kd.R_alloc | apply Kd.R_drewN | apply Kd.R_drew)); exact HO426.out) (Kd.R_base ho54) hb); have n6_ := Aside0.mk (Kd.R_elder' (by (with_reducible repeat (first | apply Kd.R_alloc | apply Kd.R_drewN | apply Kd.R_drew)); exact HO435.out) (Kd.R_base ho54) hb); have n7_ := Aside0.mk (Kd.R_elder' (by (with_reducible repeat (first | apply Kd.R_alloc | apply Kd.R_drewN | apply Kd.R_drew)); exact HO437.out) (Kd.R_base ho54) hb); have n8_ := Aside0.mk (Kd.R_lower (Kd.R_new' (Kd.R_new' (Kd.R_new' (Kd.R_new' (Kd.R_new' (Kd.R_new' (Kd.R_new' ho54 (Kd.R_lt (by (with_reducible repeat (first | apply Kd.R_alloc | apply Kd.R_drewN | apply Kd.R_drew)); exact HO_6.out))) (Kd.R_lt (by (with_reducible repeat (first | apply Kd.R_alloc | apply Kd.R_drewN | apply Kd.R_drew)); exact HO_7.out))) (Kd.R_lt (by (with_reducible repeat (first | apply Kd.R_alloc | apply Kd.R_drewN | apply Kd.R_drew)); exact HO_8.out))) (Kd.R_lt (by (with_reducible repeat (first | apply Kd.R_alloc | apply Kd.R_drewN | apply Kd.R_drew)); exact HO424.out))) (Kd.R_lt (by (with_reducible repeat (first | apply Kd.R_alloc | apply Kd.R_drewN | apply Kd.R_drew)); exact HO426.out))) (Kd.R_lt (by (with_reducible repeat (first | apply Kd.R_alloc | apply Kd.R_drewN | apply Kd.R_drew)); exact HO435.out))) (Kd.R_lt (by (with_reducible repeat (first | apply Kd.R_alloc | apply Kd.R_drewN | apply Kd.R_drew)); exact HO437.out))) (below_size (by repeat (first | (with_reducible first | exact HB.out | apply below_alloc | apply pw_below_drewN | apply below_drew1) | exact HB.out)))); have n9_ := Aside0.mk trivial; have n10_ := Aside0.mk trivial; have n11_ := Aside0.mk (below_step (by repeat (first | (with_reducible first | exact HB.out | apply below_alloc | apply pw_below_drewN | apply below_drew1) | exact HB.out)) hb); clear HO_5; clear HO_6; clear HO_7; clear HO_8; clear HO424; clear HO426; clear HO435; clear HO437; clear HR419; clear HR430; clear HB; have HO_5 := n0_; have HO_6 := n1_; have HO_7 := n2_; have HO_8 := n3_; have HO424 := n4_; have HO426 := n5_; have HO435 := n6_; have HO437 := n7_; have HO441 := n8_; have HR419 := n9_; have HR430 := n10_; have HB := n11_; clear n0_ n1_ n2_ n3_ n4_ n5_ n6_ n7_ n8_ n9_ n10_ n11_; clear hb ho54; obtain ⟨Ao56, co56, eo56⟩ := Kd.R_slice HO424.out; subst eo56) | ((with_reducible refine gate_builtin (b := .append) (xs := #[.tmp 124, .tmp 125]) rfl ?_); (try (refine gate_guard (by rfl) ?_; dsimp only)); at_builtin; refine Kd.R_append_rows (Kd.int .i64) (w0 := w) w.heap.size rfl (.tmp 124) (.tmp 125) 24 3 (.int .i64 0) 8 rfl Try.underlying24 info3 rfl (by decide) (by omega) v440 y439 t420 _ _ _ (fun k_ => some k_ ≠ (.slice Ao10 t392.length co10 : Value).ownBlock ∧ some k_ ≠ (v400 : Value).ownBlock ∧ some k_ ≠ (.slice Ao52 t398.length co52 : Value).ownBlock ∧ some k_ ≠ (.slice Ao56 t420.length co56 : Value).ownBlock ∧ some k_ ≠ (.slice Ao42 t421.length co42 : Value).ownBlock ∧ some k_ ≠ (v434 : Value).ownBlock ∧ some k_ ≠ (.slice Ao51 t432.length co51 : Value).ownBlock) (fun _ => False) rfl rfl ?aO ?aR (fun _ _ h => h) (fun _ h => h.elim) ?aF ?aB ?aS ?aL ?_; (case aR => repeat (first | exact (Kd.R_reads' HO424.out).2.2 | (with_reducible refine Kd.C_alloc ?_ _) | (with_reducible refine Kd.C_drewN ?_ _) | (with_reducible refine Kd.C_drew ?_))); (case aB => exact (by repeat (first | (with_reducible first | exact HB.out | apply below_alloc | apply pw_below_drewN | apply below_drew1) | exact HB.out))); (case aF => exact (fun k_ hk => ⟨Kd.fresh' (Kd.R_lt (by (with_reducible repeat (first | apply Kd.R_alloc | apply Kd.R_drewN | apply Kd.R_drew)); exact HO_6.out)) k_ hk, Kd.fresh' (Kd.R_lt (by (with_reducible repeat (first | apply Kd.R_alloc | apply Kd.R_drewN | apply Kd.R_drew)); exact HO_7.out)) k_ hk, Kd.fresh' (Kd.R_lt (by (with_reducible repeat (first | apply Kd.R_alloc | apply Kd.R_drewN | apply Kd.R_drew)); exact HO_8.out)) k_ hk, Kd.fresh' (Kd.R_lt (by (with_reducible repeat (first | apply Kd.R_alloc | apply Kd.R_drewN | apply Kd.R_drew)); exact HO424.out)) k_ hk, Kd.fresh' (Kd.R_lt (by (with_reducible repeat (first | apply Kd.R_alloc | apply Kd.R_drewN | apply Kd.R_drew)); exact HO426.out)) k_ hk, Kd.fresh' (Kd.R_lt (by (with_reducible repeat (first | apply Kd.R_alloc | apply Kd.R_drewN | apply Kd.R_drew)); exact HO435.out)) k_ hk, Kd.fresh' (Kd.R_lt (by (with_reducible repeat (first | apply Kd.R_alloc | apply Kd.R_drewN | apply Kd.R_drew)); exact HO437.out)) k_ hk⟩)); (case aO => exact (by (with_reducible repeat (first | apply Kd.R_alloc | apply Kd.R_drewN | apply Kd.R_drew)); exact Kd.R_mono HO441.out (fun _ hk => ⟨hk.1.1.1.1.1.1.2, ⟨hk.1.1.1.1.1.2, ⟨hk.1.1.1.1.2, ⟨hk.1.1.1.2, ⟨hk.1.1.2, ⟨hk.1.2, hk.2⟩⟩⟩⟩⟩⟩))); (case aS => exact (below_size (by repeat (first | (with_reducible first | exact HB.out | apply below_alloc | apply pw_below_drewN | apply below_drew1) | exact HB.out)))); (case aL => have := LMc48.out; omega); intro v443 w55 ho hb hg hat; rw [← Ny442.out] at ho; have n0_ := Aside0.mk (Kd.R_over' (by (with_reducible repeat (first | apply Kd.R_alloc | apply Kd.R_drewN | apply Kd.R_drew)); exact HO_5.out) (Kd.R_typed (by (with_reducible repeat (first | apply Kd.R_alloc | apply Kd.R_drewN | apply Kd.R_drew)); exact HO441.out)) (by decide) hg); have n1_ := Aside0.mk (Kd.R_after (ok := (fun k_ => some k_ ≠ (v400 : Value).ownBlock ∧ some k_ ≠ (.slice Ao52 t398.length co52 : Value).ownBlock ∧ some k_ ≠ (.slice Ao56 t420.length co56 : Value).ownBlock ∧ some k_ ≠ (.slice Ao42 t421.length co42 : Value).ownBlock ∧ some k_ ≠ (v434 : Value).ownBlock ∧ some k_ ≠ (.slice Ao51 t432.length co51 : Value).ownBlock)) (by (with_reducible repeat (first | apply Kd.R_alloc | apply Kd.R_drewN | apply Kd.R_drew)); exact Kd.R_mono HO_6.out (fun _ hk => ⟨⟨hk.1.1.1.1.1.1, ⟨hk.1.1.1.1.1.2, ⟨hk.1.1.1.1.2, ⟨hk.1.1.1.2, ⟨hk.1.1.2, hk.1.2⟩⟩⟩⟩⟩, hk.2⟩)) hg hat); have n2_ := Aside0.mk (Kd.R_after (ok := (fun k_ => some k_ ≠ (.slice Ao10 t392.length co10 : Value).ownBlock ∧ some k_ ≠ (.slice Ao52 t398.length co52 : Value).ownBlock ∧ some k_ ≠ (.slice Ao56 t420.length co56 : Value).ownBlock ∧ some k_ ≠ (.slice Ao42 t421.length co42 : Value).ownBlock ∧ some k_ ≠ (v434 : Value).ownBlock ∧ some k_ ≠ (.slice Ao51 t432.length co51 : Value).ownBlock)) (by (with_reducible repeat (first | apply Kd.R_alloc | apply Kd.R_drewN | apply Kd.R_drew)); exact Kd.R_mono HO_7.out (fun _ hk => ⟨⟨hk.1.1.1.1.1.1, ⟨hk.1.1.1.1.1.2, ⟨hk.1.1.1.1.2, ⟨hk.1.1.1.2, ⟨hk.1.1.2, hk.1.2⟩⟩⟩⟩⟩, hk.2⟩)) hg hat); have n3_ := Aside0.mk (Kd.R_after (ok := (fun k_ => some k_ ≠ (.slice Ao10 t392.length co10 : Value).ownBlock ∧ some k_ ≠ (v400 : Value).ownBlock ∧ some k_ ≠ (.slice Ao56 t420.length co56 : Value).ownBlock ∧ some k_ ≠ (.slice Ao42 t421.length co42 : Value).ownBlock ∧ some k_ ≠ (v434 : Value).ownBlock ∧ some k_ ≠ (.slice Ao51 t432.length co51 : Value).ownBlock)) (by (with_reducible repeat (first | apply Kd.R_alloc | apply Kd.R_drewN | apply Kd.R_drew)); exact Kd.R_mono HO_8.out (fun _ hk => ⟨⟨hk.1.1.1.1.1.1, ⟨hk.1.1.1.1.1.2, ⟨hk.1.1.1.1.2, ⟨hk.1.1.1.2, ⟨hk.1.1.2, hk.1.2⟩⟩⟩⟩⟩, hk.2⟩)) hg hat); have n4_ := Aside0.mk (Kd.R_after (ok := (fun k_ => some k_ ≠ (.slice Ao10 t392.length co10 : Value).ownBlock ∧ some k_ ≠ (v400 : Value).ownBlock ∧ some k_ ≠ (.slice Ao52 t398.length co52 : Value).ownBlock ∧ some k_ ≠ (.slice Ao42 t421.length co42 : Value).ownBlock ∧ some k_ ≠ (v434 : Value).ownBlock ∧ some k_ ≠ (.slice Ao51 t432.length co51 : Value).ownBlock)) (by (with_reducible repeat (first | apply Kd.R_alloc | apply Kd.R_drewN | apply Kd.R_drew)); exact Kd.R_mono HO424.out (fun _ hk => ⟨⟨hk.1.1.1.1.1.2, ⟨hk.1.1.1.1.2, ⟨hk.1.1.1.2, ⟨hk.1.1.1.1.1.1, ⟨hk.1.1.2, hk.1.2⟩⟩⟩⟩⟩, hk.2⟩)) hg hat); have n5_ := Aside0.mk (Kd.R_after (ok := (fun k_ => some k_ ≠ (.slice Ao10 t392.length co10 : Value).ownBlock ∧ some k_ ≠ (v400 : Value).ownBlock ∧ some k_ ≠ (.slice Ao52 t398.length co52 : Value).ownBlock ∧ some k_ ≠ (.slice Ao56 t420.length co56 : Value).ownBlock ∧ some k_ ≠ (v434 : Value).ownBlock ∧ some k_ ≠ (.slice Ao51 t432.length co51 : Value).ownBlock)) (by (with_reducible repeat (first | apply Kd.R_alloc | apply Kd.R_drewN | apply Kd.R_drew)); exact Kd.R_mono HO426.out (fun _ hk => ⟨⟨hk.1.1.1.1.1.2, ⟨hk.1.1.1.1.2, ⟨hk.1.1.1.2, ⟨hk.1.1.1.1.1.1, ⟨hk.1.1.2, hk.1.2⟩⟩⟩⟩⟩, hk.2⟩)) hg hat); have n6_ := Aside0.mk (Kd.R_after (ok := (fun k_ => some k_ ≠ (.slice Ao10 t392.length co10 : Value).ownBlock ∧ some k_ ≠ (v400 : Value).ownBlock ∧ some k_ ≠ (.slice Ao52 t398.length co52 : Value).ownBlock ∧ some k_ ≠ (.slice Ao56 t420.length co56 : Value).ownBlock ∧ some k_ ≠ (.slice Ao42 t421.length co42 : Value).ownBlock ∧ some k_ ≠ (.slice Ao51 t432.length co51 : Value).ownBlock)) (by (with_reducible repeat (first | apply Kd.R_alloc | apply Kd.R_drewN | apply Kd.R_drew)); exact Kd.R_mono HO435.out (fun _ hk => ⟨⟨hk.1.1.1.1.1.2, ⟨hk.1.1.1.1.2, ⟨hk.1.1.1.2, ⟨hk.1.1.2, ⟨hk.1.2, hk.1.1.1.1.1.1⟩⟩⟩⟩⟩, hk.2⟩)) hg hat); have n7_ := Aside0.mk (Kd.R_after (ok := (fun k_ => some k_ ≠ (.slice Ao10 t392.length co10 : Value).ownBlock ∧ some k_ ≠ (v400 : Value).ownBlock ∧ some k_ ≠ (.slice Ao52 t398.length co52 : Value).ownBlock ∧ some k_ ≠ (.slice Ao56 t420.length co56 : Value).ownBlock ∧ some k_ ≠ (.slice Ao42 t421.length co42 : Value).ownBlock ∧ some k_ ≠ (v434 : Value).ownBlock)) (by (with_reducible repeat (first | apply Kd.R_alloc | apply Kd.R_drewN | apply Kd.R_drew)); exact Kd.R_mono HO437.out (fun _ hk => ⟨⟨hk.1.1.1.1.1.2, ⟨hk.1.1.1.1.2, ⟨hk.1.1.1.2, ⟨hk.1.1.2, ⟨hk.1.2, hk.1.1.1.1.1.1⟩⟩⟩⟩⟩, hk.2⟩)) hg hat); have n8_ := Aside0.mk (hb); have n9_ := Aside0.mk ((show Kd.C k53 w55 Ao9 y416.length y416 from by rw [Ny416.out]; exact Kd.C_take (m := ((ji31) : Int).toNat) ((Kd.R_reads' (Kd.R_over' (by (with_reducible repeat (first | apply Kd.R_alloc | apply Kd.R_drewN | apply Kd.R_drew)); exact HO_5.out) (Kd.R_typed (by (with_reducible repeat (first | apply Kd.R_alloc | apply Kd.R_drewN | apply Kd.R_drew)); exact HO441.out)) (by decide) hg)).2.2) KL39.out)); have n10_ := Aside0.mk ((show Kd.C k53 w55 A41 y427.length y427 from by rw [Ny427.out, KA41.out]; exact Kd.C_drop (m := ((ji31) : Int).toNat) (c := co9) ((Kd.R_reads' (Kd.R_over' (by (with_reducible repeat (first | apply Kd.R_alloc | apply Kd.R_drewN | apply Kd.R_drew)); exact HO_5.out) (Kd.R_typed (by (with_reducible repeat (first | apply Kd.R_alloc | apply Kd.R_drewN | apply Kd.R_drew)); exact HO441.out)) (by decide) hg)).2.2) KL41.out ((Kd.R_reads' (Kd.R_over' (by (with_reducible repeat (first | apply Kd.R_alloc | apply Kd.R_drewN | apply Kd.R_drew)); exact HO_5.out) (Kd.R_typed (by (with_reducible repeat (first | apply Kd.R_alloc | apply Kd.R_drewN | apply Kd.R_drew)); exact HO441.out)) (by decide) hg)).2.1))); have n11_ := Aside0.mk (ho); clear HO_5; clear HO_6; clear HO_7; clear HO_8; clear HO424; clear HO426; clear HO435; clear HO437; clear HB; clear HR419; clear HR430; clear HO441; have HO_5 := n0_; have HO_6 := n1_; have HO_7 := n2_; have HO_8 := n3_; have HO424 := n4_; have HO426 := n5_; have HO435 := n6_; have HO437 := n7_; have HB := n8_; have HR419 := n9_; have HR430 := n10_; have HO444 := n11_; clear n0_ n1_ n2_ n3_ n4_ n5_ n6_ n7_ n8_ n9_ n10_ n11_; clear ho hb hg hat; obtain ⟨Ao58, co58, eo58⟩ := Kd.R_slice HO435.out; subst eo58) | ((with_reducible refine gate_builtin (b := .append) (xs := #[.tmp 126, .tmp 127]) rfl ?_); (try (refine gate_guard (by rfl) ?_; dsimp only)); at_builtin; refine Kd.R_append_rows (Kd.int .i64) (w0 := w) w.heap.size rfl (.tmp 126) (.tmp 127) 24 3 (.int .i64 0) 8 rfl Try.underlying24 info3 rfl (by decide) (by omega) v443 y442 t431 _ _ _ (fun k_ => some k_ ≠ (.slice Ao10 t392.length co10 : Value).ownBlock ∧ some k_ ≠ (v400 : Value).ownBlock ∧ some k_ ≠ (.slice Ao52 t398.length co52 : Value).ownBlock ∧ some k_ ≠ (.slice Ao56 t420.length co56 : Value).ownBlock ∧ some k_ ≠ (.slice Ao42 t421.length co42 : Value).ownBlock ∧ some k_ ≠ (.slice Ao58 t431.length co58 : Value).ownBlock ∧ some k_ ≠ (.slice Ao51 t432.length co51 : Value).ownBlock) (fun _ => False) rfl rfl ?aO ?aR (fun _ _ h => h) (fun _ h => h.elim) ?aF ?aB ?aS ?aL ?_; (case aR => repeat (first | exact (Kd.R_reads' HO435.out).2.2 | (with_reducible refine Kd.C_alloc ?_ _) | (with_reducible refine Kd.C_drewN ?_ _) | (with_reducible refine Kd.C_drew ?_))); (case aB => exact (by repeat (first | (with_reducible first | exact HB.out | apply below_alloc | apply pw_below_drewN | apply below_drew1) | exact HB.out))); (case aF => exact (fun k_ hk => ⟨Kd.fresh' (Kd.R_lt (by (with_reducible repeat (first | apply Kd.R_alloc | apply Kd.R_drewN | apply Kd.R_drew)); exact HO_6.out)) k_ hk, Kd.fresh' (Kd.R_lt (by (with_reducible repeat (first | apply Kd.R_alloc | apply Kd.R_drewN | apply Kd.R_drew)); exact HO_7.out)) k_ hk, Kd.fresh' (Kd.R_lt (by (with_reducible repeat (first | apply Kd.R_alloc | apply Kd.R_drewN | apply Kd.R_drew)); exact HO_8.out)) k_ hk, Kd.fresh' (Kd.R_lt (by (with_reducible repeat (first | apply Kd.R_alloc | apply Kd.R_drewN | apply Kd.R_drew)); exact HO424.out)) k_ hk, Kd.fresh' (Kd.R_lt (by (with_reducible repeat (first | apply Kd.R_alloc | apply Kd.R_drewN | apply Kd.R_drew)); exact HO426.out)) k_ hk, Kd.fresh' (Kd.R_lt (by (with_reducible repeat (first | apply Kd.R_alloc | apply Kd.R_drewN | apply Kd.R_drew)); exact HO435.out)) k_ hk, Kd.fresh' (Kd.R_lt (by (with_reducible repeat (first | apply Kd.R_alloc | apply Kd.R_drewN | apply Kd.R_drew)); exact HO437.out)) k_ hk⟩)); (case aO => exact (by (with_reducible repeat (first | apply Kd.R_alloc | apply Kd.R_drewN | apply Kd.R_drew)); exact HO444.out)); (case aS => exact (below_size (by repeat (first | (with_reducible first | exact HB.out | apply below_alloc | apply pw_below_drewN | apply below_drew1) | exact HB.out)))); (case aL => have := LMc49.out; omega); intro v446 w57 ho hb hg hat; rw [← Ny445.out] at ho; have n0_ := Aside0.mk (Kd.R_over' (by (with_reducible repeat (first | apply Kd.R_alloc | apply Kd.R_drewN | apply Kd.R_drew)); exact HO_5.out) (Kd.R_typed (by (with_reducible repeat (first | apply Kd.R_alloc | apply Kd.R_drewN | apply Kd.R_drew)); exact HO444.out)) (by decide) hg); have n1_ := Aside0.mk (Kd.R_after (ok := (fun k_ => some k_ ≠ (v400 : Value).ownBlock ∧ some k_ ≠ (.slice Ao52 t398.length co52 : Value).ownBlock ∧ some k_ ≠ (.slice Ao56 t420.length co56 : Value).ownBlock ∧ some k_ ≠ (.slice Ao42 t421.length co42 : Value).ownBlock ∧ some k_ ≠ (.slice Ao58 t431.length co58 : Value).ownBlock ∧ some k_ ≠ (.slice Ao51 t432.length co51 : Value).ownBlock)) (by (with_reducible repeat (first | apply Kd.R_alloc | apply Kd.R_drewN | apply Kd.R_drew)); exact HO_6.out) hg hat); have n2_ := Aside0.mk (Kd.R_after (ok := (fun k_ => some k_ ≠ (.slice Ao10 t392.length co10 : Value).ownBlock ∧ some k_ ≠ (.slice Ao52 t398.length co52 : Value).ownBlock ∧ some k_ ≠ (.slice Ao56 t420.length co56 : Value).ownBlock ∧ some k_ ≠ (.slice Ao42 t421.length co42 : Value).ownBlock ∧ some k_ ≠ (.slice Ao58 t431.length co58 : Value).ownBlock ∧ some k_ ≠ (.slice Ao51 t432.length co51 : Value).ownBlock)) (by (with_reducible repeat (first | apply Kd.R_alloc | apply Kd.R_drewN | apply Kd.R_drew)); exact HO_7.out) hg hat); have n3_ := Aside0.mk (Kd.R_after (ok := (fun k_ => some k_ ≠ (.slice Ao10 t392.length co10 : Value).ownBlock ∧ some k_ ≠ (v400 : Value).ownBlock ∧ some k_ ≠ (.slice Ao56 t420.length co56 : Value).ownBlock ∧ some k_ ≠ (.slice Ao42 t421.length co42 : Value).ownBlock ∧ some k_ ≠ (.slice Ao58 t431.length co58 : Value).ownBlock ∧ some k_ ≠ (.slice Ao51 t432.length co51 : Value).ownBlock)) (by (with_reducible repeat (first | apply Kd.R_alloc | apply Kd.R_drewN | apply Kd.R_drew)); exact HO_8.out) hg hat); have n4_ := Aside0.mk (Kd.R_after (ok := (fun k_ => some k_ ≠ (.slice Ao10 t392.length co10 : Value).ownBlock ∧ some k_ ≠ (v400 : Value).ownBlock ∧ some k_ ≠ (.slice Ao52 t398.length co52 : Value).ownBlock ∧ some k_ ≠ (.slice Ao42 t421.length co42 : Value).ownBlock ∧ some k_ ≠ (.slice Ao58 t431.length co58 : Value).ownBlock ∧ some k_ ≠ (.slice Ao51 t432.length co51 : Value).ownBlock)) (by (with_reducible repeat (first | apply Kd.R_alloc | apply Kd.R_drewN | apply Kd.R_drew)); exact HO424.out) hg hat); have n5_ := Aside0.mk (Kd.R_after (ok := (fun k_ => some k_ ≠ (.slice Ao10 t392.length co10 : Value).ownBlock ∧ some k_ ≠ (v400 : Value).ownBlock ∧ some k_ ≠ (.slice Ao52 t398.length co52 : Value).ownBlock ∧ some k_ ≠ (.slice Ao56 t420.length co56 : Value).ownBlock ∧ some k_ ≠ (.slice Ao58 t431.length co58 : Value).ownBlock ∧ some k_ ≠ (.slice Ao51 t432.length co51 : Value).ownBlock)) (by (with_reducible repeat (first | apply Kd.R_alloc | apply Kd.R_drewN | apply Kd.R_drew)); exact HO426.out) hg hat); have n6_ := Aside0.mk (Kd.R_after (ok := (fun k_ => some k_ ≠ (.slice Ao10 t392.length co10 : Value).ownBlock ∧ some k_ ≠ (v400 : Value).ownBlock ∧ some k_ ≠ (.slice Ao52 t398.length co52 : Value).ownBlock ∧ some k_ ≠ (.slice Ao56 t420.length co56 : Value).ownBlock ∧ some k_ ≠ (.slice Ao42 t421.length co42 : Value).ownBlock ∧ some k_ ≠ (.slice Ao51 t432.length co51 : Value).ownBlock)) (by (with_reducible repeat (first | apply Kd.R_alloc | apply Kd.R_drewN | apply Kd.R_drew)); exact HO435.out) hg hat); have n7_ := Aside0.mk (Kd.R_after (ok := (fun k_ => some k_ ≠ (.slice Ao10 t392.length co10 : Value).ownBlock ∧ some k_ ≠ (v400 : Value).ownBlock ∧ some k_ ≠ (.slice Ao52 t398.length co52 : Value).ownBlock ∧ some k_ ≠ (.slice Ao56 t420.length co56 : Value).ownBlock ∧ some k_ ≠ (.slice Ao42 t421.length co42 : Value).ownBlock ∧ some k_ ≠ (.slice Ao58 t431.length co58 : Value).ownBlock)) (by (with_reducible repeat (first | apply Kd.R_alloc | apply Kd.R_drewN | apply Kd.R_drew)); exact HO437.out) hg hat); have n8_ := Aside0.mk (hb); have n9_ := Aside0.mk ((show Kd.C k53 w57 Ao9 y416.length y416 from by rw [Ny416.out]; exact Kd.C_take (m := ((ji31) : Int).toNat) ((Kd.R_reads' (Kd.R_over' (by (with_reducible repeat (first | apply Kd.R_alloc | apply Kd.R_drewN | apply Kd.R_drew)); exact HO_5.out) (Kd.R_typed (by (with_reducible repeat (first | apply Kd.R_alloc | apply Kd.R_drewN | apply Kd.R_drew)); exact HO444.out)) (by decide) hg)).2.2) KL39.out)); have n10_ := Aside0.mk ((show Kd.C k53 w57 A41 y427.length y427 from by rw [Ny427.out, KA41.out]; exact Kd.C_drop (m := ((ji31) : Int).toNat) (c := co9) ((Kd.R_reads' (Kd.R_over' (by (with_reducible repeat (first | apply Kd.R_alloc | apply Kd.R_drewN | apply Kd.R_drew)); exact HO_5.out) (Kd.R_typed (by (with_reducible repeat (first | apply Kd.R_alloc | apply Kd.R_drewN | apply Kd.R_drew)); exact HO444.out)) (by decide) hg)).2.2) KL41.out ((Kd.R_reads' (Kd.R_over' (by (with_reducible repeat (first | apply Kd.R_alloc | apply Kd.R_drewN | apply Kd.R_drew)); exact HO_5.out) (Kd.R_typed (by (with_reducible repeat (first | apply Kd.R_alloc | apply Kd.R_drewN | apply Kd.R_drew)); exact HO444.out)) (by decide) hg)).2.1))); have n11_ := Aside0.mk (ho); clear HO_5; clear HO_6; clear HO_7; clear HO_8; clear HO424; clear HO426; clear HO435; clear HO437; clear HB; clear HR419; clear HR430; clear HO444; have HO_5 := n0_; have HO_6 := n1_; have HO_7 := n2_; have HO_8 := n3_; have HO424 := n4_; have HO426 := n5_; have HO435 := n6_; have HO437 := n7_; have HB := n8_; have HR419 := n9_; have HR430 := n10_; have HO447 := n11_; clear n0_ n1_ n2_ n3_ n4_ n5_ n6_ n7_ n8_ n9_ n10_ n11_; clear ho hb hg hat; obtain ⟨Ao59, co59, eo59⟩ := Kd.R_slice HO447.out; subst eo59; obtain ⟨Ao60, co60, eo60⟩ := Kd.R_slice HO_7.out; subst eo60) | (go_at_call 9; (with_reducible refine (laws_sameInts.calls kj6 _ _ y445 _ _ t397 t448 _ ?side1 ?side2 ?side3 ?side4 A50.out).mono ?_); (case side1 => repeat (first | exact (Kd.R_reads' HO447.out).2.2 | (with_reducible refine Kd.C_alloc ?_ _) | (with_reducible refine Kd.C_drewN ?_ _) | (with_reducible refine Kd.C_drew ?_))); (case side2 => exact (Kd.R_reads' HO447.out).2.1); (case side3 => repeat (first | exact (Kd.R_reads' HO_7.out).2.2 | (with_reducible refine Kd.C_alloc ?_ _) | (with_reducible refine Kd.C_drewN ?_ _) | (with_reducible refine Kd.C_drew ?_))); (case side4 => exact (Kd.R_reads' HO_7.out).2.1); rintro e w' ⟨rfl, ⟨nd, rfl⟩⟩))
       go_meet
       case rel => exact ⟨_, (!t448), (by first | rfl | (simp; done) | (simp [*]; done)), H', ⟨by have := HJ6.out; first | omega | exact Nat.le_refl _⟩, ⟨by (with_reducible repeat (first | apply Kd.R_alloc | apply Kd.R_drewN | apply Kd.R_drew)); exact HO_5.out⟩, ⟨by (with_reducible repeat (first | apply Kd.R_alloc | apply Kd.R_drewN | apply Kd.R_drew)); exact Kd.R_mono HO_6.out (fun _ hk => ⟨hk.1.1, hk.1.2.1⟩)⟩, ⟨by (with_reducible repeat (first | apply Kd.R_alloc | apply Kd.R_drewN | apply Kd.R_drew)); exact Kd.R_mono HO_7.out (fun _ hk => ⟨hk.1.1, hk.1.2.1⟩)⟩, ⟨by (with_reducible repeat (first | apply Kd.R_alloc | apply Kd.R_drewN | apply Kd.R_drew)); exact Kd.R_mono HO_8.out (fun _ hk => ⟨hk.1.1, hk.1.2.1⟩)⟩, ⟨trivial⟩, ⟨trivial⟩, ⟨by repeat (first | (with_reducible first | exact HB.out | apply below_alloc | apply pw_below_drewN | apply below_drew1) | exact HB.out)⟩⟩
      case rest => as_aux_lemma =>
       clear HC38
       try clear c1
       try clear c2
       try clear p2
       try clear c3
       try clear c3b0
       try clear q3
       try clear c4
       try clear q4
       try clear c6
       try clear p6
       try clear c7
       try clear c8
       try clear c12
       try clear c13
       try clear c13b0
       try clear c13b1
       try clear c13b2
       try clear c15
       try clear c17
       try clear c26
       try clear c28
       try clear c30
       try clear c30b0
       try clear c30b1
       try clear c32
       try clear c32b0
       try clear c32b1
       try clear c33
       try clear c33b0
       try clear c33b1
       try clear c35
       try clear c35b0
       try clear c36
       try clear c36b0
       try clear q39
       try clear c41
       try clear q41
       try clear c44
       try clear c45
       try clear c47
       try clear c48
       try clear c49
       try clear p2
       try clear p6
       try clear q041
       try clear q39
       try clear q41
       obtain ⟨kq, x132_37, rfl, HA, HJ37, HO_5, HO_6, HO_7, HO_8, HR419, HR430, HB⟩ := hcut
       cases kq with
       | zero => exact absurd HA.out (by simp [laws_FnCode.j1])
       | succ kj37 =>
        have H := HA.out
        clear HA
        simp only [laws_FnCode.j1] at H
        by_cases c61 : x132_37 = true
        ·subst c61
         have H1 : (some false) = some true := by rw [if_pos rfl] at H; exact H
         clear H
         have H := H1
         clear H1
         exact absurd H (by simp)
        replace c61 := Bool.eq_false_iff.mpr c61
        subst c61
        have H1 : ((impl_NamesNeeded.f kj37 t391).bind fun bt449 => ((impl_NamesSet.f kj37 t391).bind fun bt453 => (if bt449.2 = true then (laws_FnCode.j2 kj37 l1 t391 t392 t397 t398 ji31 bt449.1 bt453.1 (!bt453.2)) else (laws_FnCode.j2 kj37 l1 t391 t392 t397 t398 ji31 bt449.1 bt453.1 true)))) = some true := by rw [if_neg (show ¬ (false = true) by decide)] at H; exact H
        clear H
        have H := H1
        clear H1
        replace H := Option.bind_eq_some_iff.mp H
        obtain ⟨⟨t449, t450⟩, A620, H⟩ := H
        replace H : ((impl_NamesSet.f kj37 t391).bind fun bt453 => (if t450 = true then (laws_FnCode.j2 kj37 l1 t391 t392 t397 t398 ji31 t449 bt453.1 (!bt453.2)) else (laws_FnCode.j2 kj37 l1 t391 t392 t397 t398 ji31 t449 bt453.1 true))) = some true := H
        have A62 := Aside0.mk A620
        clear A620
        replace H := Option.bind_eq_some_iff.mp H
        obtain ⟨⟨t453, t454⟩, A630, H⟩ := H
        replace H : (if t450 = true then (laws_FnCode.j2 kj37 l1 t391 t392 t397 t398 ji31 t449 t453 (!t454)) else (laws_FnCode.j2 kj37 l1 t391 t392 t397 t398 ji31 t449 t453 true)) = some true := H
        have A63 := Aside0.mk A630
        clear A630
        have HC64 := Aside0.mk H
        clear H
        go_upto_region 16 with (first | ((with_reducible refine gate_callee (f := 13) rfl ?_); refine goesL_ (some 135) rfl rfl Try.func13 (by kernel_rfl) rfl #[.slice Ao9 t391.length co9] rfl (by (try simp only [List.map_toArray, List.map_cons, List.map_nil]); first | done | rfl | (simp only [List.length_drop, List.length_take]; rfl)) ?_; (with_reducible refine (impl_NamesNeeded.calls kj37 _ _ t391 t449 t450 _ ?side1 ?side2 A62.out).mono ?_); (case side1 => repeat (first | exact (Kd.R_reads' HO_5.out).2.2 | (with_reducible refine Kd.C_alloc ?_ _) | (with_reducible refine Kd.C_drewN ?_ _) | (with_reducible refine Kd.C_drew ?_))); (case side2 => exact (Kd.R_reads' HO_5.out).2.1); rintro e w65 ⟨v451, rfl, ho0, hb⟩; refine ⟨_, rfl, ?_⟩; have n0_ := Aside0.mk (Kd.R_below (by (with_reducible repeat (first | apply Kd.R_alloc | apply Kd.R_drewN | apply Kd.R_drew)); exact HO_5.out) hb); have n1_ := Aside0.mk (Kd.R_elder' (by (with_reducible repeat (first | apply Kd.R_alloc | apply Kd.R_drewN | apply Kd.R_drew)); exact HO_6.out) (Kd.R_base ho0) hb); have n2_ := Aside0.mk (Kd.R_elder' (by (with_reducible repeat (first | apply Kd.R_alloc | apply Kd.R_drewN | apply Kd.R_drew)); exact HO_7.out) (Kd.R_base ho0) hb); have n3_ := Aside0.mk (Kd.R_elder' (by (with_reducible repeat (first | apply Kd.R_alloc | apply Kd.R_drewN | apply Kd.R_drew)); exact HO_8.out) (Kd.R_base ho0) hb); have n4_ := Aside0.mk (Kd.R_lower (Kd.R_new' (Kd.R_new' (Kd.R_new' ho0 (Kd.R_lt (by (with_reducible repeat (first | apply Kd.R_alloc | apply Kd.R_drewN | apply Kd.R_drew)); exact HO_6.out))) (Kd.R_lt (by (with_reducible repeat (first | apply Kd.R_alloc | apply Kd.R_drewN | apply Kd.R_drew)); exact HO_7.out))) (Kd.R_lt (by (with_reducible repeat (first | apply Kd.R_alloc | apply Kd.R_drewN | apply Kd.R_drew)); exact HO_8.out))) (below_size (by repeat (first | (with_reducible first | exact HB.out | apply below_alloc | apply pw_below_drewN | apply below_drew1) | exact HB.out)))); have n5_ := Aside0.mk trivial; have n6_ := Aside0.mk trivial; have n7_ := Aside0.mk (below_step (by repeat (first | (with_reducible first | exact HB.out | apply below_alloc | apply pw_below_drewN | apply below_drew1) | exact HB.out)) hb); clear HO_5; clear HO_6; clear HO_7; clear HO_8; clear HR419; clear HR430; clear HB; have HO_5 := n0_; have HO_6 := n1_; have HO_7 := n2_; have HO_8 := n3_; have HO452 := n4_; have HR419 := n5_; have HR430 := n6_; have HB := n7_; clear n0_ n1_ n2_ n3_ n4_ n5_ n6_ n7_; (try clear hb); (try clear hb2); (try clear hk); (try clear hi); (try clear ho0)) | ((with_reducible refine gate_callee (f := 14) rfl ?_); refine goesL_ (some 140) rfl rfl Try.func14 (by kernel_rfl) rfl #[.slice Ao9 t391.length co9] rfl (by (try simp only [List.map_toArray, List.map_cons, List.map_nil]); first | done | rfl | (simp only [List.length_drop, List.length_take]; rfl)) ?_; (with_reducible refine (impl_NamesSet.calls kj37 _ _ t391 t453 t454 _ ?side1 ?side2 A63.out).mono ?_); (case side1 => repeat (first | exact (Kd.R_reads' HO_5.out).2.2 | (with_reducible refine Kd.C_alloc ?_ _) | (with_reducible refine Kd.C_drewN ?_ _) | (with_reducible refine Kd.C_drew ?_))); (case side2 => exact (Kd.R_reads' HO_5.out).2.1); rintro e w66 ⟨v455, rfl, ho0, hb⟩; refine ⟨_, rfl, ?_⟩; have n0_ := Aside0.mk (Kd.R_below (by (with_reducible repeat (first | apply Kd.R_alloc | apply Kd.R_drewN | apply Kd.R_drew)); exact HO_5.out) hb); have n1_ := Aside0.mk (Kd.R_elder' (by (with_reducible repeat (first | apply Kd.R_alloc | apply Kd.R_drewN | apply Kd.R_drew)); exact HO_6.out) (Kd.R_base ho0) hb); have n2_ := Aside0.mk (Kd.R_elder' (by (with_reducible repeat (first | apply Kd.R_alloc | apply Kd.R_drewN | apply Kd.R_drew)); exact HO_7.out) (Kd.R_base ho0) hb); have n3_ := Aside0.mk (Kd.R_elder' (by (with_reducible repeat (first | apply Kd.R_alloc | apply Kd.R_drewN | apply Kd.R_drew)); exact HO_8.out) (Kd.R_base ho0) hb); have n4_ := Aside0.mk (Kd.R_elder' (by (with_reducible repeat (first | apply Kd.R_alloc | apply Kd.R_drewN | apply Kd.R_drew)); exact HO452.out) (Kd.R_base ho0) hb); have n5_ := Aside0.mk (Kd.R_lower (Kd.R_new' (Kd.R_new' (Kd.R_new' (Kd.R_new' ho0 (Kd.R_lt (by (with_reducible repeat (first | apply Kd.R_alloc | apply Kd.R_drewN | apply Kd.R_drew)); exact HO_6.out))) (Kd.R_lt (by (with_reducible repeat (first | apply Kd.R_alloc | apply Kd.R_drewN | apply Kd.R_drew)); exact HO_7.out))) (Kd.R_lt (by (with_reducible repeat (first | apply Kd.R_alloc | apply Kd.R_drewN | apply Kd.R_drew)); exact HO_8.out))) (Kd.R_lt (by (with_reducible repeat (first | apply Kd.R_alloc | apply Kd.R_drewN | apply Kd.R_drew)); exact HO452.out))) (below_size (by repeat (first | (with_reducible first | exact HB.out | apply below_alloc | apply pw_below_drewN | apply below_drew1) | exact HB.out)))); have n6_ := Aside0.mk trivial; have n7_ := Aside0.mk trivial; have n8_ := Aside0.mk (below_step (by repeat (first | (with_reducible first | exact HB.out | apply below_alloc | apply pw_below_drewN | apply below_drew1) | exact HB.out)) hb); clear HO_5; clear HO_6; clear HO_7; clear HO_8; clear HO452; clear HR419; clear HR430; clear HB; have HO_5 := n0_; have HO_6 := n1_; have HO_7 := n2_; have HO_8 := n3_; have HO452 := n4_; have HO456 := n5_; have HR419 := n6_; have HR430 := n7_; have HB := n8_; clear n0_ n1_ n2_ n3_ n4_ n5_ n6_ n7_ n8_; (try clear hb); (try clear hb2); (try clear hk); (try clear hi); (try clear ho0)))
        (try simp only [Act.put, List.setIfInBounds_toArray, List.set_cons_zero, List.set_cons_succ])
        go_cut [148] (fun v148 wc => ∃ (kq : Nat) (x148_63 : Bool), v148 = .bool x148_63 ∧ Aside0 (laws_FnCode.j2 kq l1 t391 t392 t397 t398 ji31 t449 t453 x148_63 = some true) ∧ Aside0 (kq ≤ kj37) ∧ Aside0 (Kd.R k53 53 wc w.heap.size (fun _ => True) (.slice Ao9 t391.length co9) t391) ∧ Aside0 (Kd.R (Kd.int .i64) 3 wc w.heap.size (fun k_ => some k_ ≠ (v400 : Value).ownBlock ∧ some k_ ≠ (v402 : Value).ownBlock ∧ some k_ ≠ (v451 : Value).ownBlock ∧ some k_ ≠ (v455 : Value).ownBlock) (.slice Ao10 t392.length co10) t392) ∧ Aside0 (Kd.R (Kd.int .i64) 3 wc w.heap.size (fun k_ => some k_ ≠ ((.slice Ao10 t392.length co10) : Value).ownBlock ∧ some k_ ≠ (v402 : Value).ownBlock ∧ some k_ ≠ (v451 : Value).ownBlock ∧ some k_ ≠ (v455 : Value).ownBlock) v400 t397) ∧ Aside0 (Kd.R (Kd.int .i64) 3 wc w.heap.size (fun k_ => some k_ ≠ ((.slice Ao10 t392.length co10) : Value).ownBlock ∧ some k_ ≠ (v400 : Value).ownBlock ∧ some k_ ≠ (v451 : Value).ownBlock ∧ some k_ ≠ (v455 : Value).ownBlock) v402 t398) ∧ Aside0 (Kd.R (Kd.int .i64) 3 wc w.heap.size (fun k_ => some k_ ≠ ((.slice Ao10 t392.length co10) : Value).ownBlock ∧ some k_ ≠ (v400 : Value).ownBlock ∧ some k_ ≠ (v402 : Value).ownBlock ∧ some k_ ≠ (v455 : Value).ownBlock) v451 t449) ∧ Aside0 (Kd.R (Kd.int .i64) 3 wc w.heap.size (fun k_ => some k_ ≠ ((.slice Ao10 t392.length co10) : Value).ownBlock ∧ some k_ ≠ (v400 : Value).ownBlock ∧ some k_ ≠ (v402 : Value).ownBlock ∧ some k_ ≠ (v451 : Value).ownBlock) v455 t453) ∧ Aside0 True ∧ Aside0 True ∧ Aside0 (Below w.heap.size w wc))
        case first => as_aux_lemma =>
         have H := HC64.out
         clear HC64
         by_cases c67 : t450 = true
         rotate_left
         ·replace c67 := Bool.eq_false_iff.mpr c67
          subst c67
          have H1 : (laws_FnCode.j2 kj37 l1 t391 t392 t397 t398 ji31 t449 t453 true) = some true := by rw [if_neg (show ¬ (false = true) by decide)] at H; exact H
          clear H
          have H := H1
          clear H1
          exact absurd H (by cases kj37 <;> simp [laws_FnCode.j2])
         subst c67
         have H1 : (laws_FnCode.j2 kj37 l1 t391 t392 t397 t398 ji31 t449 t453 (!t454)) = some true := by rw [if_pos rfl] at H; exact H
         clear H
         have H := H1
         clear H1
         have H' := Aside0.mk H
         clear H
         go_wp2
         go_meet
         case rel => exact ⟨_, (!t454), (by first | rfl | (simp; done) | (simp [*]; done)), H', ⟨by have := HJ6.out; have := HJ37.out; first | omega | exact Nat.le_refl _⟩, ⟨by (with_reducible repeat (first | apply Kd.R_alloc | apply Kd.R_drewN | apply Kd.R_drew)); exact HO_5.out⟩, ⟨by (with_reducible repeat (first | apply Kd.R_alloc | apply Kd.R_drewN | apply Kd.R_drew)); exact Kd.R_mono HO_6.out (fun _ hk => ⟨hk.1.1.1, ⟨hk.1.1.2, ⟨hk.1.2, hk.2⟩⟩⟩)⟩, ⟨by (with_reducible repeat (first | apply Kd.R_alloc | apply Kd.R_drewN | apply Kd.R_drew)); exact Kd.R_mono HO_7.out (fun _ hk => ⟨hk.1.1.1, ⟨hk.1.1.2, ⟨hk.1.2, hk.2⟩⟩⟩)⟩, ⟨by (with_reducible repeat (first | apply Kd.R_alloc | apply Kd.R_drewN | apply Kd.R_drew)); exact Kd.R_mono HO_8.out (fun _ hk => ⟨hk.1.1.1, ⟨hk.1.1.2, ⟨hk.1.2, hk.2⟩⟩⟩)⟩, ⟨by (with_reducible repeat (first | apply Kd.R_alloc | apply Kd.R_drewN | apply Kd.R_drew)); exact Kd.R_mono HO452.out (fun _ hk => ⟨hk.1.1.1.2, ⟨hk.1.1.2, ⟨hk.1.2, hk.2⟩⟩⟩)⟩, ⟨by (with_reducible repeat (first | apply Kd.R_alloc | apply Kd.R_drewN | apply Kd.R_drew)); exact Kd.R_mono HO456.out (fun _ hk => ⟨hk.1.1.1.2, ⟨hk.1.1.2, ⟨hk.1.2, hk.2⟩⟩⟩)⟩, ⟨trivial⟩, ⟨trivial⟩, ⟨by repeat (first | (with_reducible first | exact HB.out | apply below_alloc | apply pw_below_drewN | apply below_drew1) | exact HB.out)⟩⟩
        case rest => as_aux_lemma =>
         clear HC64
         try clear c1
         try clear c2
         try clear p2
         try clear c3
         try clear c3b0
         try clear q3
         try clear c4
         try clear q4
         try clear c6
         try clear p6
         try clear c7
         try clear c8
         try clear c12
         try clear c13
         try clear c13b0
         try clear c13b1
         try clear c13b2
         try clear c14
         try clear c15
         try clear c17
         try clear c26
         try clear c28
         try clear c30
         try clear c30b0
         try clear c30b1
         try clear c32
         try clear c32b0
         try clear c32b1
         try clear c33
         try clear c33b0
         try clear c33b1
         try clear c35
         try clear c35b0
         try clear c36
         try clear c36b0
         try clear q39
         try clear c41
         try clear q41
         try clear c44
         try clear c45
         try clear c47
         try clear c48
         try clear c49
         try clear c61
         try clear p64
         try clear c67
         try clear p2
         try clear p6
         try clear q041
         try clear q3
         try clear q39
         try clear q4
         try clear q41
         obtain ⟨kq, x148_63, rfl, HA, HJ63, HO_5, HO_6, HO_7, HO_8, HO_20, HO_22, HR419, HR430, HB⟩ := hcut
         cases kq with
         | zero => exact absurd HA.out (by simp [laws_FnCode.j2])
         | succ kj63 =>
          have H := HA.out
          clear HA
          simp only [laws_FnCode.j2] at H
          by_cases c68 : x148_63 = true
          ·subst c68
           have H1 : (some false) = some true := by rw [if_pos rfl] at H; exact H
           clear H
           have H := H1
           clear H1
           exact absurd H (by simp)
          replace c68 := Bool.eq_false_iff.mpr c68
          subst c68
          have H1 : ((some (([] : List Int) : List Int)).bind fun y457 => (if y457.length + t392.length < 17592186044416 then ((some (y457 ++ t392 : List Int)).bind fun y460 => (laws_FnCode.l0 kj63 l1 t391 t392 t397 t398 ji31 t449 t453 y460 (y460.length : Int) 0)) else (none))) = some true := by rw [if_neg (show ¬ (false = true) by decide)] at H; exact H
          clear H
          have H := H1
          clear H1
          obtain ⟨y457, hy457⟩ : ∃ y_ : List Int, y_ = (([] : List Int)) := ⟨_, rfl⟩
          replace H : (if y457.length + t392.length < 17592186044416 then ((some (y457 ++ t392 : List Int)).bind fun y460 => (laws_FnCode.l0 kj63 l1 t391 t392 t397 t398 ji31 t449 t453 y460 (y460.length : Int) 0)) else (none)) = some true := by first | (rw [hy457]; with_reducible exact H) | (have H2_ := (Option.bind_some _ _).symm.trans H; rw [hy457]; with_reducible exact H2_) | (have H2_ := (Option.bind_some _ _).symm.trans H; with_reducible exact H2_) | with_reducible exact H | (rw [hy457]; exact H) | exact H
          have Ny457 := Aside0.mk hy457
          clear hy457
          by_cases c69 : y457.length + t392.length < 17592186044416
          rotate_left
          ·rw [if_neg c69] at H
           exact absurd H (by simp)
          rw [if_pos c69] at H
          have LMc69 := Aside0.mk c69
          clear c69
          obtain ⟨y460, hy460⟩ : ∃ y_ : List Int, y_ = (y457 ++ t392) := ⟨_, rfl⟩
          replace H : (laws_FnCode.l0 kj63 l1 t391 t392 t397 t398 ji31 t449 t453 y460 (y460.length : Int) 0) = some true := by first | (rw [hy460]; with_reducible exact H) | (have H2_ := (Option.bind_some _ _).symm.trans H; rw [hy460]; with_reducible exact H2_) | (have H2_ := (Option.bind_some _ _).symm.trans H; with_reducible exact H2_) | with_reducible exact H | (rw [hy460]; exact H) | exact H
          have Ny460 := Aside0.mk hy460
          clear hy460
          have H' := Aside0.mk H
          clear H
          go_wp2_with (first | ((with_reducible refine gate_dst (N := 149) rfl ?_); (try (refine gate_guard (by rfl) ?_; dsimp only)); refine Kd.R_lit (Kd.int .i64) _ 3 ?hg (N := 149) ?hd (xs := ([] : List Int)) (inner := []) (ok := fun _ => True) (okp := fun _ => True) ?hr ?hp (fun _ hk => hk) trivial (Below.refl _ _) (Nat.le_refl _) (by simp) ?_; (case hd => rfl); (case hg => rfl); (case hr => first | (go_simp; done) | (go_simp; rfl)); (case hp => exact (Reps.none _ _)); intro v458 w70 ho71 hb hg_ hnew_; clear hg_ hnew_; (first | rw [← Ny457.out] at ho71 | (simp only [Int.reduceToNat] at ho71; rw [← Ny457.out] at ho71)); have n0_ := Aside0.mk (Kd.R_below (by (with_reducible repeat (first | apply Kd.R_alloc | apply Kd.R_drewN | apply Kd.R_drew)); exact HO_5.out) hb); have n1_ := Aside0.mk (Kd.R_elder' (by (with_reducible repeat (first | apply Kd.R_alloc | apply Kd.R_drewN | apply Kd.R_drew)); exact HO_6.out) (Kd.R_base ho71) hb); have n2_ := Aside0.mk (Kd.R_elder' (by (with_reducible repeat (first | apply Kd.R_alloc | apply Kd.R_drewN | apply Kd.R_drew)); exact HO_7.out) (Kd.R_base ho71) hb); have n3_ := Aside0.mk (Kd.R_elder' (by (with_reducible repeat (first | apply Kd.R_alloc | apply Kd.R_drewN | apply Kd.R_drew)); exact HO_8.out) (Kd.R_base ho71) hb); have n4_ := Aside0.mk (Kd.R_elder' (by (with_reducible repeat (first | apply Kd.R_alloc | apply Kd.R_drewN | apply Kd.R_drew)); exact HO_20.out) (Kd.R_base ho71) hb); have n5_ := Aside0.mk (Kd.R_elder' (by (with_reducible repeat (first | apply Kd.R_alloc | apply Kd.R_drewN | apply Kd.R_drew)); exact HO_22.out) (Kd.R_base ho71) hb); have n6_ := Aside0.mk (Kd.R_lower (Kd.R_new' (Kd.R_new' (Kd.R_new' (Kd.R_new' (Kd.R_new' ho71 (Kd.R_lt (by (with_reducible repeat (first | apply Kd.R_alloc | apply Kd.R_drewN | apply Kd.R_drew)); exact HO_6.out))) (Kd.R_lt (by (with_reducible repeat (first | apply Kd.R_alloc | apply Kd.R_drewN | apply Kd.R_drew)); exact HO_7.out))) (Kd.R_lt (by (with_reducible repeat (first | apply Kd.R_alloc | apply Kd.R_drewN | apply Kd.R_drew)); exact HO_8.out))) (Kd.R_lt (by (with_reducible repeat (first | apply Kd.R_alloc | apply Kd.R_drewN | apply Kd.R_drew)); exact HO_20.out))) (Kd.R_lt (by (with_reducible repeat (first | apply Kd.R_alloc | apply Kd.R_drewN | apply Kd.R_drew)); exact HO_22.out))) (below_size (by repeat (first | (with_reducible first | exact HB.out | apply below_alloc | apply pw_below_drewN | apply below_drew1) | exact HB.out)))); have n7_ := Aside0.mk trivial; have n8_ := Aside0.mk trivial; have n9_ := Aside0.mk (below_step (by repeat (first | (with_reducible first | exact HB.out | apply below_alloc | apply pw_below_drewN | apply below_drew1) | exact HB.out)) hb); clear HO_5; clear HO_6; clear HO_7; clear HO_8; clear HO_20; clear HO_22; clear HR419; clear HR430; clear HB; have HO_5 := n0_; have HO_6 := n1_; have HO_7 := n2_; have HO_8 := n3_; have HO_20 := n4_; have HO_22 := n5_; have HO459 := n6_; have HR419 := n7_; have HR430 := n8_; have HB := n9_; clear n0_ n1_ n2_ n3_ n4_ n5_ n6_ n7_ n8_ n9_; clear hb ho71) | ((with_reducible refine gate_builtin (b := .append) (xs := #[.tmp 149, .tmp 150]) rfl ?_); (try (refine gate_guard (by rfl) ?_; dsimp only)); at_builtin; refine Kd.R_append_rows (Kd.int .i64) (w0 := w) w.heap.size rfl (.tmp 149) (.tmp 150) 24 3 (.int .i64 0) 8 rfl Try.underlying24 info3 rfl (by decide) (by omega) v458 y457 t392 _ _ _ (fun k_ => some k_ ≠ (.slice Ao10 t392.length co10 : Value).ownBlock ∧ some k_ ≠ (v400 : Value).ownBlock ∧ some k_ ≠ (v402 : Value).ownBlock ∧ some k_ ≠ (v451 : Value).ownBlock ∧ some k_ ≠ (v455 : Value).ownBlock) (fun _ => False) rfl rfl ?aO ?aR (fun _ _ h => h) (fun _ h => h.elim) ?aF ?aB ?aS ?aL ?_; (case aR => repeat (first | exact (Kd.R_reads' HO_6.out).2.2 | (with_reducible refine Kd.C_alloc ?_ _) | (with_reducible refine Kd.C_drewN ?_ _) | (with_reducible refine Kd.C_drew ?_))); (case aB => exact (by repeat (first | (with_reducible first | exact HB.out | apply below_alloc | apply pw_below_drewN | apply below_drew1) | exact HB.out))); (case aF => exact (fun k_ hk => ⟨Kd.fresh' (Kd.R_lt (by (with_reducible repeat (first | apply Kd.R_alloc | apply Kd.R_drewN | apply Kd.R_drew)); exact HO_6.out)) k_ hk, Kd.fresh' (Kd.R_lt (by (with_reducible repeat (first | apply Kd.R_alloc | apply Kd.R_drewN | apply Kd.R_drew)); exact HO_7.out)) k_ hk, Kd.fresh' (Kd.R_lt (by (with_reducible repeat (first | apply Kd.R_alloc | apply Kd.R_drewN | apply Kd.R_drew)); exact HO_8.out)) k_ hk, Kd.fresh' (Kd.R_lt (by (with_reducible repeat (first | apply Kd.R_alloc | apply Kd.R_drewN | apply Kd.R_drew)); exact HO_20.out)) k_ hk, Kd.fresh' (Kd.R_lt (by (with_reducible repeat (first | apply Kd.R_alloc | apply Kd.R_drewN | apply Kd.R_drew)); exact HO_22.out)) k_ hk⟩)); (case aO => exact (by (with_reducible repeat (first | apply Kd.R_alloc | apply Kd.R_drewN | apply Kd.R_drew)); exact Kd.R_mono HO459.out (fun _ hk => ⟨hk.1.1.1.1.2, ⟨hk.1.1.1.2, ⟨hk.1.1.2, ⟨hk.1.2, hk.2⟩⟩⟩⟩))); (case aS => exact (below_size (by repeat (first | (with_reducible first | exact HB.out | apply below_alloc | apply pw_below_drewN | apply below_drew1) | exact HB.out)))); (case aL => have := LMc69.out; omega); intro v461 w72 ho hb hg hat; rw [← Ny460.out] at ho; have n0_ := Aside0.mk (Kd.R_over' (by (with_reducible repeat (first | apply Kd.R_alloc | apply Kd.R_drewN | apply Kd.R_drew)); exact HO_5.out) (Kd.R_typed (by (with_reducible repeat (first | apply Kd.R_alloc | apply Kd.R_drewN | apply Kd.R_drew)); exact HO459.out)) (by decide) hg); have n1_ := Aside0.mk (Kd.R_after (ok := (fun k_ => some k_ ≠ (v400 : Value).ownBlock ∧ some k_ ≠ (v402 : Value).ownBlock ∧ some k_ ≠ (v451 : Value).ownBlock ∧ some k_ ≠ (v455 : Value).ownBlock)) (by (with_reducible repeat (first | apply Kd.R_alloc | apply Kd.R_drewN | apply Kd.R_drew)); exact HO_6.out) hg hat); have n2_ := Aside0.mk (Kd.R_after (ok := (fun k_ => some k_ ≠ (.slice Ao10 t392.length co10 : Value).ownBlock ∧ some k_ ≠ (v402 : Value).ownBlock ∧ some k_ ≠ (v451 : Value).ownBlock ∧ some k_ ≠ (v455 : Value).ownBlock)) (by (with_reducible repeat (first | apply Kd.R_alloc | apply Kd.R_drewN | apply Kd.R_drew)); exact HO_7.out) hg hat); have n3_ := Aside0.mk (Kd.R_after (ok := (fun k_ => some k_ ≠ (.slice Ao10 t392.length co10 : Value).ownBlock ∧ some k_ ≠ (v400 : Value).ownBlock ∧ some k_ ≠ (v451 : Value).ownBlock ∧ some k_ ≠ (v455 : Value).ownBlock)) (by (with_reducible repeat (first | apply Kd.R_alloc | apply Kd.R_drewN | apply Kd.R_drew)); exact HO_8.out) hg hat); have n4_ := Aside0.mk (Kd.R_after (ok := (fun k_ => some k_ ≠ (.slice Ao10 t392.length co10 : Value).ownBlock ∧ some k_ ≠ (v400 : Value).ownBlock ∧ some k_ ≠ (v402 : Value).ownBlock ∧ some k_ ≠ (v455 : Value).ownBlock)) (by (with_reducible repeat (first | apply Kd.R_alloc | apply Kd.R_drewN | apply Kd.R_drew)); exact HO_20.out) hg hat); have n5_ := Aside0.mk (Kd.R_after (ok := (fun k_ => some k_ ≠ (.slice Ao10 t392.length co10 : Value).ownBlock ∧ some k_ ≠ (v400 : Value).ownBlock ∧ some k_ ≠ (v402 : Value).ownBlock ∧ some k_ ≠ (v451 : Value).ownBlock)) (by (with_reducible repeat (first | apply Kd.R_alloc | apply Kd.R_drewN | apply Kd.R_drew)); exact HO_22.out) hg hat); have n6_ := Aside0.mk (hb); have n7_ := Aside0.mk ((show Kd.C k53 w72 Ao9 y416.length y416 from by rw [Ny416.out]; exact Kd.C_take (m := ((ji31) : Int).toNat) ((Kd.R_reads' (Kd.R_over' (by (with_reducible repeat (first | apply Kd.R_alloc | apply Kd.R_drewN | apply Kd.R_drew)); exact HO_5.out) (Kd.R_typed (by (with_reducible repeat (first | apply Kd.R_alloc | apply Kd.R_drewN | apply Kd.R_drew)); exact HO459.out)) (by decide) hg)).2.2) KL39.out)); have n8_ := Aside0.mk ((show Kd.C k53 w72 A41 y427.length y427 from by rw [Ny427.out, KA41.out]; exact Kd.C_drop (m := ((ji31) : Int).toNat) (c := co9) ((Kd.R_reads' (Kd.R_over' (by (with_reducible repeat (first | apply Kd.R_alloc | apply Kd.R_drewN | apply Kd.R_drew)); exact HO_5.out) (Kd.R_typed (by (with_reducible repeat (first | apply Kd.R_alloc | apply Kd.R_drewN | apply Kd.R_drew)); exact HO459.out)) (by decide) hg)).2.2) KL41.out ((Kd.R_reads' (Kd.R_over' (by (with_reducible repeat (first | apply Kd.R_alloc | apply Kd.R_drewN | apply Kd.R_drew)); exact HO_5.out) (Kd.R_typed (by (with_reducible repeat (first | apply Kd.R_alloc | apply Kd.R_drewN | apply Kd.R_drew)); exact HO459.out)) (by decide) hg)).2.1))); have n9_ := Aside0.mk (ho); clear HO_5; clear HO_6; clear HO_7; clear HO_8; clear HO_20; clear HO_22; clear HB; clear HR419; clear HR430; clear HO459; have HO_5 := n0_; have HO_6 := n1_; have HO_7 := n2_; have HO_8 := n3_; have HO_20 := n4_; have HO_22 := n5_; have HB := n6_; have HR419 := n7_; have HR430 := n8_; have HO462 := n9_; clear n0_ n1_ n2_ n3_ n4_ n5_ n6_ n7_ n8_ n9_; clear ho hb hg hat; obtain ⟨Ao73, co73, eo73⟩ := Kd.R_slice HO462.out; subst eo73))
          go_loopg [154] kj63 (fun kq v154 w' => ∃ (x24_4 : List Int) (x154_4 : Int), v154 = .int .i64 x154_4 ∧ Aside0 (laws_FnCode.l0 kq l1 t391 t392 t397 t398 ji31 t449 t453 x24_4 (y460.length : Int) x154_4 = some true) ∧ Aside0 (kq ≤ kj63) ∧ Aside0 (Kd.R k53 53 w' w.heap.size (fun _ => True) (.slice Ao9 t391.length co9) t391) ∧ Aside0 (Kd.R (Kd.int .i64) 3 w' w.heap.size (fun k_ => some k_ ≠ (v400 : Value).ownBlock ∧ some k_ ≠ (v402 : Value).ownBlock ∧ some k_ ≠ (v451 : Value).ownBlock ∧ some k_ ≠ (v455 : Value).ownBlock ∧ some k_ ≠ ((.slice Ao73 y460.length co73) : Value).ownBlock) (.slice Ao10 t392.length co10) t392) ∧ Aside0 (Kd.R (Kd.int .i64) 3 w' w.heap.size (fun k_ => some k_ ≠ ((.slice Ao10 t392.length co10) : Value).ownBlock ∧ some k_ ≠ (v402 : Value).ownBlock ∧ some k_ ≠ (v451 : Value).ownBlock ∧ some k_ ≠ (v455 : Value).ownBlock ∧ some k_ ≠ ((.slice Ao73 y460.length co73) : Value).ownBlock) v400 t397) ∧ Aside0 (Kd.R (Kd.int .i64) 3 w' w.heap.size (fun k_ => some k_ ≠ ((.slice Ao10 t392.length co10) : Value).ownBlock ∧ some k_ ≠ (v400 : Value).ownBlock ∧ some k_ ≠ (v451 : Value).ownBlock ∧ some k_ ≠ (v455 : Value).ownBlock ∧ some k_ ≠ ((.slice Ao73 y460.length co73) : Value).ownBlock) v402 t398) ∧ Aside0 (Kd.R (Kd.int .i64) 3 w' w.heap.size (fun k_ => some k_ ≠ ((.slice Ao10 t392.length co10) : Value).ownBlock ∧ some k_ ≠ (v400 : Value).ownBlock ∧ some k_ ≠ (v402 : Value).ownBlock ∧ some k_ ≠ (v455 : Value).ownBlock ∧ some k_ ≠ ((.slice Ao73 y460.length co73) : Value).ownBlock) v451 t449) ∧ Aside0 (Kd.R (Kd.int .i64) 3 w' w.heap.size (fun k_ => some k_ ≠ ((.slice Ao10 t392.length co10) : Value).ownBlock ∧ some k_ ≠ (v400 : Value).ownBlock ∧ some k_ ≠ (v402 : Value).ownBlock ∧ some k_ ≠ (v451 : Value).ownBlock ∧ some k_ ≠ ((.slice Ao73 y460.length co73) : Value).ownBlock) v455 t453) ∧ Aside0 (Kd.R (Kd.int .i64) 3 w' w.heap.size (fun k_ => some k_ ≠ ((.slice Ao10 t392.length co10) : Value).ownBlock ∧ some k_ ≠ (v400 : Value).ownBlock ∧ some k_ ≠ (v402 : Value).ownBlock ∧ some k_ ≠ (v451 : Value).ownBlock ∧ some k_ ≠ (v455 : Value).ownBlock) (.slice Ao73 y460.length co73) x24_4) ∧ Aside0 True ∧ Aside0 True ∧ Aside0 (Below w.heap.size w w'))
          case atStart => exact ⟨(y460), (0), (by first | rfl | (simp; done) | (simp [*]; done)), H', ⟨Nat.le_refl _⟩, ⟨by (with_reducible repeat (first | apply Kd.R_alloc | apply Kd.R_drewN | apply Kd.R_drew)); exact HO_5.out⟩, ⟨by (with_reducible repeat (first | apply Kd.R_alloc | apply Kd.R_drewN | apply Kd.R_drew)); exact Kd.R_mono HO_6.out (fun _ hk => ⟨hk.1.1, ⟨hk.1.2.1, ⟨hk.1.2.2.1, ⟨hk.1.2.2.2, hk.2⟩⟩⟩⟩)⟩, ⟨by (with_reducible repeat (first | apply Kd.R_alloc | apply Kd.R_drewN | apply Kd.R_drew)); exact Kd.R_mono HO_7.out (fun _ hk => ⟨hk.1.1, ⟨hk.1.2.1, ⟨hk.1.2.2.1, ⟨hk.1.2.2.2, hk.2⟩⟩⟩⟩)⟩, ⟨by (with_reducible repeat (first | apply Kd.R_alloc | apply Kd.R_drewN | apply Kd.R_drew)); exact Kd.R_mono HO_8.out (fun _ hk => ⟨hk.1.1, ⟨hk.1.2.1, ⟨hk.1.2.2.1, ⟨hk.1.2.2.2, hk.2⟩⟩⟩⟩)⟩, ⟨by (with_reducible repeat (first | apply Kd.R_alloc | apply Kd.R_drewN | apply Kd.R_drew)); exact Kd.R_mono HO_20.out (fun _ hk => ⟨hk.1.1, ⟨hk.1.2.1, ⟨hk.1.2.2.1, ⟨hk.1.2.2.2, hk.2⟩⟩⟩⟩)⟩, ⟨by (with_reducible repeat (first | apply Kd.R_alloc | apply Kd.R_drewN | apply Kd.R_drew)); exact Kd.R_mono HO_22.out (fun _ hk => ⟨hk.1.1, ⟨hk.1.2.1, ⟨hk.1.2.2.1, ⟨hk.1.2.2.2, hk.2⟩⟩⟩⟩)⟩, ⟨by (with_reducible repeat (first | apply Kd.R_alloc | apply Kd.R_drewN | apply Kd.R_drew)); exact HO462.out⟩, ⟨trivial⟩, ⟨trivial⟩, ⟨by repeat (first | (with_reducible first | exact HB.out | apply below_alloc | apply pw_below_drewN | apply below_drew1) | exact HB.out)⟩⟩
          case round =>
           clear H'
           try clear c1
           try clear c2
           try clear p2
           try clear c3
           try clear c3b0
           try clear q3
           try clear c4
           try clear q4
           try clear c6
           try clear p6
           try clear c7
           try clear c8
           try clear c12
           try clear c13
           try clear c13b0
           try clear c13b1
           try clear c13b2
           try clear c14
           try clear c15
           try clear c17
           try clear c26
           try clear c28
           try clear c30
           try clear c30b0
           try clear c30b1
           try clear c32
           try clear c32b0
           try clear c32b1
           try clear c33
           try clear c33b0
           try clear c33b1
           try clear c35
           try clear c35b0
           try clear c36
           try clear c36b0
           try clear q39
           try clear c41
           try clear q41
           try clear c44
           try clear c45
           try clear c47
           try clear c48
           try clear c49
           try clear c61
           try clear p64
           try clear c67
           try clear c68
           try clear c69
           try clear p2
           try clear p6
           try clear p64
           try clear q041
           try clear q3
           try clear q39
           try clear q4
           try clear q41
           obtain ⟨x24_4, x154_4, rfl, HA, HK4, HO_5, HO_6, HO_7, HO_8, HO_20, HO_22, HO_24, HR419, HR430, HB⟩ := hrel
           have hl24_4 := (Kd.R_reads' HO_24.out).1
           rw [hl24_4] at HO_24
           (try simp only [hl24_4])
           (try simp only [hl24_4] at HO_5)
           (try simp only [hl24_4] at HO_6)
           (try simp only [hl24_4] at HO_7)
           (try simp only [hl24_4] at HO_8)
           (try simp only [hl24_4] at HO_20)
           (try simp only [hl24_4] at HO_22)
           cases gk with
           | zero => exact absurd HA.out (by simp [laws_FnCode.l0])
           | succ k4 =>
            have H := HA.out
            clear HA
            simp only [laws_FnCode.l0] at H
            by_cases c74 : x154_4 < (y460.length : Int)
            ·rw [if_pos c74] at H
             have c74b0 : decide (x154_4 < (y460.length : Int)) = true := decide_eq_true c74
             have c74b9 : decide (x154_4 < (x24_4.length : Int)) = true := by rw [← hl24_4]; exact c74b0
             clear c74
             replace H := Option.bind_eq_some_iff.mp H
             obtain ⟨t463, A750, H⟩ := H
             replace H : (if t463 = true then (laws_FnCode.l0 k4 l1 t391 t392 t397 t398 ji31 t449 t453 x24_4 (y460.length : Int) (wrap64 (x154_4 + 1))) else (if 0 ≤ x154_4 then (if x154_4 < (x24_4.length : Int) then (laws_FnCode.l0 k4 l1 t391 t392 t397 t398 ji31 t449 t453 (x24_4.set (x154_4 : Int).toNat (Go.bits .and .i64 (wrap64 ((wrap64 ((rd x24_4 x154_4) + 1)) + ji31)) 65535)) (y460.length : Int) (wrap64 (x154_4 + 1))) else (none)) else (none))) = some true := H
             have A75 := Aside0.mk A750
             clear A750
             by_cases c76 : t463 = true
             ·subst c76
              have H1 : (laws_FnCode.l0 k4 l1 t391 t392 t397 t398 ji31 t449 t453 x24_4 (y460.length : Int) (wrap64 (x154_4 + 1))) = some true := by rw [if_pos rfl] at H; exact H
              clear H
              have H := H1
              clear H1
              have H' := Aside0.mk H
              clear H
              obtain ⟨Ao77, co77, eo77⟩ := Kd.R_slice HO_20.out
              subst eo77
              go_wp2_with (first | ((with_reducible refine gate_callee (f := 15) rfl ?_); refine goesL_ (some 159) rfl rfl Try.func15 (by kernel_rfl) rfl #[.slice Ao77 t449.length co77, .int .i64 x154_4] rfl (by (try simp only [List.map_toArray, List.map_cons, List.map_nil]); first | done | rfl | (simp only [List.length_drop, List.length_take]; rfl)) ?_; (with_reducible refine (laws_has.calls k4 _ _ t449 x154_4 true _ ?side1 ?side2 A75.out).mono ?_); (case side1 => repeat (first | exact (Kd.R_reads' HO_20.out).2.2 | (with_reducible refine Kd.C_alloc ?_ _) | (with_reducible refine Kd.C_drewN ?_ _) | (with_reducible refine Kd.C_drew ?_))); (case side2 => exact (Kd.R_reads' HO_20.out).2.1); rintro e w' ⟨rfl, ⟨nd, rfl⟩⟩; refine ⟨_, rfl, ?_⟩))
              (try simp only [← hl24_4])
              go_roundg k4
              case measure => have := HJ6.out; have := HJ37.out; have := HJ63.out; have := HK4.out; omega
              case rel => exact ⟨(x24_4), (wrap64 (x154_4 + 1)), (by first | rfl | (simp; done) | (simp [*]; done)), H', ⟨by have := HJ6.out; have := HJ37.out; have := HJ63.out; have := HK4.out; omega⟩, ⟨by (try simp only [hl24_4]); (with_reducible repeat (first | apply Kd.R_alloc | apply Kd.R_drewN | apply Kd.R_drew)); exact HO_5.out⟩, ⟨by (try simp only [hl24_4]); (with_reducible repeat (first | apply Kd.R_alloc | apply Kd.R_drewN | apply Kd.R_drew)); exact HO_6.out⟩, ⟨by (try simp only [hl24_4]); (with_reducible repeat (first | apply Kd.R_alloc | apply Kd.R_drewN | apply Kd.R_drew)); exact HO_7.out⟩, ⟨by (try simp only [hl24_4]); (with_reducible repeat (first | apply Kd.R_alloc | apply Kd.R_drewN | apply Kd.R_drew)); exact HO_8.out⟩, ⟨by (try simp only [hl24_4]); (with_reducible repeat (first | apply Kd.R_alloc | apply Kd.R_drewN | apply Kd.R_drew)); exact HO_20.out⟩, ⟨by (try simp only [hl24_4]); (with_reducible repeat (first | apply Kd.R_alloc | apply Kd.R_drewN | apply Kd.R_drew)); exact HO_22.out⟩, ⟨by (try simp only [hl24_4]); (with_reducible repeat (first | apply Kd.R_alloc | apply Kd.R_drewN | apply Kd.R_drew)); exact HO_24.out⟩, ⟨trivial⟩, ⟨trivial⟩, ⟨by repeat (first | (with_reducible first | exact HB.out | apply below_alloc | apply pw_below_drewN | apply below_drew1) | exact HB.out)⟩⟩
             ·replace c76 := Bool.eq_false_iff.mpr c76
              subst c76
              have H1 : (if 0 ≤ x154_4 then (if x154_4 < (x24_4.length : Int) then (laws_FnCode.l0 k4 l1 t391 t392 t397 t398 ji31 t449 t453 (x24_4.set (x154_4 : Int).toNat (Go.bits .and .i64 (wrap64 ((wrap64 ((rd x24_4 x154_4) + 1)) + ji31)) 65535)) (y460.length : Int) (wrap64 (x154_4 + 1))) else (none)) else (none)) = some true := by rw [if_neg (show ¬ (false = true) by decide)] at H; exact H
              clear H
              have H := H1
              clear H1
              by_cases c78 : 0 ≤ x154_4
              rotate_left
              ·rw [if_neg c78] at H
               exact absurd H (by simp)
              rw [if_pos c78] at H
              have c78b0 : decide (0 ≤ x154_4) = true := decide_eq_true c78
              clear c78
              by_cases c79 : x154_4 < (x24_4.length : Int)
              rotate_left
              ·rw [if_neg c79] at H
               exact absurd H (by simp)
              rw [if_pos c79] at H
              have c79b0 : decide (x154_4 < (x24_4.length : Int)) = true := decide_eq_true c79
              clear c79
              obtain ⟨y465, hy465⟩ : ∃ y_ : List Int, y_ = (x24_4.set (x154_4 : Int).toNat (Go.bits .and .i64 (wrap64 ((wrap64 ((rd x24_4 x154_4) + 1)) + ji31)) 65535)) := ⟨_, rfl⟩
              replace H : (laws_FnCode.l0 k4 l1 t391 t392 t397 t398 ji31 t449 t453 y465 (y460.length : Int) (wrap64 (x154_4 + 1))) = some true := by first | (rw [hy465]; with_reducible exact H) | (have H2_ := (Option.bind_some _ _).symm.trans H; rw [hy465]; with_reducible exact H2_) | (have H2_ := (Option.bind_some _ _).symm.trans H; with_reducible exact H2_) | with_reducible exact H | (rw [hy465]; exact H) | exact H
              have Ny465 := Aside0.mk hy465
              clear hy465
              have H' := Aside0.mk H
              clear H
              obtain ⟨Ao81, co81, eo81⟩ := Kd.R_slice HO_20.out
              subst eo81
              go_wp2_with (first | ((with_reducible refine gate_callee (f := 15) rfl ?_); refine goesL_ (some 159) rfl rfl Try.func15 (by kernel_rfl) rfl #[.slice Ao81 t449.length co81, .int .i64 x154_4] rfl (by (try simp only [List.map_toArray, List.map_cons, List.map_nil]); first | done | rfl | (simp only [List.length_drop, List.length_take]; rfl)) ?_; (with_reducible refine (laws_has.calls k4 _ _ t449 x154_4 false _ ?side1 ?side2 A75.out).mono ?_); (case side1 => repeat (first | exact (Kd.R_reads' HO_20.out).2.2 | (with_reducible refine Kd.C_alloc ?_ _) | (with_reducible refine Kd.C_drewN ?_ _) | (with_reducible refine Kd.C_drew ?_))); (case side2 => exact (Kd.R_reads' HO_20.out).2.1); rintro e w' ⟨rfl, ⟨nd, rfl⟩⟩; refine ⟨_, rfl, ?_⟩; (try (rw [drewN_self wr]; generalize hq_ : World.drewN wr _ = wr; have n0_ : Aside0 (Kd.R (Kd.int .i64) 3 wr w.heap.size (fun k_ => some k_ ≠ (v455 : Value).ownBlock ∧ some k_ ≠ (.slice Ao73 x24_4.length co73 : Value).ownBlock ∧ some k_ ≠ (.slice Ao10 t392.length co10 : Value).ownBlock ∧ some k_ ≠ (v400 : Value).ownBlock ∧ some k_ ≠ (v402 : Value).ownBlock) (.slice Ao81 t449.length co81) t449) := ⟨by rw [← hq_]; exact (by (with_reducible repeat (first | apply Kd.R_alloc | apply Kd.R_drewN | apply Kd.R_drew)); exact Kd.R_mono HO_20.out (fun _ hk => ⟨hk.2.2.2.1, ⟨hk.2.2.2.2, ⟨hk.1, ⟨hk.2.1, hk.2.2.1⟩⟩⟩⟩))⟩; have n1_ : Aside0 (Kd.R (Kd.int .i64) 3 wr w.heap.size (fun k_ => some k_ ≠ (.slice Ao81 t449.length co81 : Value).ownBlock ∧ some k_ ≠ (.slice Ao73 x24_4.length co73 : Value).ownBlock ∧ some k_ ≠ (.slice Ao10 t392.length co10 : Value).ownBlock ∧ some k_ ≠ (v400 : Value).ownBlock ∧ some k_ ≠ (v402 : Value).ownBlock) v455 t453) := ⟨by rw [← hq_]; exact (by (with_reducible repeat (first | apply Kd.R_alloc | apply Kd.R_drewN | apply Kd.R_drew)); exact Kd.R_mono HO_22.out (fun _ hk => ⟨hk.2.2.2.1, ⟨hk.2.2.2.2, ⟨hk.1, ⟨hk.2.1, hk.2.2.1⟩⟩⟩⟩))⟩; have n2_ : Aside0 (Kd.R (Kd.int .i64) 3 wr w.heap.size (fun k_ => some k_ ≠ (.slice Ao81 t449.length co81 : Value).ownBlock ∧ some k_ ≠ (v455 : Value).ownBlock ∧ some k_ ≠ (.slice Ao10 t392.length co10 : Value).ownBlock ∧ some k_ ≠ (v400 : Value).ownBlock ∧ some k_ ≠ (v402 : Value).ownBlock) (.slice Ao73 x24_4.length co73) x24_4) := ⟨by rw [← hq_]; exact (by (with_reducible repeat (first | apply Kd.R_alloc | apply Kd.R_drewN | apply Kd.R_drew)); exact Kd.R_mono HO_24.out (fun _ hk => ⟨hk.2.2.2.1, ⟨hk.2.2.2.2, ⟨hk.1, ⟨hk.2.1, hk.2.2.1⟩⟩⟩⟩))⟩; have n3_ : Aside0 (Kd.R k53 53 wr w.heap.size (fun _ => True) (.slice Ao9 t391.length co9) t391) := ⟨by rw [← hq_]; exact (by (with_reducible repeat (first | apply Kd.R_alloc | apply Kd.R_drewN | apply Kd.R_drew)); exact HO_5.out)⟩; have n4_ : Aside0 (Kd.R (Kd.int .i64) 3 wr w.heap.size (fun k_ => some k_ ≠ (.slice Ao81 t449.length co81 : Value).ownBlock ∧ some k_ ≠ (v455 : Value).ownBlock ∧ some k_ ≠ (.slice Ao73 x24_4.length co73 : Value).ownBlock ∧ some k_ ≠ (v400 : Value).ownBlock ∧ some k_ ≠ (v402 : Value).ownBlock) (.slice Ao10 t392.length co10) t392) := ⟨by rw [← hq_]; exact (by (with_reducible repeat (first | apply Kd.R_alloc | apply Kd.R_drewN | apply Kd.R_drew)); exact Kd.R_mono HO_6.out (fun _ hk => ⟨hk.2.2.1, ⟨hk.2.2.2.1, ⟨hk.2.2.2.2, ⟨hk.1, hk.2.1⟩⟩⟩⟩))⟩; have n5_ : Aside0 (Kd.R (Kd.int .i64) 3 wr w.heap.size (fun k_ => some k_ ≠ (.slice Ao81 t449.length co81 : Value).ownBlock ∧ some k_ ≠ (v455 : Value).ownBlock ∧ some k_ ≠ (.slice Ao73 x24_4.length co73 : Value).ownBlock ∧ some k_ ≠ (.slice Ao10 t392.length co10 : Value).ownBlock ∧ some k_ ≠ (v402 : Value).ownBlock) v400 t397) := ⟨by rw [← hq_]; exact (by (with_reducible repeat (first | apply Kd.R_alloc | apply Kd.R_drewN | apply Kd.R_drew)); exact Kd.R_mono HO_7.out (fun _ hk => ⟨hk.2.2.1, ⟨hk.2.2.2.1, ⟨hk.2.2.2.2, ⟨hk.1, hk.2.1⟩⟩⟩⟩))⟩; have n6_ : Aside0 (Kd.R (Kd.int .i64) 3 wr w.heap.size (fun k_ => some k_ ≠ (.slice Ao81 t449.length co81 : Value).ownBlock ∧ some k_ ≠ (v455 : Value).ownBlock ∧ some k_ ≠ (.slice Ao73 x24_4.length co73 : Value).ownBlock ∧ some k_ ≠ (.slice Ao10 t392.length co10 : Value).ownBlock ∧ some k_ ≠ (v400 : Value).ownBlock) v402 t398) := ⟨by rw [← hq_]; exact (by (with_reducible repeat (first | apply Kd.R_alloc | apply Kd.R_drewN | apply Kd.R_drew)); exact Kd.R_mono HO_8.out (fun _ hk => ⟨hk.2.2.1, ⟨hk.2.2.2.1, ⟨hk.2.2.2.2, ⟨hk.1, hk.2.1⟩⟩⟩⟩))⟩; have n7_ : Aside0 (Below w.heap.size w wr) := ⟨by rw [← hq_]; exact (by repeat (first | (with_reducible first | exact HB.out | apply below_alloc | apply pw_below_drewN | apply below_drew1) | exact HB.out))⟩; clear HO_20 HO_22 HO_24 HO_5 HO_6 HO_7 HO_8 HB hq_; have HO_20 := n0_; have HO_22 := n1_; have HO_24 := n2_; have HO_5 := n3_; have HO_6 := n4_; have HO_7 := n5_; have HO_8 := n6_; have HB := n7_; clear n0_ n1_ n2_ n3_ n4_ n5_ n6_ n7_)); have p464 : 0 ≤ (x154_4 : Int) := of_decide_eq_true (by first | (with_reducible assumption) | assumption); have q464 : x154_4 < (x24_4.length : Int) := of_decide_eq_true (by first | (with_reducible assumption) | assumption); obtain ⟨ad464, e464, hx464_0⟩ := Kd.at_int (Kd.R_reads' HO_24.out).2.2 x154_4 p464 q464; cases e464; replace p464 := eq_true p464; replace q464 := eq_true q464; have p80 : 0 ≤ (x154_4 : Int) := of_decide_eq_true (by first | (with_reducible assumption) | assumption); have q80 : (x154_4 : Int) < ((x24_4.length : Int) : Int) := of_decide_eq_true (by first | (with_reducible assumption) | assumption); obtain ⟨go80, co80, eo80, gb80, gl80, cl80, HG80⟩ := Kd.R_form HO_24.out (by omega); (first | cases eo80 | (injection eo80 with ea_ en_ ec_; (first | subst ea_ | (injection ea_ with ea_; subst ea_)); subst ec_; clear en_)); have GB80 := Aside0.mk gb80; have GG80 := Aside0.mk HG80; clear gb80 gl80 HG80; (first | simp only [add_plain] at hx464_0 | skip); obtain ⟨hx80_0, hf80_0⟩ := Kd.R_celln 0 HO_24.out (x154_4 : Int) p80 q80; replace p80 := eq_true p80; replace q80 := eq_true q80; obtain ⟨hy82_, hz82_⟩ := Kd.R_celln 0 HO_24.out (x154_4 : Int) (of_decide_eq_true (by first | (with_reducible assumption) | assumption)) (of_decide_eq_true (by first | (with_reducible assumption) | assumption)); have HP82 := Kd.R_putg HO_24.out (x154_4 : Int) (Go.bits .and .i64 (wrap64 ((wrap64 ((rd x24_4 x154_4) + 1)) + ji31)) 65535)) | ((with_reducible refine gate_store (t := 3) (p := 171) rfl ?_); refine store_event (t := 3) (p := 171) (v := ?vo_w83) (w1 := (wr.setCell ⟨go80, (x154_4 : Int).toNat, none⟩ (.int .i64 (Go.bits .and .i64 (wrap64 ((wrap64 ((rd x24_4 x154_4) + 1)) + ji31)) 65535)))) ?hg ?ho ?hn ?hr ?_; (case ho => rfl); (case hg => rfl); (case hn => rfl); (case hr => first | (go_simp; done) | (go_simp; rfl)); intro w83 hw; have hg : wr.grownBy w83 (some go80) := (by rw [hw]; exact HP82.2); have hp_ : Kd.R (Kd.int .i64) 3 w83 w.heap.size (fun k_ => some k_ ≠ (.slice Ao10 t392.length co10 : Value).ownBlock ∧ some k_ ≠ (v400 : Value).ownBlock ∧ some k_ ≠ (v402 : Value).ownBlock ∧ some k_ ≠ (.slice Ao81 t449.length co81 : Value).ownBlock ∧ some k_ ≠ (v455 : Value).ownBlock) (.slice (some ⟨go80, 0, none⟩) x24_4.length co73) y465 := (by rw [hw, Ny465.out]; exact Kd.R_mono HP82.1 (fun k_ hk => by (obtain ⟨h1_, h2_, h3_, h4_, h5_⟩ := hk); exact ⟨by assumption, ⟨by assumption, ⟨by assumption, ⟨by assumption, by assumption⟩⟩⟩⟩)); clear HP82; have n0_ := Aside0.mk (Kd.R_over' (v := (.slice (some ⟨go80, 0, none⟩) x24_4.length co73)) (by (with_reducible repeat (first | apply Kd.R_alloc | apply Kd.R_drewN | apply Kd.R_drew)); exact HO_5.out) (Kd.R_typed HO_24.out) (by decide) hg); have n1_ := Aside0.mk (Kd.R_after (v := (.slice (some ⟨go80, 0, none⟩) x24_4.length co73)) (v1 := (.slice (some ⟨go80, 0, none⟩) x24_4.length co73)) (ok := (fun k_ => some k_ ≠ (v400 : Value).ownBlock ∧ some k_ ≠ (v402 : Value).ownBlock ∧ some k_ ≠ (.slice Ao81 t449.length co81 : Value).ownBlock ∧ some k_ ≠ (v455 : Value).ownBlock)) (by (with_reducible repeat (first | apply Kd.R_alloc | apply Kd.R_drewN | apply Kd.R_drew)); exact Kd.R_mono HO_6.out (fun k_ hk => by (obtain ⟨h1_, h2_, h3_, h4_, h5_⟩ := hk); exact ⟨⟨by assumption, ⟨by assumption, ⟨by assumption, by assumption⟩⟩⟩, by assumption⟩)) hg (.inl rfl)); have n2_ := Aside0.mk (Kd.R_after (v := (.slice (some ⟨go80, 0, none⟩) x24_4.length co73)) (v1 := (.slice (some ⟨go80, 0, none⟩) x24_4.length co73)) (ok := (fun k_ => some k_ ≠ (.slice Ao10 t392.length co10 : Value).ownBlock ∧ some k_ ≠ (v402 : Value).ownBlock ∧ some k_ ≠ (.slice Ao81 t449.length co81 : Value).ownBlock ∧ some k_ ≠ (v455 : Value).ownBlock)) (by (with_reducible repeat (first | apply Kd.R_alloc | apply Kd.R_drewN | apply Kd.R_drew)); exact Kd.R_mono HO_7.out (fun k_ hk => by (obtain ⟨h1_, h2_, h3_, h4_, h5_⟩ := hk); exact ⟨⟨by assumption, ⟨by assumption, ⟨by assumption, by assumption⟩⟩⟩, by assumption⟩)) hg (.inl rfl)); have n3_ := Aside0.mk (Kd.R_after (v := (.slice (some ⟨go80, 0, none⟩) x24_4.length co73)) (v1 := (.slice (some ⟨go80, 0, none⟩) x24_4.length co73)) (ok := (fun k_ => some k_ ≠ (.slice Ao10 t392.length co10 : Value).ownBlock ∧ some k_ ≠ (v400 : Value).ownBlock ∧ some k_ ≠ (.slice Ao81 t449.length co81 : Value).ownBlock ∧ some k_ ≠ (v455 : Value).ownBlock)) (by (with_reducible repeat (first | apply Kd.R_alloc | apply Kd.R_drewN | apply Kd.R_drew)); exact Kd.R_mono HO_8.out (fun k_ hk => by (obtain ⟨h1_, h2_, h3_, h4_, h5_⟩ := hk); exact ⟨⟨by assumption, ⟨by assumption, ⟨by assumption, by assumption⟩⟩⟩, by assumption⟩)) hg (.inl rfl)); have n4_ := Aside0.mk (Kd.R_after (v := (.slice (some ⟨go80, 0, none⟩) x24_4.length co73)) (v1 := (.slice (some ⟨go80, 0, none⟩) x24_4.length co73)) (ok := (fun k_ => some k_ ≠ (.slice Ao10 t392.length co10 : Value).ownBlock ∧ some k_ ≠ (v400 : Value).ownBlock ∧ some k_ ≠ (v402 : Value).ownBlock ∧ some k_ ≠ (v455 : Value).ownBlock)) (by (with_reducible repeat (first | apply Kd.R_alloc | apply Kd.R_drewN | apply Kd.R_drew)); exact Kd.R_mono HO_20.out (fun k_ hk => by (obtain ⟨h1_, h2_, h3_, h4_, h5_⟩ := hk); exact ⟨⟨by assumption, ⟨by assumption, ⟨by assumption, by assumption⟩⟩⟩, by assumption⟩)) hg (.inl rfl)); have n5_ := Aside0.mk (Kd.R_after (v := (.slice (some ⟨go80, 0, none⟩) x24_4.length co73)) (v1 := (.slice (some ⟨go80, 0, none⟩) x24_4.length co73)) (ok := (fun k_ => some k_ ≠ (.slice Ao10 t392.length co10 : Value).ownBlock ∧ some k_ ≠ (v400 : Value).ownBlock ∧ some k_ ≠ (v402 : Value).ownBlock ∧ some k_ ≠ (.slice Ao81 t449.length co81 : Value).ownBlock)) (by (with_reducible repeat (first | apply Kd.R_alloc | apply Kd.R_drewN | apply Kd.R_drew)); exact Kd.R_mono HO_22.out (fun k_ hk => by (obtain ⟨h1_, h2_, h3_, h4_, h5_⟩ := hk); exact ⟨⟨by assumption, ⟨by assumption, ⟨by assumption, by assumption⟩⟩⟩, by assumption⟩)) hg (.inl rfl)); have n6_ := Aside0.mk (hp_); have n7_ := Aside0.mk ((by rw [hw]; exact below_set (HB.out) GB80.out : Below w.heap.size w w83)); have n8_ := Aside0.mk ((show Kd.C k53 w83 Ao9 y416.length y416 from by rw [Ny416.out]; exact Kd.C_take (m := ((ji31) : Int).toNat) ((Kd.R_reads' (Kd.R_over' (v := (.slice (some ⟨go80, 0, none⟩) x24_4.length co73)) (by (with_reducible repeat (first | apply Kd.R_alloc | apply Kd.R_drewN | apply Kd.R_drew)); exact HO_5.out) (Kd.R_typed HO_24.out) (by decide) hg)).2.2) KL39.out)); have n9_ := Aside0.mk ((show Kd.C k53 w83 A41 y427.length y427 from by rw [Ny427.out, KA41.out]; exact Kd.C_drop (m := ((ji31) : Int).toNat) (c := co9) ((Kd.R_reads' (Kd.R_over' (v := (.slice (some ⟨go80, 0, none⟩) x24_4.length co73)) (by (with_reducible repeat (first | apply Kd.R_alloc | apply Kd.R_drewN | apply Kd.R_drew)); exact HO_5.out) (Kd.R_typed HO_24.out) (by decide) hg)).2.2) KL41.out ((Kd.R_reads' (Kd.R_over' (v := (.slice (some ⟨go80, 0, none⟩) x24_4.length co73)) (by (with_reducible repeat (first | apply Kd.R_alloc | apply Kd.R_drewN | apply Kd.R_drew)); exact HO_5.out) (Kd.R_typed HO_24.out) (by decide) hg)).2.1))); clear HO_5; clear HO_6; clear HO_7; clear HO_8; clear HO_20; clear HO_22; clear HO_24; clear HB; clear HR419; clear HR430; have HO_5 := n0_; have HO_6 := n1_; have HO_7 := n2_; have HO_8 := n3_; have HO_20 := n4_; have HO_22 := n5_; have HO_24 := n6_; have HB := n7_; have HR419 := n8_; have HR430 := n9_; clear n0_ n1_ n2_ n3_ n4_ n5_ n6_ n7_ n8_ n9_; clear hg hw hp_))
              (try simp only [← hl24_4])
              go_roundg k4
              case measure => have := HJ6.out; have := HJ37.out; have := HJ63.out; have := HK4.out; omega
              case rel => exact ⟨(y465), (wrap64 (x154_4 + 1)), (by first | rfl | (simp; done) | (simp [*]; done)), H', ⟨by have := HJ6.out; have := HJ37.out; have := HJ63.out; have := HK4.out; omega⟩, ⟨by (try simp only [hl24_4]); (with_reducible repeat (first | apply Kd.R_alloc | apply Kd.R_drewN | apply Kd.R_drew)); exact HO_5.out⟩, ⟨by (try simp only [hl24_4]); (with_reducible repeat (first | apply Kd.R_alloc | apply Kd.R_drewN | apply Kd.R_drew)); exact Kd.R_mono HO_6.out (fun _ hk => ⟨hk.1.1, ⟨hk.1.2.1, ⟨hk.1.2.2.1, ⟨hk.1.2.2.2, hk.2⟩⟩⟩⟩)⟩, ⟨by (try simp only [hl24_4]); (with_reducible repeat (first | apply Kd.R_alloc | apply Kd.R_drewN | apply Kd.R_drew)); exact Kd.R_mono HO_7.out (fun _ hk => ⟨hk.1.1, ⟨hk.1.2.1, ⟨hk.1.2.2.1, ⟨hk.1.2.2.2, hk.2⟩⟩⟩⟩)⟩, ⟨by (try simp only [hl24_4]); (with_reducible repeat (first | apply Kd.R_alloc | apply Kd.R_drewN | apply Kd.R_drew)); exact Kd.R_mono HO_8.out (fun _ hk => ⟨hk.1.1, ⟨hk.1.2.1, ⟨hk.1.2.2.1, ⟨hk.1.2.2.2, hk.2⟩⟩⟩⟩)⟩, ⟨by (try simp only [hl24_4]); (with_reducible repeat (first | apply Kd.R_alloc | apply Kd.R_drewN | apply Kd.R_drew)); exact Kd.R_mono HO_20.out (fun _ hk => ⟨hk.1.1, ⟨hk.1.2.1, ⟨hk.1.2.2.1, ⟨hk.1.2.2.2, hk.2⟩⟩⟩⟩)⟩, ⟨by (try simp only [hl24_4]); (with_reducible repeat (first | apply Kd.R_alloc | apply Kd.R_drewN | apply Kd.R_drew)); exact Kd.R_mono HO_22.out (fun _ hk => ⟨hk.1.1, ⟨hk.1.2.1, ⟨hk.1.2.2.1, ⟨hk.1.2.2.2, hk.2⟩⟩⟩⟩)⟩, ⟨by (try simp only [hl24_4]); (with_reducible repeat (first | apply Kd.R_alloc | apply Kd.R_drewN | apply Kd.R_drew)); exact HO_24.out⟩, ⟨trivial⟩, ⟨trivial⟩, ⟨by repeat (first | (with_reducible first | exact HB.out | apply below_alloc | apply pw_below_drewN | apply below_drew1) | exact HB.out)⟩⟩
            ·rw [if_neg c74] at H
             have c74b0 : decide (x154_4 < (y460.length : Int)) = false := decide_eq_false c74
             have c74b9 : decide (x154_4 < (x24_4.length : Int)) = false := by rw [← hl24_4]; exact c74b0
             clear c74
             replace H := Option.bind_eq_some_iff.mp H
             obtain ⟨⟨t466, t467, t468⟩, A840, H⟩ := H
             replace H : (if t468 = true then ((laws_sameInts.f k4 t466 t397).bind fun t473 => (laws_FnCode.j4 k4 l1 t392 t398 t453 x24_4 t467 (!t473))) else (laws_FnCode.j4 k4 l1 t392 t398 t453 x24_4 t467 true)) = some true := H
             have A84 := Aside0.mk A840
             clear A840
             have HC85 := Aside0.mk H
             clear H
             go_upto_region 26 with (first | ((with_reducible refine gate_callee (f := 7) rfl ?_); refine goesL_ (some 176) rfl rfl Try.func7 (by kernel_rfl) rfl #[.slice Ao9 t391.length co9, .slice Ao73 x24_4.length co73] rfl (by (try simp only [List.map_toArray, List.map_cons, List.map_nil]); first | done | rfl | (simp only [List.length_drop, List.length_take]; rfl)) ?_; (with_reducible refine (impl_RunCode.calls k4 _ _ t391 _ _ x24_4 t466 t467 t468 _ ?side1 ?side2 ?side3 ?side4 A84.out).mono ?_); (case side1 => repeat (first | exact (Kd.R_reads' HO_5.out).2.2 | (with_reducible refine Kd.C_alloc ?_ _) | (with_reducible refine Kd.C_drewN ?_ _) | (with_reducible refine Kd.C_drew ?_))); (case side2 => exact (Kd.R_reads' HO_5.out).2.1); (case side3 => repeat (first | exact (Kd.R_reads' HO_24.out).2.2 | (with_reducible refine Kd.C_alloc ?_ _) | (with_reducible refine Kd.C_drewN ?_ _) | (with_reducible refine Kd.C_drew ?_))); (case side4 => exact (Kd.R_reads' HO_24.out).2.1); rintro e w86 ⟨v469, v471, rfl, ho0, ho1, hb⟩; refine ⟨_, rfl, ?_⟩; have n0_ := Aside0.mk (Kd.R_below (by (with_reducible repeat (first | apply Kd.R_alloc | apply Kd.R_drewN | apply Kd.R_drew)); exact HO_5.out) hb); have n1_ := Aside0.mk (Kd.R_mono (Kd.R_told (Kd.R_told (Kd.R_old (by (with_reducible repeat (first | apply Kd.R_alloc | apply Kd.R_drewN | apply Kd.R_drew)); exact HO_6.out) hb) (Kd.R_base ho0)) (Kd.R_base ho1)) (fun _ h_ => h_.1)); have n2_ := Aside0.mk (Kd.R_mono (Kd.R_told (Kd.R_told (Kd.R_old (by (with_reducible repeat (first | apply Kd.R_alloc | apply Kd.R_drewN | apply Kd.R_drew)); exact HO_7.out) hb) (Kd.R_base ho0)) (Kd.R_base ho1)) (fun _ h_ => h_.1)); have n3_ := Aside0.mk (Kd.R_mono (Kd.R_told (Kd.R_told (Kd.R_old (by (with_reducible repeat (first | apply Kd.R_alloc | apply Kd.R_drewN | apply Kd.R_drew)); exact HO_8.out) hb) (Kd.R_base ho0)) (Kd.R_base ho1)) (fun _ h_ => h_.1)); have n4_ := Aside0.mk (Kd.R_mono (Kd.R_told (Kd.R_told (Kd.R_old (by (with_reducible repeat (first | apply Kd.R_alloc | apply Kd.R_drewN | apply Kd.R_drew)); exact HO_20.out) hb) (Kd.R_base ho0)) (Kd.R_base ho1)) (fun _ h_ => h_.1)); have n5_ := Aside0.mk (Kd.R_mono (Kd.R_told (Kd.R_told (Kd.R_old (by (with_reducible repeat (first | apply Kd.R_alloc | apply Kd.R_drewN | apply Kd.R_drew)); exact HO_22.out) hb) (Kd.R_base ho0)) (Kd.R_base ho1)) (fun _ h_ => h_.1)); have n6_ := Aside0.mk (Kd.R_mono (Kd.R_told (Kd.R_told (Kd.R_old (by (with_reducible repeat (first | apply Kd.R_alloc | apply Kd.R_drewN | apply Kd.R_drew)); exact HO_24.out) hb) (Kd.R_base ho0)) (Kd.R_base ho1)) (fun _ h_ => h_.1)); have n7_ := Aside0.mk (Kd.R_lower (Kd.R_new' (Kd.R_new' (Kd.R_new' (Kd.R_new' (Kd.R_new' (Kd.R_new' ho0 (Kd.R_lt (by (with_reducible repeat (first | apply Kd.R_alloc | apply Kd.R_drewN | apply Kd.R_drew)); exact HO_6.out))) (Kd.R_lt (by (with_reducible repeat (first | apply Kd.R_alloc | apply Kd.R_drewN | apply Kd.R_drew)); exact HO_7.out))) (Kd.R_lt (by (with_reducible repeat (first | apply Kd.R_alloc | apply Kd.R_drewN | apply Kd.R_drew)); exact HO_8.out))) (Kd.R_lt (by (with_reducible repeat (first | apply Kd.R_alloc | apply Kd.R_drewN | apply Kd.R_drew)); exact HO_20.out))) (Kd.R_lt (by (with_reducible repeat (first | apply Kd.R_alloc | apply Kd.R_drewN | apply Kd.R_drew)); exact HO_22.out))) (Kd.R_lt (by (with_reducible repeat (first | apply Kd.R_alloc | apply Kd.R_drewN | apply Kd.R_drew)); exact HO_24.out))) (below_size (by repeat (first | (with_reducible first | exact HB.out | apply below_alloc | apply pw_below_drewN | apply below_drew1) | exact HB.out)))); have n8_ := Aside0.mk (Kd.R_lower (Kd.R_new' (Kd.R_new' (Kd.R_new' (Kd.R_new' (Kd.R_new' (Kd.R_new' ho1 (Kd.R_lt (by (with_reducible repeat (first | apply Kd.R_alloc | apply Kd.R_drewN | apply Kd.R_drew)); exact HO_6.out))) (Kd.R_lt (by (with_reducible repeat (first | apply Kd.R_alloc | apply Kd.R_drewN | apply Kd.R_drew)); exact HO_7.out))) (Kd.R_lt (by (with_reducible repeat (first | apply Kd.R_alloc | apply Kd.R_drewN | apply Kd.R_drew)); exact HO_8.out))) (Kd.R_lt (by (with_reducible repeat (first | apply Kd.R_alloc | apply Kd.R_drewN | apply Kd.R_drew)); exact HO_20.out))) (Kd.R_lt (by (with_reducible repeat (first | apply Kd.R_alloc | apply Kd.R_drewN | apply Kd.R_drew)); exact HO_22.out))) (Kd.R_lt (by (with_reducible repeat (first | apply Kd.R_alloc | apply Kd.R_drewN | apply Kd.R_drew)); exact HO_24.out))) (below_size (by repeat (first | (with_reducible first | exact HB.out | apply below_alloc | apply pw_below_drewN | apply below_drew1) | exact HB.out)))); have n9_ := Aside0.mk trivial; have n10_ := Aside0.mk trivial; have n11_ := Aside0.mk (below_step (by repeat (first | (with_reducible first | exact HB.out | apply below_alloc | apply pw_below_drewN | apply below_drew1) | exact HB.out)) hb); clear HO_5; clear HO_6; clear HO_7; clear HO_8; clear HO_20; clear HO_22; clear HO_24; clear HR419; clear HR430; clear HB; have HO_5 := n0_; have HO_6 := n1_; have HO_7 := n2_; have HO_8 := n3_; have HO_20 := n4_; have HO_22 := n5_; have HO_24 := n6_; have HO470 := n7_; have HO472 := n8_; have HR419 := n9_; have HR430 := n10_; have HB := n11_; clear n0_ n1_ n2_ n3_ n4_ n5_ n6_ n7_ n8_ n9_ n10_ n11_; (try clear hb); (try clear hb2); (try clear hk); (try clear hi); (try clear ho0); (try clear ho1)))
             (try simp only [Act.put, List.setIfInBounds_toArray, List.set_cons_zero, List.set_cons_succ])
             go_cut [187] (fun v187 wc => ∃ (kq : Nat) (x187_84 : Bool), v187 = .bool x187_84 ∧ Aside0 (laws_FnCode.j4 kq l1 t392 t398 t453 x24_4 t467 x187_84 = some true) ∧ Aside0 (kq ≤ k4) ∧ Aside0 (Kd.R (Kd.int .i64) 3 wc w.heap.size (fun k_ => some k_ ≠ (v402 : Value).ownBlock ∧ some k_ ≠ (v455 : Value).ownBlock ∧ some k_ ≠ ((.slice Ao73 x24_4.length co73) : Value).ownBlock ∧ some k_ ≠ (v471 : Value).ownBlock) (.slice Ao10 t392.length co10) t392) ∧ Aside0 (Kd.R (Kd.int .i64) 3 wc w.heap.size (fun k_ => some k_ ≠ ((.slice Ao10 t392.length co10) : Value).ownBlock ∧ some k_ ≠ (v455 : Value).ownBlock ∧ some k_ ≠ ((.slice Ao73 x24_4.length co73) : Value).ownBlock ∧ some k_ ≠ (v471 : Value).ownBlock) v402 t398) ∧ Aside0 (Kd.R (Kd.int .i64) 3 wc w.heap.size (fun k_ => some k_ ≠ ((.slice Ao10 t392.length co10) : Value).ownBlock ∧ some k_ ≠ (v402 : Value).ownBlock ∧ some k_ ≠ ((.slice Ao73 x24_4.length co73) : Value).ownBlock ∧ some k_ ≠ (v471 : Value).ownBlock) v455 t453) ∧ Aside0 (Kd.R (Kd.int .i64) 3 wc w.heap.size (fun k_ => some k_ ≠ ((.slice Ao10 t392.length co10) : Value).ownBlock ∧ some k_ ≠ (v402 : Value).ownBlock ∧ some k_ ≠ (v455 : Value).ownBlock ∧ some k_ ≠ (v471 : Value).ownBlock) (.slice Ao73 x24_4.length co73) x24_4) ∧ Aside0 (Kd.R (Kd.int .i64) 3 wc w.heap.size (fun k_ => some k_ ≠ ((.slice Ao10 t392.length co10) : Value).ownBlock ∧ some k_ ≠ (v402 : Value).ownBlock ∧ some k_ ≠ (v455 : Value).ownBlock ∧ some k_ ≠ ((.slice Ao73 x24_4.length co73) : Value).ownBlock) v471 t467) ∧ Aside0 True ∧ Aside0 True ∧ Aside0 (Below w.heap.size w wc))
             case first => as_aux_lemma =>
              have H := HC85.out
              clear HC85
              by_cases c87 : t468 = true
              rotate_left
              ·replace c87 := Bool.eq_false_iff.mpr c87
               subst c87
               have H1 : (laws_FnCode.j4 k4 l1 t392 t398 t453 x24_4 t467 true) = some true := by rw [if_neg (show ¬ (false = true) by decide)] at H; exact H
               clear H
               have H := H1
               clear H1
               exact absurd H (by cases k4 <;> simp [laws_FnCode.j4])
              subst c87
              have H1 : ((laws_sameInts.f k4 t466 t397).bind fun t473 => (laws_FnCode.j4 k4 l1 t392 t398 t453 x24_4 t467 (!t473))) = some true := by rw [if_pos rfl] at H; exact H
              clear H
              have H := H1
              clear H1
              replace H := Option.bind_eq_some_iff.mp H
              obtain ⟨t473, A880, H⟩ := H
              replace H : (laws_FnCode.j4 k4 l1 t392 t398 t453 x24_4 t467 (!t473)) = some true := H
              have A88 := Aside0.mk A880
              clear A880
              have H' := Aside0.mk H
              clear H
              obtain ⟨Ao89, co89, eo89⟩ := Kd.R_slice HO470.out
              subst eo89
              obtain ⟨Ao90, co90, eo90⟩ := Kd.R_slice HO_7.out
              subst eo90
              go_wp2_with (first | (go_at_call 9; (with_reducible refine (laws_sameInts.calls k4 _ _ t466 _ _ t397 t473 _ ?side1 ?side2 ?side3 ?side4 A88.out).mono ?_); (case side1 => repeat (first | exact (Kd.R_reads' HO470.out).2.2 | (with_reducible refine Kd.C_alloc ?_ _) | (with_reducible refine Kd.C_drewN ?_ _) | (with_reducible refine Kd.C_drew ?_))); (case side2 => exact (Kd.R_reads' HO470.out).2.1); (case side3 => repeat (first | exact (Kd.R_reads' HO_7.out).2.2 | (with_reducible refine Kd.C_alloc ?_ _) | (with_reducible refine Kd.C_drewN ?_ _) | (with_reducible refine Kd.C_drew ?_))); (case side4 => exact (Kd.R_reads' HO_7.out).2.1); rintro e w' ⟨rfl, ⟨nd, rfl⟩⟩))
              go_meet
              case rel => exact ⟨_, (!t473), (by first | rfl | (simp; done) | (simp [*]; done)), H', ⟨by have := HJ6.out; have := HJ37.out; have := HJ63.out; have := HK4.out; first | omega | exact Nat.le_refl _⟩, ⟨by (try simp only [hl24_4]); (with_reducible repeat (first | apply Kd.R_alloc | apply Kd.R_drewN | apply Kd.R_drew)); exact Kd.R_mono HO_6.out (fun _ hk => ⟨hk.1.1.2.1, ⟨hk.1.1.2.2.2.1, ⟨hk.1.1.2.2.2.2, hk.2⟩⟩⟩)⟩, ⟨by (try simp only [hl24_4]); (with_reducible repeat (first | apply Kd.R_alloc | apply Kd.R_drewN | apply Kd.R_drew)); exact Kd.R_mono HO_8.out (fun _ hk => ⟨hk.1.1.1, ⟨hk.1.1.2.2.2.1, ⟨hk.1.1.2.2.2.2, hk.2⟩⟩⟩)⟩, ⟨by (try simp only [hl24_4]); (with_reducible repeat (first | apply Kd.R_alloc | apply Kd.R_drewN | apply Kd.R_drew)); exact Kd.R_mono HO_22.out (fun _ hk => ⟨hk.1.1.1, ⟨hk.1.1.2.2.1, ⟨hk.1.1.2.2.2.2, hk.2⟩⟩⟩)⟩, ⟨by (try simp only [hl24_4]); (with_reducible repeat (first | apply Kd.R_alloc | apply Kd.R_drewN | apply Kd.R_drew)); exact Kd.R_mono HO_24.out (fun _ hk => ⟨hk.1.1.1, ⟨hk.1.1.2.2.1, ⟨hk.1.1.2.2.2.2, hk.2⟩⟩⟩)⟩, ⟨by (try simp only [hl24_4]); (with_reducible repeat (first | apply Kd.R_alloc | apply Kd.R_drewN | apply Kd.R_drew)); exact Kd.R_mono HO472.out (fun _ hk => ⟨hk.1.1.1.1.1.2, ⟨hk.1.1.1.2, ⟨hk.1.2, hk.2⟩⟩⟩)⟩, ⟨trivial⟩, ⟨trivial⟩, ⟨by repeat (first | (with_reducible first | exact HB.out | apply below_alloc | apply pw_below_drewN | apply below_drew1) | exact HB.out)⟩⟩
             case rest => as_aux_lemma =>
              clear HC85
              try clear c1
              try clear c2
              try clear p2
              try clear c3
              try clear c3b0
              try clear q3
              try clear c4
              try clear p4
              try clear q4
              try clear hx4
              try clear c6
              try clear p6
              try clear c7
              try clear c8
              try clear p8
              try clear q8
              try clear hx8
              try clear hf8
              try clear c12
              try clear c13
              try clear c13b0
              try clear c13b1
              try clear c13b2
              try clear c14
              try clear c15
              try clear c17
              try clear c26
              try clear c28
              try clear c30
              try clear c30b0
              try clear c30b1
              try clear c32
              try clear c32b0
              try clear c32b1
              try clear c33
              try clear c33b0
              try clear c33b1
              try clear c35
              try clear c35b0
              try clear c36
              try clear c36b0
              try clear q39
              try clear c41
              try clear q41
              try clear c44
              try clear c45
              try clear p46
              try clear q46
              try clear hx46
              try clear c47
              try clear c48
              try clear c49
              try clear c61
              try clear p64
              try clear c67
              try clear c68
              try clear c69
              try clear c74
              try clear c74b0
              try clear c76
              try clear c78
              try clear c78b0
              try clear c79
              try clear c79b0
              try clear p80
              try clear q80
              try clear hx80
              try clear hf80
              try clear c87
              try clear hx464_0
              try clear hx80_0
              try clear p2
              try clear p464
              try clear p6
              try clear p64
              try clear p80
              try clear q041
              try clear q3
              try clear q39
              try clear q4
              try clear q41
              try clear q464
              try clear q80
              obtain ⟨kq, x187_84, rfl, HA, HJ84, HO_6, HO_8, HO_22, HO_24, HO_27, HR419, HR430, HB⟩ := hcut
              cases kq with
              | zero => exact absurd HA.out (by simp [laws_FnCode.j4])
              | succ kj84 =>
               have H := HA.out
               clear HA
               simp only [laws_FnCode.j4] at H
               by_cases c91 : x187_84 = true
               ·subst c91
                have H1 : (some false) = some true := by rw [if_pos rfl] at H; exact H
                clear H
                have H := H1
                clear H1
                exact absurd H (by simp)
               replace c91 := Bool.eq_false_iff.mpr c91
               subst c91
               have H1 : (laws_FnCode.l1 kj84 l1 t392 t398 t453 x24_4 t467 (t467.length : Int) 0) = some true := by rw [if_neg (show ¬ (false = true) by decide)] at H; exact H
               clear H
               have H := H1
               clear H1
               have H' := Aside0.mk H
               clear H
               obtain ⟨Ao92, co92, eo92⟩ := Kd.R_slice HO_27.out
               subst eo92
               go_wp2
               go_loopg [190] kj84 (fun kq v190 w' => ∃ (x190_6 : Int), v190 = .int .i64 x190_6 ∧ Aside0 (laws_FnCode.l1 kq l1 t392 t398 t453 x24_4 t467 (t467.length : Int) x190_6 = some true) ∧ Aside0 (kq ≤ kj84) ∧ Aside0 (Kd.R (Kd.int .i64) 3 w' w.heap.size (fun k_ => some k_ ≠ (v402 : Value).ownBlock ∧ some k_ ≠ (v455 : Value).ownBlock ∧ some k_ ≠ ((.slice Ao73 x24_4.length co73) : Value).ownBlock ∧ some k_ ≠ ((.slice Ao92 t467.length co92) : Value).ownBlock) (.slice Ao10 t392.length co10) t392) ∧ Aside0 (Kd.R (Kd.int .i64) 3 w' w.heap.size (fun k_ => some k_ ≠ ((.slice Ao10 t392.length co10) : Value).ownBlock ∧ some k_ ≠ (v455 : Value).ownBlock ∧ some k_ ≠ ((.slice Ao73 x24_4.length co73) : Value).ownBlock ∧ some k_ ≠ ((.slice Ao92 t467.length co92) : Value).ownBlock) v402 t398) ∧ Aside0 (Kd.R (Kd.int .i64) 3 w' w.heap.size (fun k_ => some k_ ≠ ((.slice Ao10 t392.length co10) : Value).ownBlock ∧ some k_ ≠ (v402 : Value).ownBlock ∧ some k_ ≠ ((.slice Ao73 x24_4.length co73) : Value).ownBlock ∧ some k_ ≠ ((.slice Ao92 t467.length co92) : Value).ownBlock) v455 t453) ∧ Aside0 (Kd.R (Kd.int .i64) 3 w' w.heap.size (fun k_ => some k_ ≠ ((.slice Ao10 t392.length co10) : Value).ownBlock ∧ some k_ ≠ (v402 : Value).ownBlock ∧ some k_ ≠ (v455 : Value).ownBlock ∧ some k_ ≠ ((.slice Ao92 t467.length co92) : Value).ownBlock) (.slice Ao73 x24_4.length co73) x24_4) ∧ Aside0 (Kd.R (Kd.int .i64) 3 w' w.heap.size (fun k_ => some k_ ≠ ((.slice Ao10 t392.length co10) : Value).ownBlock ∧ some k_ ≠ (v402 : Value).ownBlock ∧ some k_ ≠ (v455 : Value).ownBlock ∧ some k_ ≠ ((.slice Ao73 x24_4.length co73) : Value).ownBlock) (.slice Ao92 t467.length co92) t467) ∧ Aside0 True ∧ Aside0 True ∧ Aside0 (Below w.heap.size w w'))
               case atStart => exact ⟨(0), (by first | rfl | (simp; done) | (simp [*]; done)), H', ⟨Nat.le_refl _⟩, ⟨by (try simp only [hl24_4]); (with_reducible repeat (first | apply Kd.R_alloc | apply Kd.R_drewN | apply Kd.R_drew)); exact HO_6.out⟩, ⟨by (try simp only [hl24_4]); (with_reducible repeat (first | apply Kd.R_alloc | apply Kd.R_drewN | apply Kd.R_drew)); exact HO_8.out⟩, ⟨by (try simp only [hl24_4]); (with_reducible repeat (first | apply Kd.R_alloc | apply Kd.R_drewN | apply Kd.R_drew)); exact HO_22.out⟩, ⟨by (try simp only [hl24_4]); (with_reducible repeat (first | apply Kd.R_alloc | apply Kd.R_drewN | apply Kd.R_drew)); exact HO_24.out⟩, ⟨by (try simp only [hl24_4]); (with_reducible repeat (first | apply Kd.R_alloc | apply Kd.R_drewN | apply Kd.R_drew)); exact HO_27.out⟩, ⟨trivial⟩, ⟨trivial⟩, ⟨by repeat (first | (with_reducible first | exact HB.out | apply below_alloc | apply pw_below_drewN | apply below_drew1) | exact HB.out)⟩⟩
               case round =>
                clear H'
                try clear c1
                try clear c2
                try clear p2
                try clear c3
                try clear c3b0
                try clear q3
                try clear c4
                try clear p4
                try clear q4
                try clear hx4
                try clear c6
                try clear p6
                try clear c7
                try clear c8
                try clear p8
                try clear q8
                try clear hx8
                try clear hf8
                try clear c9
                try clear c12
                try clear c13
                try clear c13b0
                try clear c13b1
                try clear c13b2
                try clear c14
                try clear c15
                try clear c17
                try clear c26
                try clear c28
                try clear c30
                try clear c30b0
                try clear c30b1
                try clear c32
                try clear c32b0
                try clear c32b1
                try clear c33
                try clear c33b0
                try clear c33b1
                try clear c35
                try clear c35b0
                try clear c36
                try clear c36b0
                try clear q39
                try clear c41
                try clear q41
                try clear c44
                try clear c45
                try clear p46
                try clear q46
                try clear hx46
                try clear c47
                try clear c48
                try clear c49
                try clear c61
                try clear p64
                try clear c67
                try clear c68
                try clear c69
                try clear c74
                try clear c74b0
                try clear c76
                try clear c78
                try clear c78b0
                try clear c79
                try clear c79b0
                try clear p80
                try clear q80
                try clear hx80
                try clear hf80
                try clear c87
                try clear c91
                try clear hx464_0
                try clear hx80_0
                try clear p2
                try clear p4
                try clear p46
                try clear p464
                try clear p6
                try clear p64
                try clear p8
                try clear p80
                try clear q041
                try clear q3
                try clear q39
                try clear q4
                try clear q41
                try clear q46
                try clear q464
                try clear q8
                try clear q80
                obtain ⟨x190_6, rfl, HA, HK6, HO_6, HO_8, HO_22, HO_24, HO_27, HR419, HR430, HB⟩ := hrel
                cases gk with
                | zero => exact absurd HA.out (by simp [laws_FnCode.l1])
                | succ k6 =>
                 have H := HA.out
                 clear HA
                 simp only [laws_FnCode.l1] at H
                 by_cases c93 : x190_6 < (t467.length : Int)
                 ·rw [if_pos c93] at H
                  have c93b0 : decide (x190_6 < (t467.length : Int)) = true := decide_eq_true c93
                  clear c93
                  replace H := Option.bind_eq_some_iff.mp H
                  obtain ⟨t474, A940, H⟩ := H
                  replace H : (if t474 = true then (if 0 ≤ x190_6 then (if x190_6 < (t467.length : Int) then (if x190_6 < (t398.length : Int) then (if (rd t467 x190_6) = (rd t398 x190_6) then ((laws_has.f k6 t453 x190_6).bind fun t477 => (if t477 = true then (laws_FnCode.l1 k6 l1 t392 t398 t453 x24_4 t467 (t467.length : Int) (wrap64 (x190_6 + 1))) else (if x190_6 < (x24_4.length : Int) then (if (rd t467 x190_6) = (rd x24_4 x190_6) then (if x190_6 < (t392.length : Int) then (if (rd t398 x190_6) = (rd t392 x190_6) then (laws_FnCode.l1 k6 l1 t392 t398 t453 x24_4 t467 (t467.length : Int) (wrap64 (x190_6 + 1))) else (some false)) else (none)) else (some false)) else (none)))) else (some false)) else (none)) else (none)) else (none)) else ((laws_has.f k6 t453 x190_6).bind fun t482 => (if t482 = true then (laws_FnCode.l1 k6 l1 t392 t398 t453 x24_4 t467 (t467.length : Int) (wrap64 (x190_6 + 1))) else (if 0 ≤ x190_6 then (if x190_6 < (t467.length : Int) then (if x190_6 < (x24_4.length : Int) then (if (rd t467 x190_6) = (rd x24_4 x190_6) then (if x190_6 < (t398.length : Int) then (if x190_6 < (t392.length : Int) then (if (rd t398 x190_6) = (rd t392 x190_6) then (laws_FnCode.l1 k6 l1 t392 t398 t453 x24_4 t467 (t467.length : Int) (wrap64 (x190_6 + 1))) else (some false)) else (none)) else (none)) else (some false)) else (none)) else (none)) else (none))))) = some true := H
                  have A94 := Aside0.mk A940
                  clear A940
                  by_cases c95 : t474 = true
                  ·subst c95
                   have H1 : (if 0 ≤ x190_6 then (if x190_6 < (t467.length : Int) then (if x190_6 < (t398.length : Int) then (if (rd t467 x190_6) = (rd t398 x190_6) then ((laws_has.f k6 t453 x190_6).bind fun t477 => (if t477 = true then (laws_FnCode.l1 k6 l1 t392 t398 t453 x24_4 t467 (t467.length : Int) (wrap64 (x190_6 + 1))) else (if x190_6 < (x24_4.length : Int) then (if (rd t467 x190_6) = (rd x24_4 x190_6) then (if x190_6 < (t392.length : Int) then (if (rd t398 x190_6) = (rd t392 x190_6) then (laws_FnCode.l1 k6 l1 t392 t398 t453 x24_4 t467 (t467.length : Int) (wrap64 (x190_6 + 1))) else (some false)) else (none)) else (some false)) else (none)))) else (some false)) else (none)) else (none)) else (none)) = some true := by rw [if_pos rfl] at H; exact H
                   clear H
                   have H := H1
                   clear H1
                   by_cases c96 : 0 ≤ x190_6
                   rotate_left
                   ·rw [if_neg c96] at H
                    exact absurd H (by simp)
                   rw [if_pos c96] at H
                   have c96b0 : decide (0 ≤ x190_6) = true := decide_eq_true c96
                   clear c96
                   by_cases c97 : x190_6 < (t467.length : Int)
                   rotate_left
                   ·rw [if_neg c97] at H
                    exact absurd H (by simp)
                   rw [if_pos c97] at H
                   have c97b0 : decide (x190_6 < (t467.length : Int)) = true := decide_eq_true c97
                   clear c97
                   by_cases c98 : x190_6 < (t398.length : Int)
                   rotate_left
                   ·rw [if_neg c98] at H
                    exact absurd H (by simp)
                   rw [if_pos c98] at H
                   have c98b0 : decide (x190_6 < (t398.length : Int)) = true := decide_eq_true c98
                   clear c98
                   by_cases c99 : (rd t467 x190_6) = (rd t398 x190_6)
                   rotate_left
                   ·rw [if_neg c99] at H
                    have c99b0 : ((rd t467 x190_6) == (rd t398 x190_6)) = false := beq_eq_false_iff_ne.mpr c99
                    have c99b1 : ((rd t467 x190_6) != (rd t398 x190_6)) = true := bne_iff_ne.mpr c99
                    exact absurd H (by simp)
                   rw [if_pos c99] at H
                   have c99b0 : ((rd t467 x190_6) == (rd t398 x190_6)) = true := beq_iff_eq.mpr c99
                   have c99b1 : ((rd t467 x190_6) != (rd t398 x190_6)) = false := bne_eq_false_iff_eq.mpr c99
                   clear c99
                   replace H := Option.bind_eq_some_iff.mp H
                   obtain ⟨t477, A1000, H⟩ := H
                   replace H : (if t477 = true then (laws_FnCode.l1 k6 l1 t392 t398 t453 x24_4 t467 (t467.length : Int) (wrap64 (x190_6 + 1))) else (if x190_6 < (x24_4.length : Int) then (if (rd t467 x190_6) = (rd x24_4 x190_6) then (if x190_6 < (t392.length : Int) then (if (rd t398 x190_6) = (rd t392 x190_6) then (laws_FnCode.l1 k6 l1 t392 t398 t453 x24_4 t467 (t467.length : Int) (wrap64 (x190_6 + 1))) else (some false)) else (none)) else (some false)) else (none))) = some true := H
                   have A100 := Aside0.mk A1000
                   clear A1000
                   by_cases c101 : t477 = true
                   ·subst c101
                    have H1 : (laws_FnCode.l1 k6 l1 t392 t398 t453 x24_4 t467 (t467.length : Int) (wrap64 (x190_6 + 1))) = some true := by rw [if_pos rfl] at H; exact H
                    clear H
                    have H := H1
                    clear H1
                    have H' := Aside0.mk H
                    clear H
                    try go_wp2
                    have n0_ := Aside0.mk (Kd.R_drew HO_6.out)
                    have n1_ := Aside0.mk (Kd.R_drew HO_8.out)
                    have n2_ := Aside0.mk (Kd.R_drew HO_22.out)
                    have n3_ := Aside0.mk (Kd.R_drew HO_24.out)
                    have n4_ := Aside0.mk (Kd.R_drew HO_27.out)
                    have n5_ := Aside0.mk trivial
                    have n6_ := Aside0.mk trivial
                    have n7_ := Aside0.mk (below_drew1 HB.out)
                    clear HO_6
                    clear HO_8
                    clear HO_22
                    clear HO_24
                    clear HO_27
                    clear HR419
                    clear HR430
                    clear HB
                    have HO_6 := n0_
                    have HO_8 := n1_
                    have HO_22 := n2_
                    have HO_24 := n3_
                    have HO_27 := n4_
                    have HR419 := n5_
                    have HR430 := n6_
                    have HB := n7_
                    clear n0_ n1_ n2_ n3_ n4_ n5_ n6_ n7_
                    obtain ⟨Ao103, co103, eo103⟩ := Kd.R_slice HO_22.out
                    (first | subst eo103 | (injection eo103 with f1_ f2_ f3_; have f4_ := f1_.symm; have f5_ := f3_.symm; clear f1_ f2_ f3_; subst f4_; subst f5_))
                    have p475 : 0 ≤ (x190_6 : Int) := of_decide_eq_true (by first | (with_reducible assumption) | assumption)
                    have q475 : x190_6 < (t467.length : Int) := of_decide_eq_true (by first | (with_reducible assumption) | assumption)
                    obtain ⟨ad475, e475, hx475_0⟩ := Kd.at_int (Kd.R_reads' HO_27.out).2.2 x190_6 p475 q475
                    cases e475
                    replace p475 := eq_true p475
                    replace q475 := eq_true q475
                    have p476 : 0 ≤ (x190_6 : Int) := of_decide_eq_true (by first | (with_reducible assumption) | assumption)
                    have q476 : x190_6 < (t398.length : Int) := of_decide_eq_true (by first | (with_reducible assumption) | assumption)
                    obtain ⟨Ao8, co8, eo8⟩ := Kd.R_slice HO_8.out
                    subst eo8
                    obtain ⟨ad476, e476, hx476_0⟩ := Kd.at_int (Kd.R_reads' HO_8.out).2.2 x190_6 p476 q476
                    cases e476
                    replace p476 := eq_true p476
                    replace q476 := eq_true q476
                    refine start_ (n := 42) (S := fun w' => w'.cell? (ad475.add (x190_6).toNat) = some (.int .i64 (rd t467 x190_6)) ∧ w'.cell? (ad476.add (x190_6).toNat) = some (.int .i64 (rd t398 x190_6))) (ds := []) #[false, false, false, false, false, false, false, false, false, false, false, false, false, false, false, false, false, false, false, false, false, false, false, false, false, false, false, false, false, false, false, false, false, false, false, false, false, false, false, false, false, false] (by kernel_rfl) rfl rfl ⟨hx475_0, hx476_0⟩ (fun hHeld => ?_); refine with_tabW laws_FnCode.tab31 laws_FnCode.bits31 (fun HT_ HW_ => ?_)
                    generalize wr.drew = w102 at HO_6 HO_8 HO_22 HO_24 HO_27 HR419 HR430 HB hx475_0 hx476_0 hHeld ⊢
                    refine pure_ (i := 0) (N := some 193) (v := ?_) (a' := ?_) #[true, false, false, false, false, false, false, false, false, false, false, false, false, false, false, false, false, false, false, false, false, false, false, false, false, false, false, false, false, false, false, false, false, false, false, false, false, false, false, false, false, false] rfl rfl (any_of HT_.out (by kernel_rfl)) (fun _ _ _ h => h) (Or.inl ⟨by rfl, ?_⟩) ?_ ?_
                    rotate_left
                    ·intro w'
                     go_simp
                     with_reducible rfl
                    rotate_left
                    ·simp only [Act.put, List.setIfInBounds_toArray, List.set_cons_zero, List.set_cons_succ, i64_w, i32_w]
                     rfl
                    refine pure_ (i := 1) (N := some 194) (v := ?_) (a' := ?_) #[true, true, false, false, false, false, false, false, false, false, false, false, false, false, false, false, false, false, false, false, false, false, false, false, false, false, false, false, false, false, false, false, false, false, false, false, false, false, false, false, false, false] rfl rfl (any_of HT_.out (by kernel_rfl)) (fun _ _ _ h => h) (Or.inl ⟨by rfl, ?_⟩) ?_ ?_
                    rotate_left
                    ·intro w'
                     go_simp
                     with_reducible rfl
                    rotate_left
                    ·simp only [Act.put, List.setIfInBounds_toArray, List.set_cons_zero, List.set_cons_succ, i64_w, i32_w]
                     rfl
                    refine one_ (i := 2) (N := some 195) #[true, true, true, false, false, false, false, false, false, false, false, false, false, false, false, false, false, false, false, false, false, false, false, false, false, false, false, false, false, false, false, false, false, false, false, false, false, false, false, false, false, false] rfl rfl (one_of HT_.out (by kernel_rfl)) (by decide) (fun K hK => ?_)
                    refine goes_ Try.func15 (by kernel_rfl) rfl #[.slice Ao103 t453.length co103, .int .i64 x190_6] (by rfl) rfl rfl (by (try simp only [List.map_toArray, List.map_cons, List.map_nil]); first | done | rfl | (simp only [List.length_drop, List.length_take]; rfl)) ?_
                    with_reducible refine (laws_has.calls k6 _ _ t453 x190_6 true _ ?side1 ?side2 A94.out).mono ?_
                    (case side1 => repeat (first | exact (Kd.R_reads' HO_22.out).2.2 | (with_reducible refine Kd.C_alloc ?_ _) | (with_reducible refine Kd.C_drewN ?_ _) | (with_reducible refine Kd.C_drew ?_)))
                    (case side2 => exact (Kd.R_reads' HO_22.out).2.1)
                    rintro e w' ⟨rfl, ⟨nd, rfl⟩⟩
                    refine ⟨_, rfl, ?_⟩
                    obtain ⟨Ao104, co104, eo104⟩ := Kd.R_slice HO_8.out
                    (first | subst eo104 | (injection eo104 with f1_ f2_ f3_; have f4_ := f1_.symm; have f5_ := f3_.symm; clear f1_ f2_ f3_; subst f4_; subst f5_))
                    refine hK.out _ _ ⟨hHeld.1, hHeld.2⟩ (fun hHeld => ?_)
                    clear hK K
                    refine norm_ (a' := ?_) ?_ ?_
                    rotate_left
                    ·show Act.put _ (some 195) _ = _
                     simp only [Act.put, List.setIfInBounds_toArray, List.set_cons_zero, List.set_cons_succ, i64_w, i32_w]
                     rfl
                    refine pure_ (i := 3) (N := some 196) (v := ?_) (a' := ?_) #[true, true, true, true, false, false, false, false, false, false, false, false, false, false, false, false, false, false, false, false, false, false, false, false, false, false, false, false, false, false, false, false, false, false, false, false, false, false, false, false, false, false] rfl rfl (any_of HT_.out (by kernel_rfl)) (fun _ _ _ h => h) (Or.inl ⟨by rfl, ?_⟩) ?_ ?_
                    rotate_left
                    ·intro w'
                     go_simp
                     with_reducible rfl
                    rotate_left
                    ·simp only [Act.put, List.setIfInBounds_toArray, List.set_cons_zero, List.set_cons_succ, i64_w, i32_w]
                     rfl
                    refine pure_ (i := 4) (N := some 197) (v := ?_) (a' := ?_) #[true, true, true, true, true, false, false, false, false, false, false, false, false, false, false, false, false, false, false, false, false, false, false, false, false, false, false, false, false, false, false, false, false, false, false, false, false, false, false, false, false, false] rfl rfl (any_of HT_.out (by kernel_rfl)) (fun _ _ _ h => h) (Or.inl ⟨by rfl, ?_⟩) ?_ ?_
                    rotate_left
                    ·intro w'
                     go_simp
                     with_reducible rfl
                    rotate_left
                    ·simp only [Act.put, List.setIfInBounds_toArray, List.set_cons_zero, List.set_cons_succ, i64_w, i32_w]
                     rfl
                    refine pure_ (i := 5) (N := some 198) (v := ?_) (a' := ?_) #[true, true, true, true, true, true, false, false, false, false, false, false, false, false, false, false, false, false, false, false, false, false, false, false, false, false, false, false, false, false, false, false, false, false, false, false, false, false, false, false, false, false] rfl rfl (any_of HT_.out (by kernel_rfl)) (fun _ _ _ h => h) (Or.inl ⟨by rfl, ?_⟩) ?_ ?_
                    rotate_left
                    ·intro w'
                     go_simp
                     with_reducible rfl
                    rotate_left
                    ·simp only [Act.put, List.setIfInBounds_toArray, List.set_cons_zero, List.set_cons_succ, i64_w, i32_w]
                     rfl
                    refine pure_ (i := 6) (N := some 199) (v := ?_) (a' := ?_) #[true, true, true, true, true, true, true, false, false, false, false, false, false, false, false, false, false, false, false, false, false, false, false, false, false, false, false, false, false, false, false, false, false, false, false, false, false, false, false, false, false, false] rfl rfl (any_of HT_.out (by kernel_rfl)) (fun _ _ _ h => h) (Or.inl ⟨by rfl, ?_⟩) ?_ ?_
                    rotate_left
                    ·intro w'
                     go_simp
                     with_reducible rfl
                    rotate_left
                    ·simp only [Act.put, List.setIfInBounds_toArray, List.set_cons_zero, List.set_cons_succ, i64_w, i32_w]
                     rfl
                    refine pure_ (i := 8) (N := some 201) (v := ?_) (a' := ?_) #[true, true, true, true, true, true, true, false, true, false, false, false, false, false, false, false, false, false, false, false, false, false, false, false, false, false, false, false, false, false, false, false, false, false, false, false, false, false, false, false, false, false] rfl rfl (any_of HT_.out (by kernel_rfl)) (fun _ _ _ h => h) (Or.inl ⟨by rfl, ?_⟩) ?_ ?_
                    rotate_left
                    ·intro w'
                     go_simp
                     with_reducible rfl
                    rotate_left
                    ·simp only [Act.put, List.setIfInBounds_toArray, List.set_cons_zero, List.set_cons_succ, i64_w, i32_w]
                     rfl
                    refine pure_ (i := 9) (N := some 202) (v := ?_) (a' := ?_) #[true, true, true, true, true, true, true, false, true, true, false, false, false, false, false, false, false, false, false, false, false, false, false, false, false, false, false, false, false, false, false, false, false, false, false, false, false, false, false, false, false, false] rfl rfl (any_of HT_.out (by kernel_rfl)) (fun _ _ _ h => h) (Or.inl ⟨by rfl, ?_⟩) ?_ ?_
                    rotate_left
                    ·intro w'
                     go_simp
                     with_reducible rfl
                    rotate_left
                    ·simp only [Act.put, List.setIfInBounds_toArray, List.set_cons_zero, List.set_cons_succ, i64_w, i32_w]
                     rfl
                    refine pure_ (i := 10) (N := some 203) (v := ?_) (a' := ?_) #[true, true, true, true, true, true, true, false, true, true, true, false, false, false, false, false, false, false, false, false, false, false, false, false, false, false, false, false, false, false, false, false, false, false, false, false, false, false, false, false, false, false] rfl rfl (any_of HT_.out (by kernel_rfl)) (fun _ _ _ h => h) (Or.inl ⟨by rfl, ?_⟩) ?_ ?_
                    rotate_left
                    ·intro w'
                     go_simp
                     with_reducible rfl
                    rotate_left
                    ·simp only [Act.put, List.setIfInBounds_toArray, List.set_cons_zero, List.set_cons_succ, i64_w, i32_w]
                     rfl
                    refine take_ (i := 7) (N := some 200) (v := ?_) (a' := ?_) #[true, true, true, true, true, true, true, true, true, true, true, false, false, false, false, false, false, false, false, false, false, false, false, false, false, false, false, false, false, false, false, false, false, false, false, false, false, false, false, false, false, false] rfl rfl (take_ofW HT_.out HW_.out (by kernel_rfl)) (fun _ _ _ h => h) (Or.inl ⟨by rfl, ?_⟩) hHeld ?_ ?_
                    rotate_left
                    ·rintro w' ⟨s0, s1⟩
                     go_simp
                     with_reducible rfl
                    rotate_left
                    ·simp only [Act.put, List.setIfInBounds_toArray, List.set_cons_zero, List.set_cons_succ, i64_w, i32_w]
                     rfl
                    refine take_ (i := 11) (N := some 204) (v := ?_) (a' := ?_) #[true, true, true, true, true, true, true, true, true, true, true, true, false, false, false, false, false, false, false, false, false, false, false, false, false, false, false, false, false, false, false, false, false, false, false, false, false, false, false, false, false, false] rfl rfl (take_ofW HT_.out HW_.out (by kernel_rfl)) (fun _ _ _ h => h) (Or.inl ⟨by rfl, ?_⟩) hHeld ?_ ?_
                    rotate_left
                    ·rintro w' ⟨s0, s1⟩
                     go_simp
                     with_reducible rfl
                    rotate_left
                    ·simp only [Act.put, List.setIfInBounds_toArray, List.set_cons_zero, List.set_cons_succ, i64_w, i32_w]
                     rfl
                    refine pure_ (i := 12) (N := some 205) (v := ?_) (a' := ?_) #[true, true, true, true, true, true, true, true, true, true, true, true, true, false, false, false, false, false, false, false, false, false, false, false, false, false, false, false, false, false, false, false, false, false, false, false, false, false, false, false, false, false] rfl rfl (any_of HT_.out (by kernel_rfl)) (fun _ _ _ h => h) (Or.inl ⟨by rfl, ?_⟩) ?_ ?_
                    rotate_left
                    ·intro w'
                     go_simp
                     with_reducible rfl
                    rotate_left
                    ·simp only [Act.put, List.setIfInBounds_toArray, List.set_cons_zero, List.set_cons_succ, i64_w, i32_w]
                     rfl
                    refine pure_ (i := 13) (N := some 206) (v := ?_) (a' := ?_) #[true, true, true, true, true, true, true, true, true, true, true, true, true, true, false, false, false, false, false, false, false, false, false, false, false, false, false, false, false, false, false, false, false, false, false, false, false, false, false, false, false, false] rfl rfl (any_of HT_.out (by kernel_rfl)) (fun _ _ _ h => h) (Or.inl ⟨by rfl, ?_⟩) ?_ ?_
                    rotate_left
                    ·intro w'
                     go_simp
                     with_reducible rfl
                    rotate_left
                    ·simp only [Act.put, List.setIfInBounds_toArray, List.set_cons_zero, List.set_cons_succ, i64_w, i32_w]
                     rfl
                    refine pure_ (i := 14) (N := some 207) (v := ?_) (a' := ?_) #[true, true, true, true, true, true, true, true, true, true, true, true, true, true, true, false, false, false, false, false, false, false, false, false, false, false, false, false, false, false, false, false, false, false, false, false, false, false, false, false, false, false] rfl rfl (any_of HT_.out (by kernel_rfl)) (fun _ _ _ h => h) (Or.inl ⟨by rfl, ?_⟩) ?_ ?_
                    rotate_left
                    ·intro w'
                     go_simp
                     with_reducible rfl
                    rotate_left
                    ·simp only [Act.put, List.setIfInBounds_toArray, List.set_cons_zero, List.set_cons_succ, i64_w, i32_w]
                     rfl
                    refine pure_ (i := 15) (N := some 208) (v := ?_) (a' := ?_) #[true, true, true, true, true, true, true, true, true, true, true, true, true, true, true, true, false, false, false, false, false, false, false, false, false, false, false, false, false, false, false, false, false, false, false, false, false, false, false, false, false, false] rfl rfl (any_of HT_.out (by kernel_rfl)) (fun _ _ _ h => h) (Or.inl ⟨by rfl, ?_⟩) ?_ ?_
                    rotate_left
                    ·intro w'
                     go_simp
                     with_reducible rfl
                    rotate_left
                    ·simp only [Act.put, List.setIfInBounds_toArray, List.set_cons_zero, List.set_cons_succ, i64_w, i32_w]
                     rfl
                    refine pure_ (i := 16) (N := some 209) (v := ?_) (a' := ?_) #[true, true, true, true, true, true, true, true, true, true, true, true, true, true, true, true, true, false, false, false, false, false, false, false, false, false, false, false, false, false, false, false, false, false, false, false, false, false, false, false, false, false] rfl rfl (any_of HT_.out (by kernel_rfl)) (fun _ _ _ h => h) (Or.inl ⟨by rfl, ?_⟩) ?_ ?_
                    rotate_left
                    ·intro w'
                     go_simp
                     with_reducible rfl
                    rotate_left
                    ·simp only [Act.put, List.setIfInBounds_toArray, List.set_cons_zero, List.set_cons_succ, i64_w, i32_w]
                     rfl
                    refine one_ (i := 17) (N := some 210) #[true, true, true, true, true, true, true, true, true, true, true, true, true, true, true, true, true, true, false, false, false, false, false, false, false, false, false, false, false, false, false, false, false, false, false, false, false, false, false, false, false, false] rfl rfl (one_of HT_.out (by kernel_rfl)) (by decide) (fun K hK => ?_)
                    refine goes_ Try.func15 (by kernel_rfl) rfl #[.slice Ao103 t453.length co103, .int .i64 x190_6] (by rfl) rfl rfl (by (try simp only [List.map_toArray, List.map_cons, List.map_nil]); first | done | rfl | (simp only [List.length_drop, List.length_take]; rfl)) ?_
                    with_reducible refine (laws_has.calls k6 _ _ t453 x190_6 true _ ?side1 ?side2 A100.out).mono ?_
                    (case side1 => repeat (first | exact (Kd.R_reads' HO_22.out).2.2 | (with_reducible refine Kd.C_alloc ?_ _) | (with_reducible refine Kd.C_drewN ?_ _) | (with_reducible refine Kd.C_drew ?_)))
                    (case side2 => exact (Kd.R_reads' HO_22.out).2.1)
                    rintro e w' ⟨rfl, ⟨nd, rfl⟩⟩
                    refine ⟨_, rfl, ?_⟩
                    refine hK.out _ _ ⟨hHeld.1, hHeld.2⟩ (fun hHeld => ?_)
                    clear hK K
                    refine norm_ (a' := ?_) ?_ ?_
                    rotate_left
                    ·show Act.put _ (some 210) _ = _
                     simp only [Act.put, List.setIfInBounds_toArray, List.set_cons_zero, List.set_cons_succ, i64_w, i32_w]
                     rfl
                    refine pure_ (i := 18) (N := some 211) (v := ?_) (a' := ?_) #[true, true, true, true, true, true, true, true, true, true, true, true, true, true, true, true, true, true, true, false, false, false, false, false, false, false, false, false, false, false, false, false, false, false, false, false, false, false, false, false, false, false] rfl rfl (any_of HT_.out (by kernel_rfl)) (fun _ _ _ h => h) (Or.inl ⟨by rfl, ?_⟩) ?_ ?_
                    rotate_left
                    ·intro w'
                     go_simp
                     with_reducible rfl
                    rotate_left
                    ·simp only [Act.put, List.setIfInBounds_toArray, List.set_cons_zero, List.set_cons_succ, i64_w, i32_w]
                     rfl
                    refine pure_ (i := 19) (N := some 212) (v := ?_) (a' := ?_) #[true, true, true, true, true, true, true, true, true, true, true, true, true, true, true, true, true, true, true, true, false, false, false, false, false, false, false, false, false, false, false, false, false, false, false, false, false, false, false, false, false, false] rfl rfl (any_of HT_.out (by kernel_rfl)) (fun _ _ _ h => h) (Or.inl ⟨by rfl, ?_⟩) ?_ ?_
                    rotate_left
                    ·intro w'
                     go_simp
                     with_reducible rfl
                    rotate_left
                    ·simp only [Act.put, List.setIfInBounds_toArray, List.set_cons_zero, List.set_cons_succ, i64_w, i32_w]
                     rfl
                    refine pure_ (i := 20) (N := some 213) (v := undef) (a' := ?_) #[true, true, true, true, true, true, true, true, true, true, true, true, true, true, true, true, true, true, true, true, true, false, false, false, false, false, false, false, false, false, false, false, false, false, false, false, false, false, false, false, false, false] rfl rfl (any_of HT_.out (by kernel_rfl)) (fun _ _ _ h => h) (Or.inr ⟨by rfl, rfl⟩) ?_ ?_
                    rotate_left
                    ·simp only [Act.put, List.setIfInBounds_toArray, List.set_cons_zero, List.set_cons_succ, i64_w, i32_w]
                     rfl
                    refine pure_ (i := 21) (N := some 214) (v := undef) (a' := ?_) #[true, true, true, true, true, true, true, true, true, true, true, true, true, true, true, true, true, true, true, true, true, true, false, false, false, false, false, false, false, false, false, false, false, false, false, false, false, false, false, false, false, false] rfl rfl (any_of HT_.out (by kernel_rfl)) (fun _ _ _ h => h) (Or.inr ⟨by rfl, rfl⟩) ?_ ?_
                    rotate_left
                    ·simp only [Act.put, List.setIfInBounds_toArray, List.set_cons_zero, List.set_cons_succ, i64_w, i32_w]
                     rfl
                    refine pure_ (i := 22) (N := some 215) (v := undef) (a' := ?_) #[true, true, true, true, true, true, true, true, true, true, true, true, true, true, true, true, true, true, true, true, true, true, true, false, false, false, false, false, false, false, false, false, false, false, false, false, false, false, false, false, false, false] rfl rfl (any_of HT_.out (by kernel_rfl)) (fun _ _ _ h => h) (Or.inr ⟨by rfl, rfl⟩) ?_ ?_
                    rotate_left
                    ·simp only [Act.put, List.setIfInBounds_toArray, List.set_cons_zero, List.set_cons_succ, i64_w, i32_w]
                     rfl
                    refine pure_ (i := 23) (N := some 216) (v := undef) (a' := ?_) #[true, true, true, true, true, true, true, true, true, true, true, true, true, true, true, true, true, true, true, true, true, true, true, true, false, false, false, false, false, false, false, false, false, false, false, false, false, false, false, false, false, false] rfl rfl (any_of HT_.out (by kernel_rfl)) (fun _ _ _ h => h) (Or.inr ⟨by rfl, rfl⟩) ?_ ?_
                    rotate_left
                    ·simp only [Act.put, List.setIfInBounds_toArray, List.set_cons_zero, List.set_cons_succ, i64_w, i32_w]
                     rfl
                    refine pure_ (i := 24) (N := some 217) (v := undef) (a' := ?_) #[true, true, true, true, true, true, true, true, true, true, true, true, true, true, true, true, true, true, true, true, true, true, true, true, true, false, false, false, false, false, false, false, false, false, false, false, false, false, false, false, false, false] rfl rfl (any_of HT_.out (by kernel_rfl)) (fun _ _ _ h => h) (Or.inr ⟨by rfl, rfl⟩) ?_ ?_
                    rotate_left
                    ·simp only [Act.put, List.setIfInBounds_toArray, List.set_cons_zero, List.set_cons_succ, i64_w, i32_w]
                     rfl
                    refine pure_ (i := 25) (N := some 218) (v := undef) (a' := ?_) #[true, true, true, true, true, true, true, true, true, true, true, true, true, true, true, true, true, true, true, true, true, true, true, true, true, true, false, false, false, false, false, false, false, false, false, false, false, false, false, false, false, false] rfl rfl (any_of HT_.out (by kernel_rfl)) (fun _ _ _ h => h) (Or.inr ⟨by rfl, rfl⟩) ?_ ?_
                    rotate_left
                    ·simp only [Act.put, List.setIfInBounds_toArray, List.set_cons_zero, List.set_cons_succ, i64_w, i32_w]
                     rfl
                    refine pure_ (i := 26) (N := some 219) (v := undef) (a' := ?_) #[true, true, true, true, true, true, true, true, true, true, true, true, true, true, true, true, true, true, true, true, true, true, true, true, true, true, true, false, false, false, false, false, false, false, false, false, false, false, false, false, false, false] rfl rfl (any_of HT_.out (by kernel_rfl)) (fun _ _ _ h => h) (Or.inr ⟨by rfl, rfl⟩) ?_ ?_
                    rotate_left
                    ·simp only [Act.put, List.setIfInBounds_toArray, List.set_cons_zero, List.set_cons_succ, i64_w, i32_w]
                     rfl
                    refine pure_ (i := 27) (N := some 220) (v := undef) (a' := ?_) #[true, true, true, true, true, true, true, true, true, true, true, true, true, true, true, true, true, true, true, true, true, true, true, true, true, true, true, true, false, false, false, false, false, false, false, false, false, false, false, false, false, false] rfl rfl (any_of HT_.out (by kernel_rfl)) (fun _ _ _ h => h) (Or.inr ⟨by rfl, rfl⟩) ?_ ?_
                    rotate_left
                    ·simp only [Act.put, List.setIfInBounds_toArray, List.set_cons_zero, List.set_cons_succ, i64_w, i32_w]
                     rfl
                    refine pure_ (i := 28) (N := some 221) (v := undef) (a' := ?_) #[true, true, true, true, true, true, true, true, true, true, true, true, true, true, true, true, true, true, true, true, true, true, true, true, true, true, true, true, true, false, false, false, false, false, false, false, false, false, false, false, false, false] rfl rfl (any_of HT_.out (by kernel_rfl)) (fun _ _ _ h => h) (Or.inr ⟨by rfl, rfl⟩) ?_ ?_
                    rotate_left
                    ·simp only [Act.put, List.setIfInBounds_toArray, List.set_cons_zero, List.set_cons_succ, i64_w, i32_w]
                     rfl
                    refine pure_ (i := 29) (N := some 222) (v := undef) (a' := ?_) #[true, true, true, true, true, true, true, true, true, true, true, true, true, true, true, true, true, true, true, true, true, true, true, true, true, true, true, true, true, true, false, false, false, false, false, false, false, false, false, false, false, false] rfl rfl (any_of HT_.out (by kernel_rfl)) (fun _ _ _ h => h) (Or.inr ⟨by rfl, rfl⟩) ?_ ?_
                    rotate_left
                    ·simp only [Act.put, List.setIfInBounds_toArray, List.set_cons_zero, List.set_cons_succ, i64_w, i32_w]
                     rfl
                    refine pure_ (i := 30) (N := some 223) (v := undef) (a' := ?_) #[true, true, true, true, true, true, true, true, true, true, true, true, true, true, true, true, true, true, true, true, true, true, true, true, true, true, true, true, true, true, true, false, false, false, false, false, false, false, false, false, false, false] rfl rfl (any_of HT_.out (by kernel_rfl)) (fun _ _ _ h => h) (Or.inr ⟨by rfl, rfl⟩) ?_ ?_
                    rotate_left
                    ·simp only [Act.put, List.setIfInBounds_toArray, List.set_cons_zero, List.set_cons_succ, i64_w, i32_w]
                     rfl
                    refine pure_ (i := 31) (N := some 224) (v := undef) (a' := ?_) #[true, true, true, true, true, true, true, true, true, true, true, true, true, true, true, true, true, true, true, true, true, true, true, true, true, true, true, true, true, true, true, true, false, false, false, false, false, false, false, false, false, false] rfl rfl (any_of HT_.out (by kernel_rfl)) (fun _ _ _ h => h) (Or.inr ⟨by rfl, rfl⟩) ?_ ?_
                    rotate_left
                    ·simp only [Act.put, List.setIfInBounds_toArray, List.set_cons_zero, List.set_cons_succ, i64_w, i32_w]
                     rfl
                    refine pure_ (i := 32) (N := some 225) (v := undef) (a' := ?_) #[true, true, true, true, true, true, true, true, true, true, true, true, true, true, true, true, true, true, true, true, true, true, true, true, true, true, true, true, true, true, true, true, true, false, false, false, false, false, false, false, false, false] rfl rfl (any_of HT_.out (by kernel_rfl)) (fun _ _ _ h => h) (Or.inr ⟨by rfl, rfl⟩) ?_ ?_
                    rotate_left
                    ·simp only [Act.put, List.setIfInBounds_toArray, List.set_cons_zero, List.set_cons_succ, i64_w, i32_w]
                     rfl
                    refine pure_ (i := 33) (N := some 226) (v := undef) (a' := ?_) #[true, true, true, true, true, true, true, true, true, true, true, true, true, true, true, true, true, true, true, true, true, true, true, true, true, true, true, true, true, true, true, true, true, true, false, false, false, false, false, false, false, false] rfl rfl (any_of HT_.out (by kernel_rfl)) (fun _ _ _ h => h) (Or.inr ⟨by rfl, rfl⟩) ?_ ?_
                    rotate_left
                    ·simp only [Act.put, List.setIfInBounds_toArray, List.set_cons_zero, List.set_cons_succ, i64_w, i32_w]
                     rfl
                    refine pure_ (i := 34) (N := some 227) (v := undef) (a' := ?_) #[true, true, true, true, true, true, true, true, true, true, true, true, true, true, true, true, true, true, true, true, true, true, true, true, true, true, true, true, true, true, true, true, true, true, true, false, false, false, false, false, false, false] rfl rfl (any_of HT_.out (by kernel_rfl)) (fun _ _ _ h => h) (Or.inr ⟨by rfl, rfl⟩) ?_ ?_
                    rotate_left
                    ·simp only [Act.put, List.setIfInBounds_toArray, List.set_cons_zero, List.set_cons_succ, i64_w, i32_w]
                     rfl
                    refine pure_ (i := 35) (N := some 228) (v := undef) (a' := ?_) #[true, true, true, true, true, true, true, true, true, true, true, true, true, true, true, true, true, true, true, true, true, true, true, true, true, true, true, true, true, true, true, true, true, true, true, true, false, false, false, false, false, false] rfl rfl (any_of HT_.out (by kernel_rfl)) (fun _ _ _ h => h) (Or.inr ⟨by rfl, rfl⟩) ?_ ?_
                    rotate_left
                    ·simp only [Act.put, List.setIfInBounds_toArray, List.set_cons_zero, List.set_cons_succ, i64_w, i32_w]
                     rfl
                    refine pure_ (i := 36) (N := some 229) (v := undef) (a' := ?_) #[true, true, true, true, true, true, true, true, true, true, true, true, true, true, true, true, true, true, true, true, true, true, true, true, true, true, true, true, true, true, true, true, true, true, true, true, true, false, false, false, false, false] rfl rfl (any_of HT_.out (by kernel_rfl)) (fun _ _ _ h => h) (Or.inr ⟨by rfl, rfl⟩) ?_ ?_
                    rotate_left
                    ·simp only [Act.put, List.setIfInBounds_toArray, List.set_cons_zero, List.set_cons_succ, i64_w, i32_w]
                     rfl
                    refine pure_ (i := 37) (N := some 230) (v := undef) (a' := ?_) #[true, true, true, true, true, true, true, true, true, true, true, true, true, true, true, true, true, true, true, true, true, true, true, true, true, true, true, true, true, true, true, true, true, true, true, true, true, true, false, false, false, false] rfl rfl (any_of HT_.out (by kernel_rfl)) (fun _ _ _ h => h) (Or.inr ⟨by rfl, rfl⟩) ?_ ?_
                    rotate_left
                    ·simp only [Act.put, List.setIfInBounds_toArray, List.set_cons_zero, List.set_cons_succ, i64_w, i32_w]
                     rfl
                    refine pure_ (i := 38) (N := some 231) (v := undef) (a' := ?_) #[true, true, true, true, true, true, true, true, true, true, true, true, true, true, true, true, true, true, true, true, true, true, true, true, true, true, true, true, true, true, true, true, true, true, true, true, true, true, true, false, false, false] rfl rfl (any_of HT_.out (by kernel_rfl)) (fun _ _ _ h => h) (Or.inr ⟨by rfl, rfl⟩) ?_ ?_
                    rotate_left
                    ·simp only [Act.put, List.setIfInBounds_toArray, List.set_cons_zero, List.set_cons_succ, i64_w, i32_w]
                     rfl
                    refine pure_ (i := 39) (N := some 232) (v := undef) (a' := ?_) #[true, true, true, true, true, true, true, true, true, true, true, true, true, true, true, true, true, true, true, true, true, true, true, true, true, true, true, true, true, true, true, true, true, true, true, true, true, true, true, true, false, false] rfl rfl (any_of HT_.out (by kernel_rfl)) (fun _ _ _ h => h) (Or.inr ⟨by rfl, rfl⟩) ?_ ?_
                    rotate_left
                    ·simp only [Act.put, List.setIfInBounds_toArray, List.set_cons_zero, List.set_cons_succ, i64_w, i32_w]
                     rfl
                    refine pure_ (i := 40) (N := some 233) (v := ?_) (a' := ?_) #[true, true, true, true, true, true, true, true, true, true, true, true, true, true, true, true, true, true, true, true, true, true, true, true, true, true, true, true, true, true, true, true, true, true, true, true, true, true, true, true, true, false] rfl rfl (any_of HT_.out (by kernel_rfl)) (fun _ _ _ h => h) (Or.inl ⟨by rfl, ?_⟩) ?_ ?_
                    rotate_left
                    ·intro w'
                     go_simp
                     with_reducible rfl
                    rotate_left
                    ·simp only [Act.put, List.setIfInBounds_toArray, List.set_cons_zero, List.set_cons_succ, i64_w, i32_w]
                     rfl
                    refine pure_ (i := 41) (N := some 234) (v := ?_) (a' := ?_) #[true, true, true, true, true, true, true, true, true, true, true, true, true, true, true, true, true, true, true, true, true, true, true, true, true, true, true, true, true, true, true, true, true, true, true, true, true, true, true, true, true, true] rfl rfl (any_of HT_.out (by kernel_rfl)) (fun _ _ _ h => h) (Or.inl ⟨by rfl, ?_⟩) ?_ ?_
                    rotate_left
                    ·intro w'
                     go_simp
                     with_reducible rfl
                    rotate_left
                    ·simp only [Act.put, List.setIfInBounds_toArray, List.set_cons_zero, List.set_cons_succ, i64_w, i32_w]
                     rfl
                    refine done_ (done_of HT_.out (by kernel_rfl)) ?_
                    try go_wp2
                    go_roundg k6
                    case measure => have := HJ6.out; have := HJ37.out; have := HJ63.out; have := HK4.out; have := HJ84.out; have := HK6.out; omega
                    case rel => exact ⟨(wrap64 (x190_6 + 1)), (by first | rfl | (simp; done) | (simp [*]; done)), H', ⟨by have := HJ6.out; have := HJ37.out; have := HJ63.out; have := HK4.out; have := HJ84.out; have := HK6.out; omega⟩, ⟨by (try simp only [hl24_4]); (with_reducible repeat (first | apply Kd.R_alloc | apply Kd.R_drewN | apply Kd.R_drew)); exact HO_6.out⟩, ⟨by (try simp only [hl24_4]); (with_reducible repeat (first | apply Kd.R_alloc | apply Kd.R_drewN | apply Kd.R_drew)); exact HO_8.out⟩, ⟨by (try simp only [hl24_4]); (with_reducible repeat (first | apply Kd.R_alloc | apply Kd.R_drewN | apply Kd.R_drew)); exact HO_22.out⟩, ⟨by (try simp only [hl24_4]); (with_reducible repeat (first | apply Kd.R_alloc | apply Kd.R_drewN | apply Kd.R_drew)); exact HO_24.out⟩, ⟨by (try simp only [hl24_4]); (with_reducible repeat (first | apply Kd.R_alloc | apply Kd.R_drewN | apply Kd.R_drew)); exact HO_27.out⟩, ⟨trivial⟩, ⟨trivial⟩, ⟨by repeat (first | (with_reducible first | exact HB.out | apply below_alloc | apply pw_below_drewN | apply below_drew1) | exact HB.out)⟩⟩
                   ·replace c101 := Bool.eq_false_iff.mpr c101
                    subst c101
                    have H1 : (if x190_6 < (x24_4.length : Int) then (if (rd t467 x190_6) = (rd x24_4 x190_6) then (if x190_6 < (t392.length : Int) then (if (rd t398 x190_6) = (rd t392 x190_6) then (laws_FnCode.l1 k6 l1 t392 t398 t453 x24_4 t467 (t467.length : Int) (wrap64 (x190_6 + 1))) else (some false)) else (none)) else (some false)) else (none)) = some true := by rw [if_neg (show ¬ (false = true) by decide)] at H; exact H
                    clear H
                    have H := H1
                    clear H1
                    by_cases c105 : x190_6 < (x24_4.length : Int)
                    rotate_left
                    ·rw [if_neg c105] at H
                     exact absurd H (by simp)
                    rw [if_pos c105] at H
                    have c105b0 : decide (x190_6 < (x24_4.length : Int)) = true := decide_eq_true c105
                    clear c105
                    by_cases c106 : (rd t467 x190_6) = (rd x24_4 x190_6)
                    rotate_left
                    ·rw [if_neg c106] at H
                     have c106b0 : ((rd t467 x190_6) == (rd x24_4 x190_6)) = false := beq_eq_false_iff_ne.mpr c106
                     have c106b1 : ((rd t467 x190_6) != (rd x24_4 x190_6)) = true := bne_iff_ne.mpr c106
                     exact absurd H (by simp)
                    rw [if_pos c106] at H
                    have c106b0 : ((rd t467 x190_6) == (rd x24_4 x190_6)) = true := beq_iff_eq.mpr c106
                    have c106b1 : ((rd t467 x190_6) != (rd x24_4 x190_6)) = false := bne_eq_false_iff_eq.mpr c106
                    clear c106
                    by_cases c107 : x190_6 < (t392.length : Int)
                    rotate_left
                    ·rw [if_neg c107] at H
                     exact absurd H (by simp)
                    rw [if_pos c107] at H
                    have c107b0 : decide (x190_6 < (t392.length : Int)) = true := decide_eq_true c107
                    clear c107
                    by_cases c108 : (rd t398 x190_6) = (rd t392 x190_6)
                    rotate_left
                    ·rw [if_neg c108] at H
                     have c108b0 : ((rd t398 x190_6) == (rd t392 x190_6)) = false := beq_eq_false_iff_ne.mpr c108
                     have c108b1 : ((rd t398 x190_6) != (rd t392 x190_6)) = true := bne_iff_ne.mpr c108
                     exact absurd H (by simp)
                    rw [if_pos c108] at H
                    have c108b0 : ((rd t398 x190_6) == (rd t392 x190_6)) = true := beq_iff_eq.mpr c108
                    have c108b1 : ((rd t398 x190_6) != (rd t392 x190_6)) = false := bne_eq_false_iff_eq.mpr c108
                    clear c108
                    have H' := Aside0.mk H
                    clear H
                    try go_wp2
                    exact absurd (A94.out.symm.trans A100.out) (by simp)
                  ·replace c95 := Bool.eq_false_iff.mpr c95
                   subst c95
                   have H1 : ((laws_has.f k6 t453 x190_6).bind fun t482 => (if t482 = true then (laws_FnCode.l1 k6 l1 t392 t398 t453 x24_4 t467 (t467.length : Int) (wrap64 (x190_6 + 1))) else (if 0 ≤ x190_6 then (if x190_6 < (t467.length : Int) then (if x190_6 < (x24_4.length : Int) then (if (rd t467 x190_6) = (rd x24_4 x190_6) then (if x190_6 < (t398.length : Int) then (if x190_6 < (t392.length : Int) then (if (rd t398 x190_6) = (rd t392 x190_6) then (laws_FnCode.l1 k6 l1 t392 t398 t453 x24_4 t467 (t467.length : Int) (wrap64 (x190_6 + 1))) else (some false)) else (none)) else (none)) else (some false)) else (none)) else (none)) else (none)))) = some true := by rw [if_neg (show ¬ (false = true) by decide)] at H; exact H
                   clear H
                   have H := H1
                   clear H1
                   replace H := Option.bind_eq_some_iff.mp H
                   obtain ⟨t482, A1120, H⟩ := H
                   replace H : (if t482 = true then (laws_FnCode.l1 k6 l1 t392 t398 t453 x24_4 t467 (t467.length : Int) (wrap64 (x190_6 + 1))) else (if 0 ≤ x190_6 then (if x190_6 < (t467.length : Int) then (if x190_6 < (x24_4.length : Int) then (if (rd t467 x190_6) = (rd x24_4 x190_6) then (if x190_6 < (t398.length : Int) then (if x190_6 < (t392.length : Int) then (if (rd t398 x190_6) = (rd t392 x190_6) then (laws_FnCode.l1 k6 l1 t392 t398 t453 x24_4 t467 (t467.length : Int) (wrap64 (x190_6 + 1))) else (some false)) else (none)) else (none)) else (some false)) else (none)) else (none)) else (none))) = some true := H
                   have A112 := Aside0.mk A1120
                   clear A1120
                   by_cases c113 : t482 = true
                   ·subst c113
                    have H1 : (laws_FnCode.l1 k6 l1 t392 t398 t453 x24_4 t467 (t467.length : Int) (wrap64 (x190_6 + 1))) = some true := by rw [if_pos rfl] at H; exact H
                    clear H
                    have H := H1
                    clear H1
                    have H' := Aside0.mk H
                    clear H
                    try go_wp2
                    exact absurd (A112.out.symm.trans A94.out) (by simp)
                   ·replace c113 := Bool.eq_false_iff.mpr c113
                    subst c113
                    have H1 : (if 0 ≤ x190_6 then (if x190_6 < (t467.length : Int) then (if x190_6 < (x24_4.length : Int) then (if (rd t467 x190_6) = (rd x24_4 x190_6) then (if x190_6 < (t398.length : Int) then (if x190_6 < (t392.length : Int) then (if (rd t398 x190_6) = (rd t392 x190_6) then (laws_FnCode.l1 k6 l1 t392 t398 t453 x24_4 t467 (t467.length : Int) (wrap64 (x190_6 + 1))) else (some false)) else (none)) else (none)) else (some false)) else (none)) else (none)) else (none)) = some true := by rw [if_neg (show ¬ (false = true) by decide)] at H; exact H
                    clear H
                    have H := H1
                    clear H1
                    by_cases c116 : 0 ≤ x190_6
                    rotate_left
                    ·rw [if_neg c116] at H
                     exact absurd H (by simp)
                    rw [if_pos c116] at H
                    have c116b0 : decide (0 ≤ x190_6) = true := decide_eq_true c116
                    clear c116
                    by_cases c117 : x190_6 < (t467.length : Int)
                    rotate_left
                    ·rw [if_neg c117] at H
                     exact absurd H (by simp)
                    rw [if_pos c117] at H
                    have c117b0 : decide (x190_6 < (t467.length : Int)) = true := decide_eq_true c117
                    clear c117
                    by_cases c118 : x190_6 < (x24_4.length : Int)
                    rotate_left
                    ·rw [if_neg c118] at H
                     exact absurd H (by simp)
                    rw [if_pos c118] at H
                    have c118b0 : decide (x190_6 < (x24_4.length : Int)) = true := decide_eq_true c118
                    clear c118
                    by_cases c119 : (rd t467 x190_6) = (rd x24_4 x190_6)
                    rotate_left
                    ·rw [if_neg c119] at H
                     have c119b0 : ((rd t467 x190_6) == (rd x24_4 x190_6)) = false := beq_eq_false_iff_ne.mpr c119
                     have c119b1 : ((rd t467 x190_6) != (rd x24_4 x190_6)) = true := bne_iff_ne.mpr c119
                     exact absurd H (by simp)
                    rw [if_pos c119] at H
                    have c119b0 : ((rd t467 x190_6) == (rd x24_4 x190_6)) = true := beq_iff_eq.mpr c119
                    have c119b1 : ((rd t467 x190_6) != (rd x24_4 x190_6)) = false := bne_eq_false_iff_eq.mpr c119
                    clear c119
                    by_cases c120 : x190_6 < (t398.length : Int)
                    rotate_left
                    ·rw [if_neg c120] at H
                     exact absurd H (by simp)
                    rw [if_pos c120] at H
                    have c120b0 : decide (x190_6 < (t398.length : Int)) = true := decide_eq_true c120
                    clear c120
                    by_cases c121 : x190_6 < (t392.length : Int)
                    rotate_left
                    ·rw [if_neg c121] at H
                     exact absurd H (by simp)
                    rw [if_pos c121] at H
                    have c121b0 : decide (x190_6 < (t392.length : Int)) = true := decide_eq_true c121
                    clear c121
                    by_cases c122 : (rd t398 x190_6) = (rd t392 x190_6)
                    rotate_left
                    ·rw [if_neg c122] at H
                     have c122b0 : ((rd t398 x190_6) == (rd t392 x190_6)) = false := beq_eq_false_iff_ne.mpr c122
                     have c122b1 : ((rd t398 x190_6) != (rd t392 x190_6)) = true := bne_iff_ne.mpr c122
                     exact absurd H (by simp)
                    rw [if_pos c122] at H
                    have c122b0 : ((rd t398 x190_6) == (rd t392 x190_6)) = true := beq_iff_eq.mpr c122
                    have c122b1 : ((rd t398 x190_6) != (rd t392 x190_6)) = false := bne_eq_false_iff_eq.mpr c122
                    clear c122
                    have H' := Aside0.mk H
                    clear H
                    try go_wp2
                    have n0_ := Aside0.mk (Kd.R_drew HO_6.out)
                    have n1_ := Aside0.mk (Kd.R_drew HO_8.out)
                    have n2_ := Aside0.mk (Kd.R_drew HO_22.out)
                    have n3_ := Aside0.mk (Kd.R_drew HO_24.out)
                    have n4_ := Aside0.mk (Kd.R_drew HO_27.out)
                    have n5_ := Aside0.mk trivial
                    have n6_ := Aside0.mk trivial
                    have n7_ := Aside0.mk (below_drew1 HB.out)
                    clear HO_6
                    clear HO_8
                    clear HO_22
                    clear HO_24
                    clear HO_27
                    clear HR419
                    clear HR430
                    clear HB
                    have HO_6 := n0_
                    have HO_8 := n1_
                    have HO_22 := n2_
                    have HO_24 := n3_
                    have HO_27 := n4_
                    have HR419 := n5_
                    have HR430 := n6_
                    have HB := n7_
                    clear n0_ n1_ n2_ n3_ n4_ n5_ n6_ n7_
                    obtain ⟨Ao124, co124, eo124⟩ := Kd.R_slice HO_22.out
                    (first | subst eo124 | (injection eo124 with f1_ f2_ f3_; have f4_ := f1_.symm; have f5_ := f3_.symm; clear f1_ f2_ f3_; subst f4_; subst f5_))
                    have p483 : 0 ≤ (x190_6 : Int) := of_decide_eq_true (by first | (with_reducible assumption) | assumption)
                    have q483 : x190_6 < (t467.length : Int) := of_decide_eq_true (by first | (with_reducible assumption) | assumption)
                    obtain ⟨ad483, e483, hx483_0⟩ := Kd.at_int (Kd.R_reads' HO_27.out).2.2 x190_6 p483 q483
                    cases e483
                    replace p483 := eq_true p483
                    replace q483 := eq_true q483
                    have p484 : 0 ≤ (x190_6 : Int) := of_decide_eq_true (by first | (with_reducible assumption) | assumption)
                    have q484 : x190_6 < (x24_4.length : Int) := of_decide_eq_true (by first | (with_reducible assumption) | assumption)
                    obtain ⟨ad484, e484, hx484_0⟩ := Kd.at_int (Kd.R_reads' HO_24.out).2.2 x190_6 p484 q484
                    cases e484
                    replace p484 := eq_true p484
                    replace q484 := eq_true q484
                    have p485 : 0 ≤ (x190_6 : Int) := of_decide_eq_true (by first | (with_reducible assumption) | assumption)
                    have q485 : x190_6 < (t398.length : Int) := of_decide_eq_true (by first | (with_reducible assumption) | assumption)
                    obtain ⟨Ao8, co8, eo8⟩ := Kd.R_slice HO_8.out
                    subst eo8
                    obtain ⟨ad485, e485, hx485_0⟩ := Kd.at_int (Kd.R_reads' HO_8.out).2.2 x190_6 p485 q485
                    cases e485
                    replace p485 := eq_true p485
                    replace q485 := eq_true q485
                    have p486 : 0 ≤ (x190_6 : Int) := of_decide_eq_true (by first | (with_reducible assumption) | assumption)
                    have q486 : x190_6 < (t392.length : Int) := of_decide_eq_true (by first | (with_reducible assumption) | assumption)
                    obtain ⟨ad486, e486, hx486_0⟩ := Kd.at_int (Kd.R_reads' HO_6.out).2.2 x190_6 p486 q486
                    cases e486
                    replace p486 := eq_true p486
                    replace q486 := eq_true q486
                    refine start_ (n := 42) (S := fun w' => w'.cell? (ad483.add (x190_6).toNat) = some (.int .i64 (rd t467 x190_6)) ∧ w'.cell? (ad484.add (x190_6).toNat) = some (.int .i64 (rd x24_4 x190_6)) ∧ w'.cell? (ad485.add (x190_6).toNat) = some (.int .i64 (rd t398 x190_6)) ∧ w'.cell? (ad486.add (x190_6).toNat) = some (.int .i64 (rd t392 x190_6))) (ds := []) #[false, false, false, false, false, false, false, false, false, false, false, false, false, false, false, false, false, false, false, false, false, false, false, false, false, false, false, false, false, false, false, false, false, false, false, false, false, false, false, false, false, false] (by kernel_rfl) rfl rfl ⟨hx483_0, hx484_0, hx485_0, hx486_0⟩ (fun hHeld => ?_); refine with_tabW laws_FnCode.tab31 laws_FnCode.bits31 (fun HT_ HW_ => ?_)
                    generalize wr.drew = w123 at HO_6 HO_8 HO_22 HO_24 HO_27 HR419 HR430 HB hx483_0 hx484_0 hx485_0 hx486_0 hHeld ⊢
                    refine pure_ (i := 0) (N := some 193) (v := ?_) (a' := ?_) #[true, false, false, false, false, false, false, false, false, false, false, false, false, false, false, false, false, false, false, false, false, false, false, false, false, false, false, false, false, false, false, false, false, false, false, false, false, false, false, false, false, false] rfl rfl (any_of HT_.out (by kernel_rfl)) (fun _ _ _ h => h) (Or.inl ⟨by rfl, ?_⟩) ?_ ?_
                    rotate_left
                    ·intro w'
                     go_simp
                     with_reducible rfl
                    rotate_left
                    ·simp only [Act.put, List.setIfInBounds_toArray, List.set_cons_zero, List.set_cons_succ, i64_w, i32_w]
                     rfl
                    refine pure_ (i := 1) (N := some 194) (v := ?_) (a' := ?_) #[true, true, false, false, false, false, false, false, false, false, false, false, false, false, false, false, false, false, false, false, false, false, false, false, false, false, false, false, false, false, false, false, false, false, false, false, false, false, false, false, false, false] rfl rfl (any_of HT_.out (by kernel_rfl)) (fun _ _ _ h => h) (Or.inl ⟨by rfl, ?_⟩) ?_ ?_
                    rotate_left
                    ·intro w'
                     go_simp
                     with_reducible rfl
                    rotate_left
                    ·simp only [Act.put, List.setIfInBounds_toArray, List.set_cons_zero, List.set_cons_succ, i64_w, i32_w]
                     rfl
                    refine one_ (i := 2) (N := some 195) #[true, true, true, false, false, false, false, false, false, false, false, false, false, false, false, false, false, false, false, false, false, false, false, false, false, false, false, false, false, false, false, false, false, false, false, false, false, false, false, false, false, false] rfl rfl (one_of HT_.out (by kernel_rfl)) (by decide) (fun K hK => ?_)
                    refine goes_ Try.func15 (by kernel_rfl) rfl #[.slice Ao124 t453.length co124, .int .i64 x190_6] (by rfl) rfl rfl (by (try simp only [List.map_toArray, List.map_cons, List.map_nil]); first | done | rfl | (simp only [List.length_drop, List.length_take]; rfl)) ?_
                    with_reducible refine (laws_has.calls k6 _ _ t453 x190_6 false _ ?side1 ?side2 A94.out).mono ?_
                    (case side1 => repeat (first | exact (Kd.R_reads' HO_22.out).2.2 | (with_reducible refine Kd.C_alloc ?_ _) | (with_reducible refine Kd.C_drewN ?_ _) | (with_reducible refine Kd.C_drew ?_)))
                    (case side2 => exact (Kd.R_reads' HO_22.out).2.1)
                    rintro e w' ⟨rfl, ⟨nd, rfl⟩⟩
                    refine ⟨_, rfl, ?_⟩
                    refine hK.out _ _ ⟨hHeld.1, hHeld.2.1, hHeld.2.2.1, hHeld.2.2.2⟩ (fun hHeld => ?_)
                    clear hK K
                    refine norm_ (a' := ?_) ?_ ?_
                    rotate_left
                    ·show Act.put _ (some 195) _ = _
                     simp only [Act.put, List.setIfInBounds_toArray, List.set_cons_zero, List.set_cons_succ, i64_w, i32_w]
                     rfl
                    refine pure_ (i := 3) (N := some 196) (v := ?_) (a' := ?_) #[true, true, true, true, false, false, false, false, false, false, false, false, false, false, false, false, false, false, false, false, false, false, false, false, false, false, false, false, false, false, false, false, false, false, false, false, false, false, false, false, false, false] rfl rfl (any_of HT_.out (by kernel_rfl)) (fun _ _ _ h => h) (Or.inl ⟨by rfl, ?_⟩) ?_ ?_
                    rotate_left
                    ·intro w'
                     go_simp
                     with_reducible rfl
                    rotate_left
                    ·simp only [Act.put, List.setIfInBounds_toArray, List.set_cons_zero, List.set_cons_succ, i64_w, i32_w]
                     rfl
                    refine pure_ (i := 4) (N := some 197) (v := undef) (a' := ?_) #[true, true, true, true, true, false, false, false, false, false, false, false, false, false, false, false, false, false, false, false, false, false, false, false, false, false, false, false, false, false, false, false, false, false, false, false, false, false, false, false, false, false] rfl rfl (any_of HT_.out (by kernel_rfl)) (fun _ _ _ h => h) (Or.inr ⟨by rfl, rfl⟩) ?_ ?_
                    rotate_left
                    ·simp only [Act.put, List.setIfInBounds_toArray, List.set_cons_zero, List.set_cons_succ, i64_w, i32_w]
                     rfl
                    refine pure_ (i := 5) (N := some 198) (v := undef) (a' := ?_) #[true, true, true, true, true, true, false, false, false, false, false, false, false, false, false, false, false, false, false, false, false, false, false, false, false, false, false, false, false, false, false, false, false, false, false, false, false, false, false, false, false, false] rfl rfl (any_of HT_.out (by kernel_rfl)) (fun _ _ _ h => h) (Or.inr ⟨by rfl, rfl⟩) ?_ ?_
                    rotate_left
                    ·simp only [Act.put, List.setIfInBounds_toArray, List.set_cons_zero, List.set_cons_succ, i64_w, i32_w]
                     rfl
                    refine pure_ (i := 6) (N := some 199) (v := undef) (a' := ?_) #[true, true, true, true, true, true, true, false, false, false, false, false, false, false, false, false, false, false, false, false, false, false, false, false, false, false, false, false, false, false, false, false, false, false, false, false, false, false, false, false, false, false] rfl rfl (any_of HT_.out (by kernel_rfl)) (fun _ _ _ h => h) (Or.inr ⟨by rfl, rfl⟩) ?_ ?_
                    rotate_left
                    ·simp only [Act.put, List.setIfInBounds_toArray, List.set_cons_zero, List.set_cons_succ, i64_w, i32_w]
                     rfl
                    refine pure_ (i := 7) (N := some 200) (v := undef) (a' := ?_) #[true, true, true, true, true, true, true, true, false, false, false, false, false, false, false, false, false, false, false, false, false, false, false, false, false, false, false, false, false, false, false, false, false, false, false, false, false, false, false, false, false, false] rfl rfl (any_of HT_.out (by kernel_rfl)) (fun _ _ _ h => h) (Or.inr ⟨by rfl, rfl⟩) ?_ ?_
                    rotate_left
                    ·simp only [Act.put, List.setIfInBounds_toArray, List.set_cons_zero, List.set_cons_succ, i64_w, i32_w]
                     rfl
                    refine pure_ (i := 8) (N := some 201) (v := undef) (a' := ?_) #[true, true, true, true, true, true, true, true, true, false, false, false, false, false, false, false, false, false, false, false, false, false, false, false, false, false, false, false, false, false, false, false, false, false, false, false, false, false, false, false, false, false] rfl rfl (any_of HT_.out (by kernel_rfl)) (fun _ _ _ h => h) (Or.inr ⟨by rfl, rfl⟩) ?_ ?_
                    rotate_left
                    ·simp only [Act.put, List.setIfInBounds_toArray, List.set_cons_zero, List.set_cons_succ, i64_w, i32_w]
                     rfl
                    refine pure_ (i := 9) (N := some 202) (v := undef) (a' := ?_) #[true, true, true, true, true, true, true, true, true, true, false, false, false, false, false, false, false, false, false, false, false, false, false, false, false, false, false, false, false, false, false, false, false, false, false, false, false, false, false, false, false, false] rfl rfl (any_of HT_.out (by kernel_rfl)) (fun _ _ _ h => h) (Or.inr ⟨by rfl, rfl⟩) ?_ ?_
                    rotate_left
                    ·simp only [Act.put, List.setIfInBounds_toArray, List.set_cons_zero, List.set_cons_succ, i64_w, i32_w]
                     rfl
                    refine pure_ (i := 10) (N := some 203) (v := undef) (a' := ?_) #[true, true, true, true, true, true, true, true, true, true, true, false, false, false, false, false, false, false, false, false, false, false, false, false, false, false, false, false, false, false, false, false, false, false, false, false, false, false, false, false, false, false] rfl rfl (any_of HT_.out (by kernel_rfl)) (fun _ _ _ h => h) (Or.inr ⟨by rfl, rfl⟩) ?_ ?_
                    rotate_left
                    ·simp only [Act.put, List.setIfInBounds_toArray, List.set_cons_zero, List.set_cons_succ, i64_w, i32_w]
                     rfl
                    refine pure_ (i := 11) (N := some 204) (v := undef) (a' := ?_) #[true, true, true, true, true, true, true, true, true, true, true, true, false, false, false, false, false, false, false, false, false, false, false, false, false, false, false, false, false, false, false, false, false, false, false, false, false, false, false, false, false, false] rfl rfl (any_of HT_.out (by kernel_rfl)) (fun _ _ _ h => h) (Or.inr ⟨by rfl, rfl⟩) ?_ ?_
                    rotate_left
                    ·simp only [Act.put, List.setIfInBounds_toArray, List.set_cons_zero, List.set_cons_succ, i64_w, i32_w]
                     rfl
                    refine pure_ (i := 12) (N := some 205) (v := undef) (a' := ?_) #[true, true, true, true, true, true, true, true, true, true, true, true, true, false, false, false, false, false, false, false, false, false, false, false, false, false, false, false, false, false, false, false, false, false, false, false, false, false, false, false, false, false] rfl rfl (any_of HT_.out (by kernel_rfl)) (fun _ _ _ h => h) (Or.inr ⟨by rfl, rfl⟩) ?_ ?_
                    rotate_left
                    ·simp only [Act.put, List.setIfInBounds_toArray, List.set_cons_zero, List.set_cons_succ, i64_w, i32_w]
                     rfl
                    refine pure_ (i := 13) (N := some 206) (v := ?_) (a' := ?_) #[true, true, true, true, true, true, true, true, true, true, true, true, true, true, false, false, false, false, false, false, false, false, false, false, false, false, false, false, false, false, false, false, false, false, false, false, false, false, false, false, false, false] rfl rfl (any_of HT_.out (by kernel_rfl)) (fun _ _ _ h => h) (Or.inl ⟨by rfl, ?_⟩) ?_ ?_
                    rotate_left
                    ·intro w'
                     go_simp
                     with_reducible rfl
                    rotate_left
                    ·simp only [Act.put, List.setIfInBounds_toArray, List.set_cons_zero, List.set_cons_succ, i64_w, i32_w]
                     rfl
                    refine pure_ (i := 14) (N := some 207) (v := ?_) (a' := ?_) #[true, true, true, true, true, true, true, true, true, true, true, true, true, true, true, false, false, false, false, false, false, false, false, false, false, false, false, false, false, false, false, false, false, false, false, false, false, false, false, false, false, false] rfl rfl (any_of HT_.out (by kernel_rfl)) (fun _ _ _ h => h) (Or.inl ⟨by rfl, ?_⟩) ?_ ?_
                    rotate_left
                    ·intro w'
                     go_simp
                     with_reducible rfl
                    rotate_left
                    ·simp only [Act.put, List.setIfInBounds_toArray, List.set_cons_zero, List.set_cons_succ, i64_w, i32_w]
                     rfl
                    refine pure_ (i := 15) (N := some 208) (v := ?_) (a' := ?_) #[true, true, true, true, true, true, true, true, true, true, true, true, true, true, true, true, false, false, false, false, false, false, false, false, false, false, false, false, false, false, false, false, false, false, false, false, false, false, false, false, false, false] rfl rfl (any_of HT_.out (by kernel_rfl)) (fun _ _ _ h => h) (Or.inl ⟨by rfl, ?_⟩) ?_ ?_
                    rotate_left
                    ·intro w'
                     go_simp
                     with_reducible rfl
                    rotate_left
                    ·simp only [Act.put, List.setIfInBounds_toArray, List.set_cons_zero, List.set_cons_succ, i64_w, i32_w]
                     rfl
                    refine pure_ (i := 16) (N := some 209) (v := ?_) (a' := ?_) #[true, true, true, true, true, true, true, true, true, true, true, true, true, true, true, true, true, false, false, false, false, false, false, false, false, false, false, false, false, false, false, false, false, false, false, false, false, false, false, false, false, false] rfl rfl (any_of HT_.out (by kernel_rfl)) (fun _ _ _ h => h) (Or.inl ⟨by rfl, ?_⟩) ?_ ?_
                    rotate_left
                    ·intro w'
                     go_simp
                     with_reducible rfl
                    rotate_left
                    ·simp only [Act.put, List.setIfInBounds_toArray, List.set_cons_zero, List.set_cons_succ, i64_w, i32_w]
                     rfl
                    refine one_ (i := 17) (N := some 210) #[true, true, true, true, true, true, true, true, true, true, true, true, true, true, true, true, true, true, false, false, false, false, false, false, false, false, false, false, false, false, false, false, false, false, false, false, false, false, false, false, false, false] rfl rfl (one_of HT_.out (by kernel_rfl)) (by decide) (fun K hK => ?_)
                    refine goes_ Try.func15 (by kernel_rfl) rfl #[.slice Ao124 t453.length co124, .int .i64 x190_6] (by rfl) rfl rfl (by (try simp only [List.map_toArray, List.map_cons, List.map_nil]); first | done | rfl | (simp only [List.length_drop, List.length_take]; rfl)) ?_
                    with_reducible refine (laws_has.calls k6 _ _ t453 x190_6 false _ ?side1 ?side2 A112.out).mono ?_
                    (case side1 => repeat (first | exact (Kd.R_reads' HO_22.out).2.2 | (with_reducible refine Kd.C_alloc ?_ _) | (with_reducible refine Kd.C_drewN ?_ _) | (with_reducible refine Kd.C_drew ?_)))
                    (case side2 => exact (Kd.R_reads' HO_22.out).2.1)
                    rintro e w' ⟨rfl, ⟨nd, rfl⟩⟩
                    refine ⟨_, rfl, ?_⟩
                    obtain ⟨Ao125, co125, eo125⟩ := Kd.R_slice HO_8.out
                    (first | subst eo125 | (injection eo125 with f1_ f2_ f3_; have f4_ := f1_.symm; have f5_ := f3_.symm; clear f1_ f2_ f3_; subst f4_; subst f5_))
                    refine hK.out _ _ ⟨hHeld.1, hHeld.2.1, hHeld.2.2.1, hHeld.2.2.2⟩ (fun hHeld => ?_)
                    clear hK K
                    refine norm_ (a' := ?_) ?_ ?_
                    rotate_left
                    ·show Act.put _ (some 210) _ = _
                     simp only [Act.put, List.setIfInBounds_toArray, List.set_cons_zero, List.set_cons_succ, i64_w, i32_w]
                     rfl
                    refine pure_ (i := 18) (N := some 211) (v := ?_) (a' := ?_) #[true, true, true, true, true, true, true, true, true, true, true, true, true, true, true, true, true, true, true, false, false, false, false, false, false, false, false, false, false, false, false, false, false, false, false, false, false, false, false, false, false, false] rfl rfl (any_of HT_.out (by kernel_rfl)) (fun _ _ _ h => h) (Or.inl ⟨by rfl, ?_⟩) ?_ ?_
                    rotate_left
                    ·intro w'
                     go_simp
                     with_reducible rfl
                    rotate_left
                    ·simp only [Act.put, List.setIfInBounds_toArray, List.set_cons_zero, List.set_cons_succ, i64_w, i32_w]
                     rfl
                    refine pure_ (i := 19) (N := some 212) (v := ?_) (a' := ?_) #[true, true, true, true, true, true, true, true, true, true, true, true, true, true, true, true, true, true, true, true, false, false, false, false, false, false, false, false, false, false, false, false, false, false, false, false, false, false, false, false, false, false] rfl rfl (any_of HT_.out (by kernel_rfl)) (fun _ _ _ h => h) (Or.inl ⟨by rfl, ?_⟩) ?_ ?_
                    rotate_left
                    ·intro w'
                     go_simp
                     with_reducible rfl
                    rotate_left
                    ·simp only [Act.put, List.setIfInBounds_toArray, List.set_cons_zero, List.set_cons_succ, i64_w, i32_w]
                     rfl
                    refine pure_ (i := 20) (N := some 213) (v := ?_) (a' := ?_) #[true, true, true, true, true, true, true, true, true, true, true, true, true, true, true, true, true, true, true, true, true, false, false, false, false, false, false, false, false, false, false, false, false, false, false, false, false, false, false, false, false, false] rfl rfl (any_of HT_.out (by kernel_rfl)) (fun _ _ _ h => h) (Or.inl ⟨by rfl, ?_⟩) ?_ ?_
                    rotate_left
                    ·intro w'
                     go_simp
                     with_reducible rfl
                    rotate_left
                    ·simp only [Act.put, List.setIfInBounds_toArray, List.set_cons_zero, List.set_cons_succ, i64_w, i32_w]
                     rfl
                    refine pure_ (i := 21) (N := some 214) (v := ?_) (a' := ?_) #[true, true, true, true, true, true, true, true, true, true, true, true, true, true, true, true, true, true, true, true, true, true, false, false, false, false, false, false, false, false, false, false, false, false, false, false, false, false, false, false, false, false] rfl rfl (any_of HT_.out (by kernel_rfl)) (fun _ _ _ h => h) (Or.inl ⟨by rfl, ?_⟩) ?_ ?_
                    rotate_left
                    ·intro w'
                     go_simp
                     with_reducible rfl
                    rotate_left
                    ·simp only [Act.put, List.setIfInBounds_toArray, List.set_cons_zero, List.set_cons_succ, i64_w, i32_w]
                     rfl
                    refine pure_ (i := 22) (N := some 215) (v := ?_) (a' := ?_) #[true, true, true, true, true, true, true, true, true, true, true, true, true, true, true, true, true, true, true, true, true, true, true, false, false, false, false, false, false, false, false, false, false, false, false, false, false, false, false, false, false, false] rfl rfl (any_of HT_.out (by kernel_rfl)) (fun _ _ _ h => h) (Or.inl ⟨by rfl, ?_⟩) ?_ ?_
                    rotate_left
                    ·intro w'
                     go_simp
                     with_reducible rfl
                    rotate_left
                    ·simp only [Act.put, List.setIfInBounds_toArray, List.set_cons_zero, List.set_cons_succ, i64_w, i32_w]
                     rfl
                    refine pure_ (i := 24) (N := some 217) (v := ?_) (a' := ?_) #[true, true, true, true, true, true, true, true, true, true, true, true, true, true, true, true, true, true, true, true, true, true, true, false, true, false, false, false, false, false, false, false, false, false, false, false, false, false, false, false, false, false] rfl rfl (any_of HT_.out (by kernel_rfl)) (fun _ _ _ h => h) (Or.inl ⟨by rfl, ?_⟩) ?_ ?_
                    rotate_left
                    ·intro w'
                     go_simp
                     with_reducible rfl
                    rotate_left
                    ·simp only [Act.put, List.setIfInBounds_toArray, List.set_cons_zero, List.set_cons_succ, i64_w, i32_w]
                     rfl
                    refine pure_ (i := 25) (N := some 218) (v := ?_) (a' := ?_) #[true, true, true, true, true, true, true, true, true, true, true, true, true, true, true, true, true, true, true, true, true, true, true, false, true, true, false, false, false, false, false, false, false, false, false, false, false, false, false, false, false, false] rfl rfl (any_of HT_.out (by kernel_rfl)) (fun _ _ _ h => h) (Or.inl ⟨by rfl, ?_⟩) ?_ ?_
                    rotate_left
                    ·intro w'
                     go_simp
                     with_reducible rfl
                    rotate_left
                    ·simp only [Act.put, List.setIfInBounds_toArray, List.set_cons_zero, List.set_cons_succ, i64_w, i32_w]
                     rfl
                    refine pure_ (i := 26) (N := some 219) (v := ?_) (a' := ?_) #[true, true, true, true, true, true, true, true, true, true, true, true, true, true, true, true, true, true, true, true, true, true, true, false, true, true, true, false, false, false, false, false, false, false, false, false, false, false, false, false, false, false] rfl rfl (any_of HT_.out (by kernel_rfl)) (fun _ _ _ h => h) (Or.inl ⟨by rfl, ?_⟩) ?_ ?_
                    rotate_left
                    ·intro w'
                     go_simp
                     with_reducible rfl
                    rotate_left
                    ·simp only [Act.put, List.setIfInBounds_toArray, List.set_cons_zero, List.set_cons_succ, i64_w, i32_w]
                     rfl
                    refine take_ (i := 23) (N := some 216) (v := ?_) (a' := ?_) #[true, true, true, true, true, true, true, true, true, true, true, true, true, true, true, true, true, true, true, true, true, true, true, true, true, true, true, false, false, false, false, false, false, false, false, false, false, false, false, false, false, false] rfl rfl (take_ofW HT_.out HW_.out (by kernel_rfl)) (fun _ _ _ h => h) (Or.inl ⟨by rfl, ?_⟩) hHeld ?_ ?_
                    rotate_left
                    ·rintro w' ⟨s0, s1, s2, s3⟩
                     go_simp
                     with_reducible rfl
                    rotate_left
                    ·simp only [Act.put, List.setIfInBounds_toArray, List.set_cons_zero, List.set_cons_succ, i64_w, i32_w]
                     rfl
                    refine take_ (i := 27) (N := some 220) (v := ?_) (a' := ?_) #[true, true, true, true, true, true, true, true, true, true, true, true, true, true, true, true, true, true, true, true, true, true, true, true, true, true, true, true, false, false, false, false, false, false, false, false, false, false, false, false, false, false] rfl rfl (take_ofW HT_.out HW_.out (by kernel_rfl)) (fun _ _ _ h => h) (Or.inl ⟨by rfl, ?_⟩) hHeld ?_ ?_
                    rotate_left
                    ·rintro w' ⟨s0, s1, s2, s3⟩
                     go_simp
                     with_reducible rfl
                    rotate_left
                    ·simp only [Act.put, List.setIfInBounds_toArray, List.set_cons_zero, List.set_cons_succ, i64_w, i32_w]
                     rfl
                    refine pure_ (i := 28) (N := some 221) (v := ?_) (a' := ?_) #[true, true, true, true, true, true, true, true, true, true, true, true, true, true, true, true, true, true, true, true, true, true, true, true, true, true, true, true, true, false, false, false, false, false, false, false, false, false, false, false, false, false] rfl rfl (any_of HT_.out (by kernel_rfl)) (fun _ _ _ h => h) (Or.inl ⟨by rfl, ?_⟩) ?_ ?_
                    rotate_left
                    ·intro w'
                     go_simp
                     with_reducible rfl
                    rotate_left
                    ·simp only [Act.put, List.setIfInBounds_toArray, List.set_cons_zero, List.set_cons_succ, i64_w, i32_w]
                     rfl
                    refine pure_ (i := 29) (N := some 222) (v := ?_) (a' := ?_) #[true, true, true, true, true, true, true, true, true, true, true, true, true, true, true, true, true, true, true, true, true, true, true, true, true, true, true, true, true, true, false, false, false, false, false, false, false, false, false, false, false, false] rfl rfl (any_of HT_.out (by kernel_rfl)) (fun _ _ _ h => h) (Or.inl ⟨by rfl, ?_⟩) ?_ ?_
                    rotate_left
                    ·intro w'
                     go_simp
                     with_reducible rfl
                    rotate_left
                    ·simp only [Act.put, List.setIfInBounds_toArray, List.set_cons_zero, List.set_cons_succ, i64_w, i32_w]
                     rfl
                    refine pure_ (i := 30) (N := some 223) (v := ?_) (a' := ?_) #[true, true, true, true, true, true, true, true, true, true, true, true, true, true, true, true, true, true, true, true, true, true, true, true, true, true, true, true, true, true, true, false, false, false, false, false, false, false, false, false, false, false] rfl rfl (any_of HT_.out (by kernel_rfl)) (fun _ _ _ h => h) (Or.inl ⟨by rfl, ?_⟩) ?_ ?_
                    rotate_left
                    ·intro w'
                     go_simp
                     with_reducible rfl
                    rotate_left
                    ·simp only [Act.put, List.setIfInBounds_toArray, List.set_cons_zero, List.set_cons_succ, i64_w, i32_w]
                     rfl
                    refine pure_ (i := 31) (N := some 224) (v := ?_) (a' := ?_) #[true, true, true, true, true, true, true, true, true, true, true, true, true, true, true, true, true, true, true, true, true, true, true, true, true, true, true, true, true, true, true, true, false, false, false, false, false, false, false, false, false, false] rfl rfl (any_of HT_.out (by kernel_rfl)) (fun _ _ _ h => h) (Or.inl ⟨by rfl, ?_⟩) ?_ ?_
                    rotate_left
                    ·intro w'
                     go_simp
                     with_reducible rfl
                    rotate_left
                    ·simp only [Act.put, List.setIfInBounds_toArray, List.set_cons_zero, List.set_cons_succ, i64_w, i32_w]
                     rfl
                    refine pure_ (i := 32) (N := some 225) (v := ?_) (a' := ?_) #[true, true, true, true, true, true, true, true, true, true, true, true, true, true, true, true, true, true, true, true, true, true, true, true, true, true, true, true, true, true, true, true, true, false, false, false, false, false, false, false, false, false] rfl rfl (any_of HT_.out (by kernel_rfl)) (fun _ _ _ h => h) (Or.inl ⟨by rfl, ?_⟩) ?_ ?_
                    rotate_left
                    ·intro w'
                     go_simp
                     with_reducible rfl
                    rotate_left
                    ·simp only [Act.put, List.setIfInBounds_toArray, List.set_cons_zero, List.set_cons_succ, i64_w, i32_w]
                     rfl
                    refine pure_ (i := 34) (N := some 227) (v := ?_) (a' := ?_) #[true, true, true, true, true, true, true, true, true, true, true, true, true, true, true, true, true, true, true, true, true, true, true, true, true, true, true, true, true, true, true, true, true, false, true, false, false, false, false, false, false, false] rfl rfl (any_of HT_.out (by kernel_rfl)) (fun _ _ _ h => h) (Or.inl ⟨by rfl, ?_⟩) ?_ ?_
                    rotate_left
                    ·intro w'
                     go_simp
                     with_reducible rfl
                    rotate_left
                    ·simp only [Act.put, List.setIfInBounds_toArray, List.set_cons_zero, List.set_cons_succ, i64_w, i32_w]
                     rfl
                    refine pure_ (i := 35) (N := some 228) (v := ?_) (a' := ?_) #[true, true, true, true, true, true, true, true, true, true, true, true, true, true, true, true, true, true, true, true, true, true, true, true, true, true, true, true, true, true, true, true, true, false, true, true, false, false, false, false, false, false] rfl rfl (any_of HT_.out (by kernel_rfl)) (fun _ _ _ h => h) (Or.inl ⟨by rfl, ?_⟩) ?_ ?_
                    rotate_left
                    ·intro w'
                     go_simp
                     with_reducible rfl
                    rotate_left
                    ·simp only [Act.put, List.setIfInBounds_toArray, List.set_cons_zero, List.set_cons_succ, i64_w, i32_w]
                     rfl
                    refine pure_ (i := 36) (N := some 229) (v := ?_) (a' := ?_) #[true, true, true, true, true, true, true, true, true, true, true, true, true, true, true, true, true, true, true, true, true, true, true, true, true, true, true, true, true, true, true, true, true, false, true, true, true, false, false, false, false, false] rfl rfl (any_of HT_.out (by kernel_rfl)) (fun _ _ _ h => h) (Or.inl ⟨by rfl, ?_⟩) ?_ ?_
                    rotate_left
                    ·intro w'
                     go_simp
                     with_reducible rfl
                    rotate_left
                    ·simp only [Act.put, List.setIfInBounds_toArray, List.set_cons_zero, List.set_cons_succ, i64_w, i32_w]
                     rfl
                    refine take_ (i := 33) (N := some 226) (v := ?_) (a' := ?_) #[true, true, true, true, true, true, true, true, true, true, true, true, true, true, true, true, true, true, true, true, true, true, true, true, true, true, true, true, true, true, true, true, true, true, true, true, true, false, false, false, false, false] rfl rfl (take_ofW HT_.out HW_.out (by kernel_rfl)) (fun _ _ _ h => h) (Or.inl ⟨by rfl, ?_⟩) hHeld ?_ ?_
                    rotate_left
                    ·rintro w' ⟨s0, s1, s2, s3⟩
                     go_simp
                     with_reducible rfl
                    rotate_left
                    ·simp only [Act.put, List.setIfInBounds_toArray, List.set_cons_zero, List.set_cons_succ, i64_w, i32_w]
                     rfl
                    refine take_ (i := 37) (N := some 230) (v := ?_) (a' := ?_) #[true, true, true, true, true, true, true, true, true, true, true, true, true, true, true, true, true, true, true, true, true, true, true, true, true, true, true, true, true, true, true, true, true, true, true, true, true, true, false, false, false, false] rfl rfl (take_ofW HT_.out HW_.out (by kernel_rfl)) (fun _ _ _ h => h) (Or.inl ⟨by rfl, ?_⟩) hHeld ?_ ?_
                    rotate_left
                    ·rintro w' ⟨s0, s1, s2, s3⟩
                     go_simp
                     with_reducible rfl
                    rotate_left
                    ·simp only [Act.put, List.setIfInBounds_toArray, List.set_cons_zero, List.set_cons_succ, i64_w, i32_w]
                     rfl
                    refine pure_ (i := 38) (N := some 231) (v := ?_) (a' := ?_) #[true, true, true, true, true, true, true, true, true, true, true, true, true, true, true, true, true, true, true, true, true, true, true, true, true, true, true, true, true, true, true, true, true, true, true, true, true, true, true, false, false, false] rfl rfl (any_of HT_.out (by kernel_rfl)) (fun _ _ _ h => h) (Or.inl ⟨by rfl, ?_⟩) ?_ ?_
                    rotate_left
                    ·intro w'
                     go_simp
                     with_reducible rfl
                    rotate_left
                    ·simp only [Act.put, List.setIfInBounds_toArray, List.set_cons_zero, List.set_cons_succ, i64_w, i32_w]
                     rfl
                    refine pure_ (i := 39) (N := some 232) (v := ?_) (a' := ?_) #[true, true, true, true, true, true, true, true, true, true, true, true, true, true, true, true, true, true, true, true, true, true, true, true, true, true, true, true, true, true, true, true, true, true, true, true, true, true, true, true, false, false] rfl rfl (any_of HT_.out (by kernel_rfl)) (fun _ _ _ h => h) (Or.inl ⟨by rfl, ?_⟩) ?_ ?_
                    rotate_left
                    ·intro w'
                     go_simp
                     with_reducible rfl
                    rotate_left
                    ·simp only [Act.put, List.setIfInBounds_toArray, List.set_cons_zero, List.set_cons_succ, i64_w, i32_w]
                     rfl
                    refine pure_ (i := 40) (N := some 233) (v := ?_) (a' := ?_) #[true, true, true, true, true, true, true, true, true, true, true, true, true, true, true, true, true, true, true, true, true, true, true, true, true, true, true, true, true, true, true, true, true, true, true, true, true, true, true, true, true, false] rfl rfl (any_of HT_.out (by kernel_rfl)) (fun _ _ _ h => h) (Or.inl ⟨by rfl, ?_⟩) ?_ ?_
                    rotate_left
                    ·intro w'
                     go_simp
                     with_reducible rfl
                    rotate_left
                    ·simp only [Act.put, List.setIfInBounds_toArray, List.set_cons_zero, List.set_cons_succ, i64_w, i32_w]
                     rfl
                    refine pure_ (i := 41) (N := some 234) (v := ?_) (a' := ?_) #[true, true, true, true, true, true, true, true, true, true, true, true, true, true, true, true, true, true, true, true, true, true, true, true, true, true, true, true, true, true, true, true, true, true, true, true, true, true, true, true, true, true] rfl rfl (any_of HT_.out (by kernel_rfl)) (fun _ _ _ h => h) (Or.inl ⟨by rfl, ?_⟩) ?_ ?_
                    rotate_left
                    ·intro w'
                     go_simp
                     with_reducible rfl
                    rotate_left
                    ·simp only [Act.put, List.setIfInBounds_toArray, List.set_cons_zero, List.set_cons_succ, i64_w, i32_w]
                     rfl
                    refine done_ (done_of HT_.out (by kernel_rfl)) ?_
                    try go_wp2
                    go_roundg k6
                    case measure => have := HJ6.out; have := HJ37.out; have := HJ63.out; have := HK4.out; have := HJ84.out; have := HK6.out; omega
                    case rel => exact ⟨(wrap64 (x190_6 + 1)), (by first | rfl | (simp; done) | (simp [*]; done)), H', ⟨by have := HJ6.out; have := HJ37.out; have := HJ63.out; have := HK4.out; have := HJ84.out; have := HK6.out; omega⟩, ⟨by (try simp only [hl24_4]); (with_reducible repeat (first | apply Kd.R_alloc | apply Kd.R_drewN | apply Kd.R_drew)); exact HO_6.out⟩, ⟨by (try simp only [hl24_4]); (with_reducible repeat (first | apply Kd.R_alloc | apply Kd.R_drewN | apply Kd.R_drew)); exact HO_8.out⟩, ⟨by (try simp only [hl24_4]); (with_reducible repeat (first | apply Kd.R_alloc | apply Kd.R_drewN | apply Kd.R_drew)); exact HO_22.out⟩, ⟨by (try simp only [hl24_4]); (with_reducible repeat (first | apply Kd.R_alloc | apply Kd.R_drewN | apply Kd.R_drew)); exact HO_24.out⟩, ⟨by (try simp only [hl24_4]); (with_reducible repeat (first | apply Kd.R_alloc | apply Kd.R_drewN | apply Kd.R_drew)); exact HO_27.out⟩, ⟨trivial⟩, ⟨trivial⟩, ⟨by repeat (first | (with_reducible first | exact HB.out | apply below_alloc | apply pw_below_drewN | apply below_drew1) | exact HB.out)⟩⟩
                 ·rw [if_neg c93] at H
                  have c93b0 : decide (x190_6 < (t467.length : Int)) = false := decide_eq_false c93
                  clear c93
                  have H' := Aside0.mk H
                  clear H
                  go_wp2
                  (try simp only [← hl24_4])
                  go_meet
                  case rel => exact ⟨_, H', ⟨by have := HJ6.out; have := HJ37.out; have := HJ63.out; have := HK4.out; have := HJ84.out; have := HK6.out; first | omega | exact Nat.le_refl _⟩, ⟨by repeat (first | (with_reducible first | exact HB.out | apply below_alloc | apply pw_below_drewN | apply below_drew1) | exact HB.out)⟩⟩
     ·replace c28 := Bool.eq_false_iff.mpr c28
      subst c28
      have H1 : (laws_FnCode.j6 kj6 l1) = some true := by rw [if_neg (show ¬ (false = true) by decide)] at H; exact H
      clear H
      have H := H1
      clear H1
      have H' := Aside0.mk H
      clear H
      go_wp2
      go_meet
      case rel => exact ⟨_, H', ⟨by have := HJ6.out; first | omega | exact Nat.le_refl _⟩, ⟨by repeat (first | (with_reducible first | exact HB.out | apply below_alloc | apply pw_below_drewN | apply below_drew1) | exact HB.out)⟩⟩
    case rest => as_aux_lemma =>
     clear HC27
     try clear c1
     try clear c2
     try clear p2
     try clear c3
     try clear p4
     try clear q4
     try clear hx4
     try clear c6
     try clear p6
     try clear c9
     try clear c11
     try clear c12
     try clear c15
     try clear c28
     try clear c32
     try clear c33
     try clear p48
     try clear q48
     try clear hx48
     try clear p64
     try clear c69
     try clear c93
     try clear c93b0
     try clear c113
     try clear c116
     try clear c116b0
     try clear c117
     try clear c117b0
     try clear c118
     try clear c118b0
     try clear c119
     try clear c119b0
     try clear c119b1
     try clear c120
     try clear c120b0
     try clear c121
     try clear c121b0
     try clear c122
     try clear c122b0
     try clear c122b1
     try clear hx483_0
     try clear hx484_0
     try clear hx485_0
     try clear hx486_0
     try clear p483
     try clear p484
     try clear p485
     try clear p486
     try clear q483
     try clear q484
     try clear q485
     try clear q486
     obtain ⟨kq, HA, HJ26, HB⟩ := hcut
     cases kq with
     | zero => exact absurd HA.out (by simp [laws_FnCode.j6])
     | succ kj26 =>
      have H := HA.out
      clear HA
      simp only [laws_FnCode.j6] at H
      replace H := Option.bind_eq_some_iff.mp H
      obtain ⟨t487, A1260, H⟩ := H
      replace H : ((impl_NamesNeeded.f kj26 t487).bind fun bt490 => ((spec_NamesNeeded.f kj26 t487).bind fun bt494 => ((impl_NamesSet.f kj26 t487).bind fun bt498 => ((spec_NamesSet.f kj26 t487).bind fun bt502 => (if (bt490.2 == bt494.2) = true then ((laws_sameInts.f kj26 bt490.1 bt494.1).bind fun t506 => (if t506 = true then (if (bt498.2 == bt502.2) = true then ((laws_sameInts.f kj26 bt498.1 bt502.1).bind fun t507 => (some t507)) else (some false)) else (some false))) else (some false)))))) = some true := H
      have A126 := Aside0.mk A1260
      clear A1260
      replace H := Option.bind_eq_some_iff.mp H
      obtain ⟨⟨t490, t491⟩, A1270, H⟩ := H
      replace H : ((spec_NamesNeeded.f kj26 t487).bind fun bt494 => ((impl_NamesSet.f kj26 t487).bind fun bt498 => ((spec_NamesSet.f kj26 t487).bind fun bt502 => (if (t491 == bt494.2) = true then ((laws_sameInts.f kj26 t490 bt494.1).bind fun t506 => (if t506 = true then (if (bt498.2 == bt502.2) = true then ((laws_sameInts.f kj26 bt498.1 bt502.1).bind fun t507 => (some t507)) else (some false)) else (some false))) else (some false))))) = some true := H
      have A127 := Aside0.mk A1270
      clear A1270
      replace H := Option.bind_eq_some_iff.mp H
      obtain ⟨⟨t494, t495⟩, A1280, H⟩ := H
      replace H : ((impl_NamesSet.f kj26 t487).bind fun bt498 => ((spec_NamesSet.f kj26 t487).bind fun bt502 => (if (t491 == t495) = true then ((laws_sameInts.f kj26 t490 t494).bind fun t506 => (if t506 = true then (if (bt498.2 == bt502.2) = true then ((laws_sameInts.f kj26 bt498.1 bt502.1).bind fun t507 => (some t507)) else (some false)) else (some false))) else (some false)))) = some true := H
      have A128 := Aside0.mk A1280
      clear A1280
      replace H := Option.bind_eq_some_iff.mp H
      obtain ⟨⟨t498, t499⟩, A1290, H⟩ := H
      replace H : ((spec_NamesSet.f kj26 t487).bind fun bt502 => (if (t491 == t495) = true then ((laws_sameInts.f kj26 t490 t494).bind fun t506 => (if t506 = true then (if (t499 == bt502.2) = true then ((laws_sameInts.f kj26 t498 bt502.1).bind fun t507 => (some t507)) else (some false)) else (some false))) else (some false))) = some true := H
      have A129 := Aside0.mk A1290
      clear A1290
      replace H := Option.bind_eq_some_iff.mp H
      obtain ⟨⟨t502, t503⟩, A1300, H⟩ := H
      replace H : (if (t491 == t495) = true then ((laws_sameInts.f kj26 t490 t494).bind fun t506 => (if t506 = true then (if (t499 == t503) = true then ((laws_sameInts.f kj26 t498 t502).bind fun t507 => (some t507)) else (some false)) else (some false))) else (some false)) = some true := H
      have A130 := Aside0.mk A1300
      clear A1300
      by_cases c131 : (t491 == t495) = true
      rotate_left
      ·rw [if_neg c131] at H
       have c131b0 : (t491 == t495) = false := by simpa using c131
       (try (have c131b1 : decide (t491 = t495) = false := by simpa using c131))
       (try (have c131b2 : (t491 == t495) = false := by simpa using c131))
       (try (have c131b3 : ¬ (t491 = t495) := by simpa using c131))
       clear c131
       exact absurd H (by simp)
      rw [if_pos c131] at H
      have c131b0 : (t491 == t495) = true := c131
      (try (have c131b1 : decide (t491 = t495) = true := by simpa using c131))
      (try (have c131b2 : (t491 == t495) = true := by simpa using c131))
      clear c131
      replace H := Option.bind_eq_some_iff.mp H
      obtain ⟨t506, A1320, H⟩ := H
      replace H : (if t506 = true then (if (t499 == t503) = true then ((laws_sameInts.f kj26 t498 t502).bind fun t507 => (some t507)) else (some false)) else (some false)) = some true := H
      have A132 := Aside0.mk A1320
      clear A1320
      by_cases c133 : t506 = true
      rotate_left
      ·replace c133 := Bool.eq_false_iff.mpr c133
       subst c133
       have H1 : (some false) = some true := by rw [if_neg (show ¬ (false = true) by decide)] at H; exact H
       clear H
       have H := H1
       clear H1
       exact absurd H (by simp)
      subst c133
      have H1 : (if (t499 == t503) = true then ((laws_sameInts.f kj26 t498 t502).bind fun t507 => (some t507)) else (some false)) = some true := by rw [if_pos rfl] at H; exact H
      clear H
      have H := H1
      clear H1
      by_cases c134 : (t499 == t503) = true
      rotate_left
      ·rw [if_neg c134] at H
       have c134b0 : (t499 == t503) = false := by simpa using c134
       (try (have c134b1 : decide (t499 = t503) = false := by simpa using c134))
       (try (have c134b2 : (t499 == t503) = false := by simpa using c134))
       (try (have c134b3 : ¬ (t499 = t503) := by simpa using c134))
       clear c134
       exact absurd H (by simp)
      rw [if_pos c134] at H
      have c134b0 : (t499 == t503) = true := c134
      (try (have c134b1 : decide (t499 = t503) = true := by simpa using c134))
      (try (have c134b2 : (t499 == t503) = true := by simpa using c134))
      clear c134
      replace H := Option.bind_eq_some_iff.mp H
      obtain ⟨t507, A1350, H⟩ := H
      replace H : (some t507) = some true := H
      have A135 := Aside0.mk A1350
      clear A1350
      have HV := Aside0.mk (Option.some.inj H)
      clear H
      go_wp2_with (first | ((with_reducible refine gate_callee (f := 16) rfl ?_); refine goesL_ (some 237) rfl rfl Try.func16 (by kernel_rfl) rfl #[.slice A1 l1.length c1] rfl (by (try simp only [List.map_toArray, List.map_cons, List.map_nil]); first | done | rfl | (simp only [List.length_drop, List.length_take]; rfl)) ?_; (with_reducible refine (spec_DrawNamesNeeded.calls kj26 _ _ l1 t487 _ ?side1 ?side2 A126.out).mono ?_); (case side1 => repeat (first | exact (Kd.C_below HR1.out HB.out) | (with_reducible refine Kd.C_alloc ?_ _) | (with_reducible refine Kd.C_drewN ?_ _) | (with_reducible refine Kd.C_drew ?_))); (case side2 => exact HC1.out); rintro e w136 ⟨v488, rfl, ho0, hb⟩; refine ⟨_, rfl, ?_⟩; have n0_ := Aside0.mk (Kd.R_lower ho0 (below_size (by repeat (first | (with_reducible first | exact HB.out | apply below_alloc | apply pw_below_drewN | apply below_drew1) | exact HB.out)))); have n1_ := Aside0.mk (below_step (by repeat (first | (with_reducible first | exact HB.out | apply below_alloc | apply pw_below_drewN | apply below_drew1) | exact HB.out)) hb); clear HB; have HO489 := n0_; have HB := n1_; clear n0_ n1_; (try clear hb); (try clear hb2); (try clear hk); (try clear hi); (try clear ho0); obtain ⟨Ao137, co137, eo137⟩ := Kd.R_slice HO489.out; subst eo137) | ((with_reducible refine gate_callee (f := 13) rfl ?_); refine goesL_ (some 240) rfl rfl Try.func13 (by kernel_rfl) rfl #[.slice Ao137 t487.length co137] rfl (by (try simp only [List.map_toArray, List.map_cons, List.map_nil]); first | done | rfl | (simp only [List.length_drop, List.length_take]; rfl)) ?_; (with_reducible refine (impl_NamesNeeded.calls kj26 _ _ t487 t490 t491 _ ?side1 ?side2 A127.out).mono ?_); (case side1 => repeat (first | exact (Kd.R_reads' HO489.out).2.2 | (with_reducible refine Kd.C_alloc ?_ _) | (with_reducible refine Kd.C_drewN ?_ _) | (with_reducible refine Kd.C_drew ?_))); (case side2 => exact (Kd.R_reads' HO489.out).2.1); rintro e w138 ⟨v492, rfl, ho0, hb⟩; refine ⟨_, rfl, ?_⟩; have n0_ := Aside0.mk (Kd.R_below (by (with_reducible repeat (first | apply Kd.R_alloc | apply Kd.R_drewN | apply Kd.R_drew)); exact HO489.out) hb); have n1_ := Aside0.mk (Kd.R_lower ho0 (below_size (by repeat (first | (with_reducible first | exact HB.out | apply below_alloc | apply pw_below_drewN | apply below_drew1) | exact HB.out)))); have n2_ := Aside0.mk (below_step (by repeat (first | (with_reducible first | exact HB.out | apply below_alloc | apply pw_below_drewN | apply below_drew1) | exact HB.out)) hb); clear HO489; clear HB; have HO489 := n0_; have HO493 := n1_; have HB := n2_; clear n0_ n1_ n2_; (try clear hb); (try clear hb2); (try clear hk); (try clear hi); (try clear ho0)) | ((with_reducible refine gate_callee (f := 17) rfl ?_); refine goesL_ (some 245) rfl rfl Try.func17 (by kernel_rfl) rfl #[.slice Ao137 t487.length co137] rfl (by (try simp only [List.map_toArray, List.map_cons, List.map_nil]); first | done | rfl | (simp only [List.length_drop, List.length_take]; rfl)) ?_; (with_reducible refine (spec_NamesNeeded.calls kj26 _ _ t487 t494 t495 _ ?side1 ?side2 A128.out).mono ?_); (case side1 => repeat (first | exact (Kd.R_reads' HO489.out).2.2 | (with_reducible refine Kd.C_alloc ?_ _) | (with_reducible refine Kd.C_drewN ?_ _) | (with_reducible refine Kd.C_drew ?_))); (case side2 => exact (Kd.R_reads' HO489.out).2.1); rintro e w139 ⟨v496, rfl, ho0, hb⟩; refine ⟨_, rfl, ?_⟩; have n0_ := Aside0.mk (Kd.R_below (by (with_reducible repeat (first | apply Kd.R_alloc | apply Kd.R_drewN | apply Kd.R_drew)); exact HO489.out) hb); have n1_ := Aside0.mk (Kd.R_elder' (by (with_reducible repeat (first | apply Kd.R_alloc | apply Kd.R_drewN | apply Kd.R_drew)); exact HO493.out) (Kd.R_base ho0) hb); have n2_ := Aside0.mk (Kd.R_lower (Kd.R_new' ho0 (Kd.R_lt (by (with_reducible repeat (first | apply Kd.R_alloc | apply Kd.R_drewN | apply Kd.R_drew)); exact HO493.out))) (below_size (by repeat (first | (with_reducible first | exact HB.out | apply below_alloc | apply pw_below_drewN | apply below_drew1) | exact HB.out)))); have n3_ := Aside0.mk (below_step (by repeat (first | (with_reducible first | exact HB.out | apply below_alloc | apply pw_below_drewN | apply below_drew1) | exact HB.out)) hb); clear HO489; clear HO493; clear HB; have HO489 := n0_; have HO493 := n1_; have HO497 := n2_; have HB := n3_; clear n0_ n1_ n2_ n3_; (try clear hb); (try clear hb2); (try clear hk); (try clear hi); (try clear ho0)) | ((with_reducible refine gate_callee (f := 14) rfl ?_); refine goesL_ (some 250) rfl rfl Try.func14 (by kernel_rfl) rfl #[.slice Ao137 t487.length co137] rfl (by (try simp only [List.map_toArray, List.map_cons, List.map_nil]); first | done | rfl | (simp only [List.length_drop, List.length_take]; rfl)) ?_; (with_reducible refine (impl_NamesSet.calls kj26 _ _ t487 t498 t499 _ ?side1 ?side2 A129.out).mono ?_); (case side1 => repeat (first | exact (Kd.R_reads' HO489.out).2.2 | (with_reducible refine Kd.C_alloc ?_ _) | (with_reducible refine Kd.C_drewN ?_ _) | (with_reducible refine Kd.C_drew ?_))); (case side2 => exact (Kd.R_reads' HO489.out).2.1); rintro e w140 ⟨v500, rfl, ho0, hb⟩; refine ⟨_, rfl, ?_⟩; have n0_ := Aside0.mk (Kd.R_below (by (with_reducible repeat (first | apply Kd.R_alloc | apply Kd.R_drewN | apply Kd.R_drew)); exact HO489.out) hb); have n1_ := Aside0.mk (Kd.R_elder' (by (with_reducible repeat (first | apply Kd.R_alloc | apply Kd.R_drewN | apply Kd.R_drew)); exact HO493.out) (Kd.R_base ho0) hb); have n2_ := Aside0.mk (Kd.R_elder' (by (with_reducible repeat (first | apply Kd.R_alloc | apply Kd.R_drewN | apply Kd.R_drew)); exact HO497.out) (Kd.R_base ho0) hb); have n3_ := Aside0.mk (Kd.R_lower (Kd.R_new' (Kd.R_new' ho0 (Kd.R_lt (by (with_reducible repeat (first | apply Kd.R_alloc | apply Kd.R_drewN | apply Kd.R_drew)); exact HO493.out))) (Kd.R_lt (by (with_reducible repeat (first | apply Kd.R_alloc | apply Kd.R_drewN | apply Kd.R_drew)); exact HO497.out))) (below_size (by repeat (first | (with_reducible first | exact HB.out | apply below_alloc | apply pw_below_drewN | apply below_drew1) | exact HB.out)))); have n4_ := Aside0.mk (below_step (by repeat (first | (with_reducible first | exact HB.out | apply below_alloc | apply pw_below_drewN | apply below_drew1) | exact HB.out)) hb); clear HO489; clear HO493; clear HO497; clear HB; have HO489 := n0_; have HO493 := n1_; have HO497 := n2_; have HO501 := n3_; have HB := n4_; clear n0_ n1_ n2_ n3_ n4_; (try clear hb); (try clear hb2); (try clear hk); (try clear hi); (try clear ho0)) | ((with_reducible refine gate_callee (f := 18) rfl ?_); refine goesL_ (some 255) rfl rfl Try.func18 (by kernel_rfl) rfl #[.slice Ao137 t487.length co137] rfl (by (try simp only [List.map_toArray, List.map_cons, List.map_nil]); first | done | rfl | (simp only [List.length_drop, List.length_take]; rfl)) ?_; (with_reducible refine (spec_NamesSet.calls kj26 _ _ t487 t502 t503 _ ?side1 ?side2 A130.out).mono ?_); (case side1 => repeat (first | exact (Kd.R_reads' HO489.out).2.2 | (with_reducible refine Kd.C_alloc ?_ _) | (with_reducible refine Kd.C_drewN ?_ _) | (with_reducible refine Kd.C_drew ?_))); (case side2 => exact (Kd.R_reads' HO489.out).2.1); rintro e w141 ⟨v504, rfl, ho0, hb⟩; refine ⟨_, rfl, ?_⟩; have n0_ := Aside0.mk (Kd.R_below (by (with_reducible repeat (first | apply Kd.R_alloc | apply Kd.R_drewN | apply Kd.R_drew)); exact HO489.out) hb); have n1_ := Aside0.mk (Kd.R_elder' (by (with_reducible repeat (first | apply Kd.R_alloc | apply Kd.R_drewN | apply Kd.R_drew)); exact HO493.out) (Kd.R_base ho0) hb); have n2_ := Aside0.mk (Kd.R_elder' (by (with_reducible repeat (first | apply Kd.R_alloc | apply Kd.R_drewN | apply Kd.R_drew)); exact HO497.out) (Kd.R_base ho0) hb); have n3_ := Aside0.mk (Kd.R_elder' (by (with_reducible repeat (first | apply Kd.R_alloc | apply Kd.R_drewN | apply Kd.R_drew)); exact HO501.out) (Kd.R_base ho0) hb); have n4_ := Aside0.mk (Kd.R_lower (Kd.R_new' (Kd.R_new' (Kd.R_new' ho0 (Kd.R_lt (by (with_reducible repeat (first | apply Kd.R_alloc | apply Kd.R_drewN | apply Kd.R_drew)); exact HO493.out))) (Kd.R_lt (by (with_reducible repeat (first | apply Kd.R_alloc | apply Kd.R_drewN | apply Kd.R_drew)); exact HO497.out))) (Kd.R_lt (by (with_reducible repeat (first | apply Kd.R_alloc | apply Kd.R_drewN | apply Kd.R_drew)); exact HO501.out))) (below_size (by repeat (first | (with_reducible first | exact HB.out | apply below_alloc | apply pw_below_drewN | apply below_drew1) | exact HB.out)))); have n5_ := Aside0.mk (below_step (by repeat (first | (with_reducible first | exact HB.out | apply below_alloc | apply pw_below_drewN | apply below_drew1) | exact HB.out)) hb); clear HO489; clear HO493; clear HO497; clear HO501; clear HB; have HO489 := n0_; have HO493 := n1_; have HO497 := n2_; have HO501 := n3_; have HO505 := n4_; have HB := n5_; clear n0_ n1_ n2_ n3_ n4_ n5_; (try clear hb); (try clear hb2); (try clear hk); (try clear hi); (try clear ho0); obtain ⟨Ao142, co142, eo142⟩ := Kd.R_slice HO493.out; subst eo142; obtain ⟨Ao143, co143, eo143⟩ := Kd.R_slice HO497.out; subst eo143) | (go_at_call 9; (with_reducible refine (laws_sameInts.calls kj26 _ _ t490 _ _ t494 true _ ?side1 ?side2 ?side3 ?side4 A132.out).mono ?_); (case side1 => repeat (first | exact (Kd.R_reads' HO493.out).2.2 | (with_reducible refine Kd.C_alloc ?_ _) | (with_reducible refine Kd.C_drewN ?_ _) | (with_reducible refine Kd.C_drew ?_))); (case side2 => exact (Kd.R_reads' HO493.out).2.1); (case side3 => repeat (first | exact (Kd.R_reads' HO497.out).2.2 | (with_reducible refine Kd.C_alloc ?_ _) | (with_reducible refine Kd.C_drewN ?_ _) | (with_reducible refine Kd.C_drew ?_))); (case side4 => exact (Kd.R_reads' HO497.out).2.1); rintro e w' ⟨rfl, ⟨nd, rfl⟩⟩; obtain ⟨Ao144, co144, eo144⟩ := Kd.R_slice HO501.out; subst eo144; obtain ⟨Ao145, co145, eo145⟩ := Kd.R_slice HO505.out; subst eo145) | (go_at_call 9; (with_reducible refine (laws_sameInts.calls kj26 _ _ t498 _ _ t502 t507 _ ?side1 ?side2 ?side3 ?side4 A135.out).mono ?_); (case side1 => repeat (first | exact (Kd.R_reads' HO501.out).2.2 | (with_reducible refine Kd.C_alloc ?_ _) | (with_reducible refine Kd.C_drewN ?_ _) | (with_reducible refine Kd.C_drew ?_))); (case side2 => exact (Kd.R_reads' HO501.out).2.1); (case side3 => repeat (first | exact (Kd.R_reads' HO505.out).2.2 | (with_reducible refine Kd.C_alloc ?_ _) | (with_reducible refine Kd.C_drewN ?_ _) | (with_reducible refine Kd.C_drew ?_))); (case side4 => exact (Kd.R_reads' HO505.out).2.1); rintro e w' ⟨rfl, ⟨nd, rfl⟩⟩))
      go_ret
      exact ⟨by first | (exact congrArg (fun b_ => Ending.returned (Value.bool b_)) HV.out) | (have hv_ := HV.out; rw [hv_]) | (have hv_ := HV.out; simp [hv_]; done) | rfl | (simp [errW_none, errW_some] <;> rfl) | (simp [*, errW_none, errW_some] <;> rfl), by repeat (first | (with_reducible first | exact HB.out | apply below_alloc | apply pw_below_drewN | apply below_drew1) | exact HB.out)⟩

/-- THE ONE PURE STATEMENT of laws_FnCode: yours. -/
def laws_FnCode.Pure : Prop := ∀ (l0 : List Int) (l1 : List Int), l0.length ≤ maxLen → l0.length * 1 ≤ 140737488351232 → (∀ x ∈ l0, (Lit.int .u8 x).wf = true) → l1.length ≤ maxLen → l1.length * 1 ≤ 140737488351232 → (∀ x ∈ l1, (Lit.int .u8 x).wf = true) → ∃ k, laws_FnCode.f k l0 l1 = some true
theorem laws_FnCode.walk (P : laws_FnCode.Pure) (a0 : Option Addr) (len0 cap0 : Nat) (z0 : List Int) (a1 : Option Addr) (len1 cap1 : Nat) (z1 : List Int) (w : World) (w0 : (a0 = none ∧ len0 = 0 ∧ cap0 = 0 ∧ z0 = []) ∨ ∃ x, a0 = some x ∧ len0 ≤ cap0 ∧ cap0 ≤ maxLen ∧ z0.length = cap0 ∧ (∀ i, i < z0.length → w.cell? (x.add i) = some (.int .u8 (z0.getD i 0))) ∧ ∀ n ∈ z0, (Lit.int .u8 n).wf = true) (y0 : len0 * 1 ≤ 140737488351232) (w1 : (a1 = none ∧ len1 = 0 ∧ cap1 = 0 ∧ z1 = []) ∨ ∃ x, a1 = some x ∧ len1 ≤ cap1 ∧ cap1 ≤ maxLen ∧ z1.length = cap1 ∧ (∀ i, i < z1.length → w.cell? (x.add i) = some (.int .u8 (z1.getD i 0))) ∧ ∀ n ∈ z1, (Lit.int .u8 n).wf = true) (y1 : len1 * 1 ≤ 140737488351232) :
  Calls Try.prog 3 #[.slice a0 len0 cap0, .slice a1 len1 cap1] w fun e w' => e = .returned (.bool true) ∧ Below w.heap.size w w' := by
 obtain ⟨l0, rfl, hr0, hm0, hw0, hc0⟩ := ReadsInt.ofRowC w0
 obtain ⟨l1, rfl, hr1, hm1, hw1, hc1⟩ := ReadsInt.ofRowC w1
 obtain ⟨k, h⟩ := P l0 l1 hm0 y0 hw0 hm1 y1 hw1
 refine (laws_FnCode.calls k _ _ l0 _ _ l1 w (Kd.C_of_reads (d := (0 : Int)) (h1 := fun _ => rfl) hr0) hc0 (Kd.C_of_reads (d := (0 : Int)) (h1 := fun _ => rfl) hr1) hc1 h).mono ?_
 rintro e w' ⟨rfl, hd⟩
 exact ⟨rfl, hd⟩

end Go.Proofs.Ytapdpmfijijjfaa.PFnCode
