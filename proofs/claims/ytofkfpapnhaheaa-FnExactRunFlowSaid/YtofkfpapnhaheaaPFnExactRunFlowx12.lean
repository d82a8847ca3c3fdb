-- printed by a turned copy of the print
import Derived.Test.YtofkfpapnhaheaaPFnExactRunFlowx0
import Derived.Test.YtofkfpapnhaheaaPFnExactRunFlowx1
import Derived.Test.YtofkfpapnhaheaaPFnExactRunFlowx3
import Derived.Test.YtofkfpapnhaheaaPFnExactRunFlowx4
import Derived.Test.YtofkfpapnhaheaaPFnExactRunFlowx7
import Derived.Test.YtofkfpapnhaheaaPFnExactRunFlowx11
namespace Go.Proofs.Ytofkfpapnhaheaa.PFnExactRunFlow
open Go.RowKit Go.Proofs.YtofkfpapnhaheaaW.PrintWords Go.Proofs.YtofkfpapnhaheaaW.PrintLast Go.Proofs.YtofkfpapnhaheaaW.PrintMore
attribute [local go_sem] max2_int min2_int max_two min_two max_three min_three max_four min_four   -- for this text's walks alone
set_option linter.unusedVariables false
set_option linter.unusedSimpArgs false

/-! ### laws_FnExactRunFlow: function 9 -/
mutual
def laws_FnExactRunFlow.j0 : Nat → List (S76) → List Int → Int → List Int → List Int → Int → Bool → List (S78) → List Int → List Int → List Int → Int → Bool → Bool → Option (Bool)
 | 0, _, _, _, _, _, _, _, _, _, _, _, _, _, _ => none
 | k + 1, x0, x1, x2, x8, x9, x10, x11, x12, x13, x14, x15, x16, x17, x76 => if x76 = true then (some false) else ((laws_toBlockS.f k x0).bind fun t335 => ((laws_eqBlockS.f k x12 t335).bind fun t338 => (if t338 = true then ((laws_toIntS.f k x1).bind fun t339 => ((laws_eqIntS.f k x13 t339).bind fun t342 => (if t342 = true then ((laws_markBlockS.f k x12 1).bind fun bt343 => ((laws_markIntS.f k x13 bt343.1).bind fun bt345 => (if bt345.1 < 0 then (laws_FnExactRunFlow.j1 k x0 x1 x2 x8 x9 x10 x11 x14 x15 true) else ((laws_eqIntS.f k x14 x8).bind fun t347 => (if t347 = true then ((laws_eqIntS.f k x15 x9).bind fun t348 => (if t348 = true then (if x16 = x10 then (laws_FnExactRunFlow.j1 k x0 x1 x2 x8 x9 x10 x11 x14 x15 (x17 != x11)) else (laws_FnExactRunFlow.j1 k x0 x1 x2 x8 x9 x10 x11 x14 x15 true)) else (laws_FnExactRunFlow.j1 k x0 x1 x2 x8 x9 x10 x11 x14 x15 true))) else (laws_FnExactRunFlow.j1 k x0 x1 x2 x8 x9 x10 x11 x14 x15 true)))))) else (some false)))) else (some false))))
def laws_FnExactRunFlow.j1 : Nat → List (S76) → List Int → Int → List Int → List Int → Int → Bool → List Int → List Int → Bool → Option (Bool)
 | 0, _, _, _, _, _, _, _, _, _, _ => none
 | k + 1, x0, x1, x2, x8, x9, x10, x11, x14, x15, x116 => if x116 = true then (some false) else ((laws_markIntS.f k x14 1).bind fun bt349 => ((laws_markIntS.f k x15 bt349.1).bind fun bt351 => ((laws_heldIntS.f k bt349.2 1).bind fun t353 => (if t353 < 0 then (some false) else ((laws_heldIntS.f k bt351.2 t353).bind fun t354 => (if t354 < 0 then (some false) else (if t354 = bt351.1 then ((laws_toBlockS.f k x0).bind fun t355 => ((laws_toIntS.f k x1).bind fun t358 => ((impl_RunFlow.f k t355 t358 x2).bind fun bt361 => ((laws_eqIntS.f k bt361.1 x8).bind fun t369 => (if t369 = true then ((laws_eqIntS.f k bt361.2.1 x9).bind fun t370 => (if t370 = true then (if bt361.2.2.1 = x10 then (laws_FnExactRunFlow.j2 k bt349.2 bt351.2 bt351.1 (bt361.2.2.2 != x11)) else (laws_FnExactRunFlow.j2 k bt349.2 bt351.2 bt351.1 true)) else (laws_FnExactRunFlow.j2 k bt349.2 bt351.2 bt351.1 true))) else (laws_FnExactRunFlow.j2 k bt349.2 bt351.2 bt351.1 true)))))) else (some false))))))))
def laws_FnExactRunFlow.j2 : Nat → List Int → List Int → Int → Bool → Option (Bool)
 | 0, _, _, _, _ => none
 | k + 1, x14, x15, x19, x166 => if x166 = true then (some false) else ((laws_heldIntS.f k x14 1).bind fun t371 => (if t371 < 0 then (some false) else ((laws_heldIntS.f k x15 t371).bind fun t372 => (if t372 < 0 then (some false) else (if t372 = x19 then (some true) else (some false))))))
end
def laws_FnExactRunFlow.f (k : Nat) (l0 : List (S76)) (l1 : List Int) (a2 : Int) : Option (Bool) := if (l1.length : Int) > 1048576 then (some true) else ((laws_szBlockS.f k l0 1048576).bind fun t304 => (if t304 < 0 then (some true) else ((laws_toBlockS.f k l0).bind fun t305 => ((laws_toIntS.f k l1).bind fun t308 => ((spec_RunFlow.f k t305 t308 a2).bind fun bt311 => ((laws_toBlockS.f k l0).bind fun t319 => ((laws_toIntS.f k l1).bind fun t322 => ((impl_RunFlow.f k t319 t322 a2).bind fun bt325 => ((laws_eqIntS.f k bt325.1 bt311.1).bind fun t333 => (if t333 = true then ((laws_eqIntS.f k bt325.2.1 bt311.2.1).bind fun t334 => (if t334 = true then (if bt325.2.2.1 = bt311.2.2.1 then (laws_FnExactRunFlow.j0 k l0 l1 a2 bt311.1 bt311.2.1 bt311.2.2.1 bt311.2.2.2 t319 t322 bt325.1 bt325.2.1 bt325.2.2.1 bt325.2.2.2 (bt325.2.2.2 != bt311.2.2.2)) else (laws_FnExactRunFlow.j0 k l0 l1 a2 bt311.1 bt311.2.1 bt311.2.2.1 bt311.2.2.2 t319 t322 bt325.1 bt325.2.1 bt325.2.2.1 bt325.2.2.2 true)) else (laws_FnExactRunFlow.j0 k l0 l1 a2 bt311.1 bt311.2.1 bt311.2.2.1 bt311.2.2.2 t319 t322 bt325.1 bt325.2.1 bt325.2.2.1 bt325.2.2.2 true))) else (laws_FnExactRunFlow.j0 k l0 l1 a2 bt311.1 bt311.2.1 bt311.2.2.1 bt311.2.2.2 t319 t322 bt325.1 bt325.2.1 bt325.2.2.1 bt325.2.2.2 true)))))))))))
theorem laws_FnExactRunFlow.mono_l : ∀ k, (∀ y0 y1 y2 y3 y4 y5 y6 y7 y8 y9 y10 y11 y12 y13, LeO (laws_FnExactRunFlow.j0 k y0 y1 y2 y3 y4 y5 y6 y7 y8 y9 y10 y11 y12 y13) (laws_FnExactRunFlow.j0 (k + 1) y0 y1 y2 y3 y4 y5 y6 y7 y8 y9 y10 y11 y12 y13)) ∧ (∀ y0 y1 y2 y3 y4 y5 y6 y7 y8 y9, LeO (laws_FnExactRunFlow.j1 k y0 y1 y2 y3 y4 y5 y6 y7 y8 y9) (laws_FnExactRunFlow.j1 (k + 1) y0 y1 y2 y3 y4 y5 y6 y7 y8 y9)) ∧ (∀ y0 y1 y2 y3, LeO (laws_FnExactRunFlow.j2 k y0 y1 y2 y3) (laws_FnExactRunFlow.j2 (k + 1) y0 y1 y2 y3))
 | 0 => ⟨fun _ _ _ _ _ _ _ _ _ _ _ _ _ _ r h => by simp [laws_FnExactRunFlow.j0] at h, fun _ _ _ _ _ _ _ _ _ _ r h => by simp [laws_FnExactRunFlow.j1] at h, fun _ _ _ _ r h => by simp [laws_FnExactRunFlow.j2] at h⟩
 | k + 1 => by
  obtain ⟨ih0, ih1, ih2⟩ := laws_FnExactRunFlow.mono_l k
  refine ⟨?_, ?_, ?_⟩
  ·intro y0 y1 y2 y3 y4 y5 y6 y7 y8 y9 y10 y11 y12 y13
   unfold laws_FnExactRunFlow.j0
   repeat' first
   | (with_reducible exact ih0 _ _ _ _ _ _ _ _ _ _ _ _ _ _)
   | (with_reducible exact ih1 _ _ _ _ _ _ _ _ _ _)
   | (with_reducible exact ih2 _ _ _ _)
   | (with_reducible exact impl_RunFlow.mono _ _ _ _)
   | (with_reducible exact laws_eqBlockS.mono _ _ _)
   | (with_reducible exact laws_eqIntS.mono _ _ _)
   | (with_reducible exact laws_heldIntS.mono _ _ _)
   | (with_reducible exact laws_markBlockS.mono _ _ _)
   | (with_reducible exact laws_markIntS.mono _ _ _)
   | (with_reducible exact laws_szBlockS.mono _ _ _)
   | (with_reducible exact laws_toBlockS.mono _ _)
   | (with_reducible exact laws_toIntS.mono _ _)
   | (with_reducible exact spec_RunFlow.mono _ _ _ _)
   | (with_reducible exact LeO.refl _)
   | (with_reducible exact LeO.none _)
   | (with_reducible refine LeO.ite ?_ ?_)
   | (with_reducible refine LeO.bind ?_ (fun _ => ?_))
   | exact ih0 _ _ _ _ _ _ _ _ _ _ _ _ _ _
   | exact ih1 _ _ _ _ _ _ _ _ _ _
   | exact ih2 _ _ _ _
   | exact impl_RunFlow.mono _ _ _ _
   | exact laws_eqBlockS.mono _ _ _
   | exact laws_eqIntS.mono _ _ _
   | exact laws_heldIntS.mono _ _ _
   | exact laws_markBlockS.mono _ _ _
   | exact laws_markIntS.mono _ _ _
   | exact laws_szBlockS.mono _ _ _
   | exact laws_toBlockS.mono _ _
   | exact laws_toIntS.mono _ _
   | exact spec_RunFlow.mono _ _ _ _
   | exact LeO.none _
   | refine LeO.ite ?_ ?_
   | refine LeO.bind ?_ (fun _ => ?_)
  ·intro y0 y1 y2 y3 y4 y5 y6 y7 y8 y9
   unfold laws_FnExactRunFlow.j1
   repeat' first
   | (with_reducible exact ih0 _ _ _ _ _ _ _ _ _ _ _ _ _ _)
   | (with_reducible exact ih1 _ _ _ _ _ _ _ _ _ _)
   | (with_reducible exact ih2 _ _ _ _)
   | (with_reducible exact impl_RunFlow.mono _ _ _ _)
   | (with_reducible exact laws_eqBlockS.mono _ _ _)
   | (with_reducible exact laws_eqIntS.mono _ _ _)
   | (with_reducible exact laws_heldIntS.mono _ _ _)
   | (with_reducible exact laws_markBlockS.mono _ _ _)
   | (with_reducible exact laws_markIntS.mono _ _ _)
   | (with_reducible exact laws_szBlockS.mono _ _ _)
   | (with_reducible exact laws_toBlockS.mono _ _)
   | (with_reducible exact laws_toIntS.mono _ _)
   | (with_reducible exact spec_RunFlow.mono _ _ _ _)
   | (with_reducible exact LeO.refl _)
   | (with_reducible exact LeO.none _)
   | (with_reducible refine LeO.ite ?_ ?_)
   | (with_reducible refine LeO.bind ?_ (fun _ => ?_))
   | exact ih0 _ _ _ _ _ _ _ _ _ _ _ _ _ _
   | exact ih1 _ _ _ _ _ _ _ _ _ _
   | exact ih2 _ _ _ _
   | exact impl_RunFlow.mono _ _ _ _
   | exact laws_eqBlockS.mono _ _ _
   | exact laws_eqIntS.mono _ _ _
   | exact laws_heldIntS.mono _ _ _
   | exact laws_markBlockS.mono _ _ _
   | exact laws_markIntS.mono _ _ _
   | exact laws_szBlockS.mono _ _ _
   | exact laws_toBlockS.mono _ _
   | exact laws_toIntS.mono _ _
   | exact spec_RunFlow.mono _ _ _ _
   | exact LeO.none _
   | refine LeO.ite ?_ ?_
   | refine LeO.bind ?_ (fun _ => ?_)
  ·intro y0 y1 y2 y3
   unfold laws_FnExactRunFlow.j2
   repeat' first
   | (with_reducible exact ih0 _ _ _ _ _ _ _ _ _ _ _ _ _ _)
   | (with_reducible exact ih1 _ _ _ _ _ _ _ _ _ _)
   | (with_reducible exact ih2 _ _ _ _)
   | (with_reducible exact impl_RunFlow.mono _ _ _ _)
   | (with_reducible exact laws_eqBlockS.mono _ _ _)
   | (with_reducible exact laws_eqIntS.mono _ _ _)
   | (with_reducible exact laws_heldIntS.mono _ _ _)
   | (with_reducible exact laws_markBlockS.mono _ _ _)
   | (with_reducible exact laws_markIntS.mono _ _ _)
   | (with_reducible exact laws_szBlockS.mono _ _ _)
   | (with_reducible exact laws_toBlockS.mono _ _)
   | (with_reducible exact laws_toIntS.mono _ _)
   | (with_reducible exact spec_RunFlow.mono _ _ _ _)
   | (with_reducible exact LeO.refl _)
   | (with_reducible exact LeO.none _)
   | (with_reducible refine LeO.ite ?_ ?_)
   | (with_reducible refine LeO.bind ?_ (fun _ => ?_))
   | exact ih0 _ _ _ _ _ _ _ _ _ _ _ _ _ _
   | exact ih1 _ _ _ _ _ _ _ _ _ _
   | exact ih2 _ _ _ _
   | exact impl_RunFlow.mono _ _ _ _
   | exact laws_eqBlockS.mono _ _ _
   | exact laws_eqIntS.mono _ _ _
   | exact laws_heldIntS.mono _ _ _
   | exact laws_markBlockS.mono _ _ _
   | exact laws_markIntS.mono _ _ _
   | exact laws_szBlockS.mono _ _ _
   | exact laws_toBlockS.mono _ _
   | exact laws_toIntS.mono _ _
   | exact spec_RunFlow.mono _ _ _ _
   | exact LeO.none _
   | refine LeO.ite ?_ ?_
   | refine LeO.bind ?_ (fun _ => ?_)
theorem laws_FnExactRunFlow.mono : ∀ a0 a1 a2 k, LeO (laws_FnExactRunFlow.f k a0 a1 a2) (laws_FnExactRunFlow.f (k + 1) a0 a1 a2) := by
 intro a0 a1 a2 k
 obtain ⟨ih0, ih1, ih2⟩ := laws_FnExactRunFlow.mono_l k
 unfold laws_FnExactRunFlow.f
 repeat' first
   | (with_reducible exact ih0 _ _ _ _ _ _ _ _ _ _ _ _ _ _)
   | (with_reducible exact ih1 _ _ _ _ _ _ _ _ _ _)
   | (with_reducible exact ih2 _ _ _ _)
   | (with_reducible exact impl_RunFlow.mono _ _ _ _)
   | (with_reducible exact laws_eqBlockS.mono _ _ _)
   | (with_reducible exact laws_eqIntS.mono _ _ _)
   | (with_reducible exact laws_heldIntS.mono _ _ _)
   | (with_reducible exact laws_markBlockS.mono _ _ _)
   | (with_reducible exact laws_markIntS.mono _ _ _)
   | (with_reducible exact laws_szBlockS.mono _ _ _)
   | (with_reducible exact laws_toBlockS.mono _ _)
   | (with_reducible exact laws_toIntS.mono _ _)
   | (with_reducible exact spec_RunFlow.mono _ _ _ _)
   | (with_reducible exact LeO.refl _)
   | (with_reducible exact LeO.none _)
   | (with_reducible refine LeO.ite ?_ ?_)
   | (with_reducible refine LeO.bind ?_ (fun _ => ?_))
   | exact ih0 _ _ _ _ _ _ _ _ _ _ _ _ _ _
   | exact ih1 _ _ _ _ _ _ _ _ _ _
   | exact ih2 _ _ _ _
   | exact impl_RunFlow.mono _ _ _ _
   | exact laws_eqBlockS.mono _ _ _
   | exact laws_eqIntS.mono _ _ _
   | exact laws_heldIntS.mono _ _ _
   | exact laws_markBlockS.mono _ _ _
   | exact laws_markIntS.mono _ _ _
   | exact laws_szBlockS.mono _ _ _
   | exact laws_toBlockS.mono _ _
   | exact laws_toIntS.mono _ _
   | exact spec_RunFlow.mono _ _ _ _
   | exact LeO.none _
   | refine LeO.ite ?_ ?_
   | refine LeO.bind ?_ (fun _ => ?_)
set_option maxHeartbeats 8000000 in
set_option maxRecDepth 100000 in
theorem laws_FnExactRunFlow.calls (k : Nat) (A0 : Option Addr) (c0 : Nat) (l0 : List (S76)) (A1 : Option Addr) (c1 : Nat) (l1 : List Int) (a2 : Int) (w : World) (hr0 : Kd.C k76 w A0 l0.length l0) (hc0 : l0.length ≤ c0) (hr1 : Kd.C (Kd.int .i64) w A1 l1.length l1) (hc1 : l1.length ≤ c1) (h : laws_FnExactRunFlow.f k l0 l1 a2 = some true) :
  Calls Try.prog 9 #[.slice A0 l0.length c0, .slice A1 l1.length c1, .int .i64 a2] w fun e w' => e = .returned (.bool true) ∧ Below w.heap.size w w' := by
 have HR0 := Aside0.mk hr0
 have HC0 := Aside0.mk hc0
 clear hr0 hc0
 have HR1 := Aside0.mk hr1
 have HC1 := Aside0.mk hc1
 clear hr1 hc1
 have HB := Aside0.mk (Below.refl w.heap.size w)
 have H : (if (l1.length : Int) > 1048576 then (some true) else ((laws_szBlockS.f k l0 1048576).bind fun t304 => (if t304 < 0 then (some true) else ((laws_toBlockS.f k l0).bind fun t305 => ((laws_toIntS.f k l1).bind fun t308 => ((spec_RunFlow.f k t305 t308 a2).bind fun bt311 => ((laws_toBlockS.f k l0).bind fun t319 => ((laws_toIntS.f k l1).bind fun t322 => ((impl_RunFlow.f k t319 t322 a2).bind fun bt325 => ((laws_eqIntS.f k bt325.1 bt311.1).bind fun t333 => (if t333 = true then ((laws_eqIntS.f k bt325.2.1 bt311.2.1).bind fun t334 => (if t334 = true then (if bt325.2.2.1 = bt311.2.2.1 then (laws_FnExactRunFlow.j0 k l0 l1 a2 bt311.1 bt311.2.1 bt311.2.2.1 bt311.2.2.2 t319 t322 bt325.1 bt325.2.1 bt325.2.2.1 bt325.2.2.2 (bt325.2.2.2 != bt311.2.2.2)) else (laws_FnExactRunFlow.j0 k l0 l1 a2 bt311.1 bt311.2.1 bt311.2.2.1 bt311.2.2.2 t319 t322 bt325.1 bt325.2.1 bt325.2.2.1 bt325.2.2.2 true)) else (laws_FnExactRunFlow.j0 k l0 l1 a2 bt311.1 bt311.2.1 bt311.2.2.1 bt311.2.2.2 t319 t322 bt325.1 bt325.2.1 bt325.2.2.1 bt325.2.2.2 true))) else (laws_FnExactRunFlow.j0 k l0 l1 a2 bt311.1 bt311.2.1 bt311.2.2.1 bt311.2.2.2 t319 t322 bt325.1 bt325.2.1 bt325.2.2.1 bt325.2.2.2 true)))))))))))) = some true := h
 clear h
 by_cases c4 : (l1.length : Int) > 1048576
 ·rw [if_pos c4] at H
  have c4b0 : decide (1048576 < (l1.length : Int)) = true := decide_eq_true c4
  have c4b1 : decide (1048576 < l1.length) = true := decide_eq_true (by omega)
  clear c4
  clear H
  go_enter Try.func9, Try.ntmps9
  go_wp2
  go_ret
  exact ⟨by first | rfl | (simp [errW_none, errW_some] <;> rfl) | (simp [*, errW_none, errW_some] <;> rfl), by repeat (first | (with_reducible first | exact HB.out | apply below_alloc | apply pw_below_drewN | apply below_drew1) | exact HB.out)⟩
 ·rw [if_neg c4] at H
  have c4b0 : decide (1048576 < (l1.length : Int)) = false := decide_eq_false c4
  have c4b1 : decide (1048576 < l1.length) = false := decide_eq_false (by omega)
  clear c4
  replace H := Option.bind_eq_some_iff.mp H
  obtain ⟨t304, A50, H⟩ := H
  replace H : (if t304 < 0 then (some true) else ((laws_toBlockS.f k l0).bind fun t305 => ((laws_toIntS.f k l1).bind fun t308 => ((spec_RunFlow.f k t305 t308 a2).bind fun bt311 => ((laws_toBlockS.f k l0).bind fun t319 => ((laws_toIntS.f k l1).bind fun t322 => ((impl_RunFlow.f k t319 t322 a2).bind fun bt325 => ((laws_eqIntS.f k bt325.1 bt311.1).bind fun t333 => (if t333 = true then ((laws_eqIntS.f k bt325.2.1 bt311.2.1).bind fun t334 => (if t334 = true then (if bt325.2.2.1 = bt311.2.2.1 then (laws_FnExactRunFlow.j0 k l0 l1 a2 bt311.1 bt311.2.1 bt311.2.2.1 bt311.2.2.2 t319 t322 bt325.1 bt325.2.1 bt325.2.2.1 bt325.2.2.2 (bt325.2.2.2 != bt311.2.2.2)) else (laws_FnExactRunFlow.j0 k l0 l1 a2 bt311.1 bt311.2.1 bt311.2.2.1 bt311.2.2.2 t319 t322 bt325.1 bt325.2.1 bt325.2.2.1 bt325.2.2.2 true)) else (laws_FnExactRunFlow.j0 k l0 l1 a2 bt311.1 bt311.2.1 bt311.2.2.1 bt311.2.2.2 t319 t322 bt325.1 bt325.2.1 bt325.2.2.1 bt325.2.2.2 true))) else (laws_FnExactRunFlow.j0 k l0 l1 a2 bt311.1 bt311.2.1 bt311.2.2.1 bt311.2.2.2 t319 t322 bt325.1 bt325.2.1 bt325.2.2.1 bt325.2.2.2 true)))))))))) = some true := H
  have A5 := Aside0.mk A50
  clear A50
  by_cases c6 : t304 < 0
  ·rw [if_pos c6] at H
   have c6b0 : decide (t304 < 0) = true := decide_eq_true c6
   clear c6
   clear H
   go_enter Try.func9, Try.ntmps9
   go_wp2_with (first | ((with_reducible refine gate_callee (f := 19) rfl ?_); refine goesL_ (some 30) rfl rfl Try.func19 (by kernel_rfl) rfl #[.slice A0 l0.length c0, .int .i64 1048576] rfl (by (try simp only [List.map_toArray, List.map_cons, List.map_nil]); first | done | rfl | (simp only [List.length_drop, List.length_take]; rfl)) ?_; (with_reducible refine (laws_szBlockS.calls k _ _ l0 1048576 t304 _ ?side1 ?side2 A5.out).mono ?_); (case side1 => repeat (first | exact HR0.out | (with_reducible refine Kd.C_alloc ?_ _) | (with_reducible refine Kd.C_drewN ?_ _) | (with_reducible refine Kd.C_drew ?_))); (case side2 => exact HC0.out); rintro e w7 ⟨rfl, hb⟩; refine ⟨_, rfl, ?_⟩; have n0_ := Aside0.mk (below_step (by repeat (first | (with_reducible first | exact HB.out | apply below_alloc | apply pw_below_drewN | apply below_drew1) | exact HB.out)) hb); clear HB; have HB := n0_; clear n0_; (try clear hb); (try clear hb2); (try clear hk); (try clear hi)))
   go_ret
   exact ⟨by first | rfl | (simp [errW_none, errW_some] <;> rfl) | (simp [*, errW_none, errW_some] <;> rfl), by repeat (first | (with_reducible first | exact HB.out | apply below_alloc | apply pw_below_drewN | apply below_drew1) | exact HB.out)⟩
  ·rw [if_neg c6] at H
   have c6b0 : decide (t304 < 0) = false := decide_eq_false c6
   clear c6
   replace H := Option.bind_eq_some_iff.mp H
   obtain ⟨t305, A80, H⟩ := H
   replace H : ((laws_toIntS.f k l1).bind fun t308 => ((spec_RunFlow.f k t305 t308 a2).bind fun bt311 => ((laws_toBlockS.f k l0).bind fun t319 => ((laws_toIntS.f k l1).bind fun t322 => ((impl_RunFlow.f k t319 t322 a2).bind fun bt325 => ((laws_eqIntS.f k bt325.1 bt311.1).bind fun t333 => (if t333 = true then ((laws_eqIntS.f k bt325.2.1 bt311.2.1).bind fun t334 => (if t334 = true then (if bt325.2.2.1 = bt311.2.2.1 then (laws_FnExactRunFlow.j0 k l0 l1 a2 bt311.1 bt311.2.1 bt311.2.2.1 bt311.2.2.2 t319 t322 bt325.1 bt325.2.1 bt325.2.2.1 bt325.2.2.2 (bt325.2.2.2 != bt311.2.2.2)) else (laws_FnExactRunFlow.j0 k l0 l1 a2 bt311.1 bt311.2.1 bt311.2.2.1 bt311.2.2.2 t319 t322 bt325.1 bt325.2.1 bt325.2.2.1 bt325.2.2.2 true)) else (laws_FnExactRunFlow.j0 k l0 l1 a2 bt311.1 bt311.2.1 bt311.2.2.1 bt311.2.2.2 t319 t322 bt325.1 bt325.2.1 bt325.2.2.1 bt325.2.2.2 true))) else (laws_FnExactRunFlow.j0 k l0 l1 a2 bt311.1 bt311.2.1 bt311.2.2.1 bt311.2.2.2 t319 t322 bt325.1 bt325.2.1 bt325.2.2.1 bt325.2.2.2 true)))))))) = some true := H
   have A8 := Aside0.mk A80
   clear A80
   replace H := Option.bind_eq_some_iff.mp H
   obtain ⟨t308, A90, H⟩ := H
   replace H : ((spec_RunFlow.f k t305 t308 a2).bind fun bt311 => ((laws_toBlockS.f k l0).bind fun t319 => ((laws_toIntS.f k l1).bind fun t322 => ((impl_RunFlow.f k t319 t322 a2).bind fun bt325 => ((laws_eqIntS.f k bt325.1 bt311.1).bind fun t333 => (if t333 = true then ((laws_eqIntS.f k bt325.2.1 bt311.2.1).bind fun t334 => (if t334 = true then (if bt325.2.2.1 = bt311.2.2.1 then (laws_FnExactRunFlow.j0 k l0 l1 a2 bt311.1 bt311.2.1 bt311.2.2.1 bt311.2.2.2 t319 t322 bt325.1 bt325.2.1 bt325.2.2.1 bt325.2.2.2 (bt325.2.2.2 != bt311.2.2.2)) else (laws_FnExactRunFlow.j0 k l0 l1 a2 bt311.1 bt311.2.1 bt311.2.2.1 bt311.2.2.2 t319 t322 bt325.1 bt325.2.1 bt325.2.2.1 bt325.2.2.2 true)) else (laws_FnExactRunFlow.j0 k l0 l1 a2 bt311.1 bt311.2.1 bt311.2.2.1 bt311.2.2.2 t319 t322 bt325.1 bt325.2.1 bt325.2.2.1 bt325.2.2.2 true))) else (laws_FnExactRunFlow.j0 k l0 l1 a2 bt311.1 bt311.2.1 bt311.2.2.1 bt311.2.2.2 t319 t322 bt325.1 bt325.2.1 bt325.2.2.1 bt325.2.2.2 true))))))) = some true := H
   have A9 := Aside0.mk A90
   clear A90
   replace H := Option.bind_eq_some_iff.mp H
   obtain ⟨⟨t311, t312, t313, t314⟩, A100, H⟩ := H
   replace H : ((laws_toBlockS.f k l0).bind fun t319 => ((laws_toIntS.f k l1).bind fun t322 => ((impl_RunFlow.f k t319 t322 a2).bind fun bt325 => ((laws_eqIntS.f k bt325.1 t311).bind fun t333 => (if t333 = true then ((laws_eqIntS.f k bt325.2.1 t312).bind fun t334 => (if t334 = true then (if bt325.2.2.1 = t313 then (laws_FnExactRunFlow.j0 k l0 l1 a2 t311 t312 t313 t314 t319 t322 bt325.1 bt325.2.1 bt325.2.2.1 bt325.2.2.2 (bt325.2.2.2 != t314)) else (laws_FnExactRunFlow.j0 k l0 l1 a2 t311 t312 t313 t314 t319 t322 bt325.1 bt325.2.1 bt325.2.2.1 bt325.2.2.2 true)) else (laws_FnExactRunFlow.j0 k l0 l1 a2 t311 t312 t313 t314 t319 t322 bt325.1 bt325.2.1 bt325.2.2.1 bt325.2.2.2 true))) else (laws_FnExactRunFlow.j0 k l0 l1 a2 t311 t312 t313 t314 t319 t322 bt325.1 bt325.2.1 bt325.2.2.1 bt325.2.2.2 true)))))) = some true := H
   have A10 := Aside0.mk A100
   clear A100
   replace H := Option.bind_eq_some_iff.mp H
   obtain ⟨t319, A110, H⟩ := H
   replace H : ((laws_toIntS.f k l1).bind fun t322 => ((impl_RunFlow.f k t319 t322 a2).bind fun bt325 => ((laws_eqIntS.f k bt325.1 t311).bind fun t333 => (if t333 = true then ((laws_eqIntS.f k bt325.2.1 t312).bind fun t334 => (if t334 = true then (if bt325.2.2.1 = t313 then (laws_FnExactRunFlow.j0 k l0 l1 a2 t311 t312 t313 t314 t319 t322 bt325.1 bt325.2.1 bt325.2.2.1 bt325.2.2.2 (bt325.2.2.2 != t314)) else (laws_FnExactRunFlow.j0 k l0 l1 a2 t311 t312 t313 t314 t319 t322 bt325.1 bt325.2.1 bt325.2.2.1 bt325.2.2.2 true)) else (laws_FnExactRunFlow.j0 k l0 l1 a2 t311 t312 t313 t314 t319 t322 bt325.1 bt325.2.1 bt325.2.2.1 bt325.2.2.2 true))) else (laws_FnExactRunFlow.j0 k l0 l1 a2 t311 t312 t313 t314 t319 t322 bt325.1 bt325.2.1 bt325.2.2.1 bt325.2.2.2 true))))) = some true := H
   have A11 := Aside0.mk A110
   clear A110
   replace H := Option.bind_eq_some_iff.mp H
   obtain ⟨t322, A120, H⟩ := H
   replace H : ((impl_RunFlow.f k t319 t322 a2).bind fun bt325 => ((laws_eqIntS.f k bt325.1 t311).bind fun t333 => (if t333 = true then ((laws_eqIntS.f k bt325.2.1 t312).bind fun t334 => (if t334 = true then (if bt325.2.2.1 = t313 then (laws_FnExactRunFlow.j0 k l0 l1 a2 t311 t312 t313 t314 t319 t322 bt325.1 bt325.2.1 bt325.2.2.1 bt325.2.2.2 (bt325.2.2.2 != t314)) else (laws_FnExactRunFlow.j0 k l0 l1 a2 t311 t312 t313 t314 t319 t322 bt325.1 bt325.2.1 bt325.2.2.1 bt325.2.2.2 true)) else (laws_FnExactRunFlow.j0 k l0 l1 a2 t311 t312 t313 t314 t319 t322 bt325.1 bt325.2.1 bt325.2.2.1 bt325.2.2.2 true))) else (laws_FnExactRunFlow.j0 k l0 l1 a2 t311 t312 t313 t314 t319 t322 bt325.1 bt325.2.1 bt325.2.2.1 bt325.2.2.2 true)))) = some true := H
   have A12 := Aside0.mk A120
   clear A120
   replace H := Option.bind_eq_some_iff.mp H
   obtain ⟨⟨t325, t326, t327, t328⟩, A130, H⟩ := H
   replace H : ((laws_eqIntS.f k t325 t311).bind fun t333 => (if t333 = true then ((laws_eqIntS.f k t326 t312).bind fun t334 => (if t334 = true then (if t327 = t313 then (laws_FnExactRunFlow.j0 k l0 l1 a2 t311 t312 t313 t314 t319 t322 t325 t326 t327 t328 (t328 != t314)) else (laws_FnExactRunFlow.j0 k l0 l1 a2 t311 t312 t313 t314 t319 t322 t325 t326 t327 t328 true)) else (laws_FnExactRunFlow.j0 k l0 l1 a2 t311 t312 t313 t314 t319 t322 t325 t326 t327 t328 true))) else (laws_FnExactRunFlow.j0 k l0 l1 a2 t311 t312 t313 t314 t319 t322 t325 t326 t327 t328 true))) = some true := H
   have A13 := Aside0.mk A130
   clear A130
   have HC14 := Aside0.mk H
   clear H
   go_enter Try.func9, Try.ntmps9
   go_upto_region 11 with (first | ((with_reducible refine gate_callee (f := 19) rfl ?_); refine goesL_ (some 30) rfl rfl Try.func19 (by kernel_rfl) rfl #[.slice A0 l0.length c0, .int .i64 1048576] rfl (by (try simp only [List.map_toArray, List.map_cons, List.map_nil]); first | done | rfl | (simp only [List.length_drop, List.length_take]; rfl)) ?_; (with_reducible refine (laws_szBlockS.calls k _ _ l0 1048576 t304 _ ?side1 ?side2 A5.out).mono ?_); (case side1 => repeat (first | exact HR0.out | (with_reducible refine Kd.C_alloc ?_ _) | (with_reducible refine Kd.C_drewN ?_ _) | (with_reducible refine Kd.C_drew ?_))); (case side2 => exact HC0.out); rintro e w15 ⟨rfl, hb⟩; refine ⟨_, rfl, ?_⟩; have n0_ := Aside0.mk (below_step (by repeat (first | (with_reducible first | exact HB.out | apply below_alloc | apply pw_below_drewN | apply below_drew1) | exact HB.out)) hb); clear HB; have HB := n0_; clear n0_; (try clear hb); (try clear hb2); (try clear hk); (try clear hi)) | ((with_reducible refine gate_callee (f := 21) rfl ?_); refine goesL_ (some 35) rfl rfl Try.func21 (by kernel_rfl) rfl #[.slice A0 l0.length c0] rfl (by (try simp only [List.map_toArray, List.map_cons, List.map_nil]); first | done | rfl | (simp only [List.length_drop, List.length_take]; rfl)) ?_; (with_reducible refine (laws_toBlockS.calls k _ _ l0 t305 _ ?side1 ?side2 A8.out).mono ?_); (case side1 => repeat (first | exact (Kd.C_below HR0.out HB.out) | (with_reducible refine Kd.C_alloc ?_ _) | (with_reducible refine Kd.C_drewN ?_ _) | (with_reducible refine Kd.C_drew ?_))); (case side2 => exact HC0.out); rintro e w16 ⟨v306, rfl, ho0, hb⟩; refine ⟨_, rfl, ?_⟩; have n0_ := Aside0.mk (Kd.S_lower ho0 (below_size (by repeat (first | (with_reducible first | exact HB.out | apply below_alloc | apply pw_below_drewN | apply below_drew1) | exact HB.out)))); have n1_ := Aside0.mk (below_step (by repeat (first | (with_reducible first | exact HB.out | apply below_alloc | apply pw_below_drewN | apply below_drew1) | exact HB.out)) hb); clear HB; have HO307 := n0_; have HB := n1_; clear n0_ n1_; (try clear hb); (try clear hb2); (try clear hk); (try clear hi); (try clear ho0)) | ((with_reducible refine gate_callee (f := 25) rfl ?_); refine goesL_ (some 37) rfl rfl Try.func25 (by kernel_rfl) rfl #[.slice A1 l1.length c1] rfl (by (try simp only [List.map_toArray, List.map_cons, List.map_nil]); first | done | rfl | (simp only [List.length_drop, List.length_take]; rfl)) ?_; (with_reducible refine (laws_toIntS.calls k _ _ l1 t308 _ ?side1 ?side2 A9.out).mono ?_); (case side1 => repeat (first | exact (Kd.C_below HR1.out HB.out) | (with_reducible refine Kd.C_alloc ?_ _) | (with_reducible refine Kd.C_drewN ?_ _) | (with_reducible refine Kd.C_drew ?_))); (case side2 => exact HC1.out); rintro e w17 ⟨v309, rfl, ho0, hb⟩; refine ⟨_, rfl, ?_⟩; have n0_ := Aside0.mk (Kd.S_below (by (with_reducible repeat (first | apply Kd.S_alloc | apply Kd.S_drewN | apply Kd.S_drew)); exact HO307.out) hb); have n1_ := Aside0.mk (Kd.R_lower ho0 (below_size (by repeat (first | (with_reducible first | exact HB.out | apply below_alloc | apply pw_below_drewN | apply below_drew1) | exact HB.out)))); have n2_ := Aside0.mk (below_step (by repeat (first | (with_reducible first | exact HB.out | apply below_alloc | apply pw_below_drewN | apply below_drew1) | exact HB.out)) hb); clear HO307; clear HB; have HO307 := n0_; have HO310 := n1_; have HB := n2_; clear n0_ n1_ n2_; (try clear hb); (try clear hb2); (try clear hk); (try clear hi); (try clear ho0); obtain ⟨Ao18, co18, eo18⟩ := Kd.S_slice HO307.out; subst eo18; obtain ⟨Ao19, co19, eo19⟩ := Kd.R_slice HO310.out; subst eo19) | ((with_reducible refine gate_callee (f := 41) rfl ?_); refine goesL_ (some 39) rfl rfl Try.func41 (by kernel_rfl) rfl #[.slice Ao18 t305.length co18, .slice Ao19 t308.length co19, .int .i64 a2] rfl (by (try simp only [List.map_toArray, List.map_cons, List.map_nil]); first | done | rfl | (simp only [List.length_drop, List.length_take]; rfl)) ?_; (with_reducible refine (spec_RunFlow.calls k _ _ t305 _ _ t308 a2 t311 t312 t313 t314 _ ?side1 ?side2 ?side3 ?side4 A10.out).mono ?_); (case side1 => repeat (first | exact (Kd.S_reads' HO307.out).2.2 | (with_reducible refine Kd.C_alloc ?_ _) | (with_reducible refine Kd.C_drewN ?_ _) | (with_reducible refine Kd.C_drew ?_))); (case side2 => exact (Kd.S_reads' HO307.out).2.1); (case side3 => repeat (first | exact (Kd.R_reads' HO310.out).2.2 | (with_reducible refine Kd.C_alloc ?_ _) | (with_reducible refine Kd.C_drewN ?_ _) | (with_reducible refine Kd.C_drew ?_))); (case side4 => exact (Kd.R_reads' HO310.out).2.1); rintro e w20 ⟨v315, v317, rfl, ho0, ho1, hb⟩; refine ⟨_, rfl, ?_⟩; have n0_ := Aside0.mk (Kd.S_below (by (with_reducible repeat (first | apply Kd.S_alloc | apply Kd.S_drewN | apply Kd.S_drew)); exact HO307.out) hb); have n1_ := Aside0.mk (Kd.R_mono (Kd.R_told (Kd.R_told (Kd.R_old (by (with_reducible repeat (first | apply Kd.R_alloc | apply Kd.R_drewN | apply Kd.R_drew)); exact HO310.out) hb) (Kd.R_base ho0)) (Kd.R_base ho1)) (fun _ h_ => h_.1)); have n2_ := Aside0.mk (Kd.R_lower (Kd.R_new' ho0 (Kd.R_lt (by (with_reducible repeat (first | apply Kd.R_alloc | apply Kd.R_drewN | apply Kd.R_drew)); exact HO310.out))) (below_size (by repeat (first | (with_reducible first | exact HB.out | apply below_alloc | apply pw_below_drewN | apply below_drew1) | exact HB.out)))); have n3_ := Aside0.mk (Kd.R_lower (Kd.R_new' ho1 (Kd.R_lt (by (with_reducible repeat (first | apply Kd.R_alloc | apply Kd.R_drewN | apply Kd.R_drew)); exact HO310.out))) (below_size (by repeat (first | (with_reducible first | exact HB.out | apply below_alloc | apply pw_below_drewN | apply below_drew1) | exact HB.out)))); have n4_ := Aside0.mk (below_step (by repeat (first | (with_reducible first | exact HB.out | apply below_alloc | apply pw_below_drewN | apply below_drew1) | exact HB.out)) hb); clear HO307; clear HO310; clear HB; have HO307 := n0_; have HO310 := n1_; have HO316 := n2_; have HO318 := n3_; have HB := n4_; clear n0_ n1_ n2_ n3_ n4_; (try clear hb); (try clear hb2); (try clear hk); (try clear hi); (try clear ho0); (try clear ho1)) | ((with_reducible refine gate_callee (f := 21) rfl ?_); refine goesL_ (some 45) rfl rfl Try.func21 (by kernel_rfl) rfl #[.slice A0 l0.length c0] rfl (by (try simp only [List.map_toArray, List.map_cons, List.map_nil]); first | done | rfl | (simp only [List.length_drop, List.length_take]; rfl)) ?_; (with_reducible refine (laws_toBlockS.calls k _ _ l0 t319 _ ?side1 ?side2 A11.out).mono ?_); (case side1 => repeat (first | exact (Kd.C_below HR0.out HB.out) | (with_reducible refine Kd.C_alloc ?_ _) | (with_reducible refine Kd.C_drewN ?_ _) | (with_reducible refine Kd.C_drew ?_))); (case side2 => exact HC0.out); rintro e w21 ⟨v320, rfl, ho0, hb⟩; refine ⟨_, rfl, ?_⟩; have n0_ := Aside0.mk (Kd.S_elder' (by (with_reducible repeat (first | apply Kd.S_alloc | apply Kd.S_drewN | apply Kd.S_drew)); exact HO307.out) (Kd.S_base ho0) hb); have n1_ := Aside0.mk (Kd.R_below (by (with_reducible repeat (first | apply Kd.R_alloc | apply Kd.R_drewN | apply Kd.R_drew)); exact HO310.out) hb); have n2_ := Aside0.mk (Kd.R_below (by (with_reducible repeat (first | apply Kd.R_alloc | apply Kd.R_drewN | apply Kd.R_drew)); exact HO316.out) hb); have n3_ := Aside0.mk (Kd.R_below (by (with_reducible repeat (first | apply Kd.R_alloc | apply Kd.R_drewN | apply Kd.R_drew)); exact HO318.out) hb); have n4_ := Aside0.mk (Kd.S_lower (Kd.S_new' ho0 (Kd.S_lt (by (with_reducible repeat (first | apply Kd.S_alloc | apply Kd.S_drewN | apply Kd.S_drew)); exact HO307.out))) (below_size (by repeat (first | (with_reducible first | exact HB.out | apply below_alloc | apply pw_below_drewN | apply below_drew1) | exact HB.out)))); have n5_ := Aside0.mk (below_step (by repeat (first | (with_reducible first | exact HB.out | apply below_alloc | apply pw_below_drewN | apply below_drew1) | exact HB.out)) hb); clear HO307; clear HO310; clear HO316; clear HO318; clear HB; have HO307 := n0_; have HO310 := n1_; have HO316 := n2_; have HO318 := n3_; have HO321 := n4_; have HB := n5_; clear n0_ n1_ n2_ n3_ n4_ n5_; (try clear hb); (try clear hb2); (try clear hk); (try clear hi); (try clear ho0)) | ((with_reducible refine gate_callee (f := 25) rfl ?_); refine goesL_ (some 47) rfl rfl Try.func25 (by kernel_rfl) rfl #[.slice A1 l1.length c1] rfl (by (try simp only [List.map_toArray, List.map_cons, List.map_nil]); first | done | rfl | (simp only [List.length_drop, List.length_take]; rfl)) ?_; (with_reducible refine (laws_toIntS.calls k _ _ l1 t322 _ ?side1 ?side2 A12.out).mono ?_); (case side1 => repeat (first | exact (Kd.C_below HR1.out HB.out) | (with_reducible refine Kd.C_alloc ?_ _) | (with_reducible refine Kd.C_drewN ?_ _) | (with_reducible refine Kd.C_drew ?_))); (case side2 => exact HC1.out); rintro e w22 ⟨v323, rfl, ho0, hb⟩; refine ⟨_, rfl, ?_⟩; have n0_ := Aside0.mk (Kd.S_below (by (with_reducible repeat (first | apply Kd.S_alloc | apply Kd.S_drewN | apply Kd.S_drew)); exact HO307.out) hb); have n1_ := Aside0.mk (Kd.R_elder' (by (with_reducible repeat (first | apply Kd.R_alloc | apply Kd.R_drewN | apply Kd.R_drew)); exact HO310.out) (Kd.R_base ho0) hb); have n2_ := Aside0.mk (Kd.R_elder' (by (with_reducible repeat (first | apply Kd.R_alloc | apply Kd.R_drewN | apply Kd.R_drew)); exact HO316.out) (Kd.R_base ho0) hb); have n3_ := Aside0.mk (Kd.R_elder' (by (with_reducible repeat (first | apply Kd.R_alloc | apply Kd.R_drewN | apply Kd.R_drew)); exact HO318.out) (Kd.R_base ho0) hb); have n4_ := Aside0.mk (Kd.S_below (by (with_reducible repeat (first | apply Kd.S_alloc | apply Kd.S_drewN | apply Kd.S_drew)); exact HO321.out) hb); have n5_ := Aside0.mk (Kd.R_lower (Kd.R_new' (Kd.R_new' (Kd.R_new' ho0 (Kd.R_lt (by (with_reducible repeat (first | apply Kd.R_alloc | apply Kd.R_drewN | apply Kd.R_drew)); exact HO310.out))) (Kd.R_lt (by (with_reducible repeat (first | apply Kd.R_alloc | apply Kd.R_drewN | apply Kd.R_drew)); exact HO316.out))) (Kd.R_lt (by (with_reducible repeat (first | apply Kd.R_alloc | apply Kd.R_drewN | apply Kd.R_drew)); exact HO318.out))) (below_size (by repeat (first | (with_reducible first | exact HB.out | apply below_alloc | apply pw_below_drewN | apply below_drew1) | exact HB.out)))); have n6_ := Aside0.mk (below_step (by repeat (first | (with_reducible first | exact HB.out | apply below_alloc | apply pw_below_drewN | apply below_drew1) | exact HB.out)) hb); clear HO307; clear HO310; clear HO316; clear HO318; clear HO321; clear HB; have HO307 := n0_; have HO310 := n1_; have HO316 := n2_; have HO318 := n3_; have HO321 := n4_; have HO324 := n5_; have HB := n6_; clear n0_ n1_ n2_ n3_ n4_ n5_ n6_; (try clear hb); (try clear hb2); (try clear hk); (try clear hi); (try clear ho0); obtain ⟨Ao23, co23, eo23⟩ := Kd.S_slice HO321.out; subst eo23; obtain ⟨Ao24, co24, eo24⟩ := Kd.R_slice HO324.out; subst eo24) | ((with_reducible refine gate_callee (f := 42) rfl ?_); refine goesL_ (some 52) rfl rfl Try.func42 (by kernel_rfl) rfl #[.slice Ao23 t319.length co23, .slice Ao24 t322.length co24, .int .i64 a2] rfl (by (try simp only [List.map_toArray, List.map_cons, List.map_nil]); first | done | rfl | (simp only [List.length_drop, List.length_take]; rfl)) ?_; (with_reducible refine (impl_RunFlow.calls k _ _ t319 _ _ t322 a2 t325 t326 t327 t328 _ ?side1 ?side2 ?side3 ?side4 A13.out).mono ?_); (case side1 => repeat (first | exact (Kd.S_reads' HO321.out).2.2 | (with_reducible refine Kd.C_alloc ?_ _) | (with_reducible refine Kd.C_drewN ?_ _) | (with_reducible refine Kd.C_drew ?_))); (case side2 => exact (Kd.S_reads' HO321.out).2.1); (case side3 => repeat (first | exact (Kd.R_reads' HO324.out).2.2 | (with_reducible refine Kd.C_alloc ?_ _) | (with_reducible refine Kd.C_drewN ?_ _) | (with_reducible refine Kd.C_drew ?_))); (case side4 => exact (Kd.R_reads' HO324.out).2.1); rintro e w25 ⟨v329, v331, rfl, ho0, ho1, hb⟩; refine ⟨_, rfl, ?_⟩; have n0_ := Aside0.mk (Kd.S_below (by (with_reducible repeat (first | apply Kd.S_alloc | apply Kd.S_drewN | apply Kd.S_drew)); exact HO307.out) hb); have n1_ := Aside0.mk (Kd.R_mono (Kd.R_told (Kd.R_told (Kd.R_old (by (with_reducible repeat (first | apply Kd.R_alloc | apply Kd.R_drewN | apply Kd.R_drew)); exact HO310.out) hb) (Kd.R_base ho0)) (Kd.R_base ho1)) (fun _ h_ => h_.1)); have n2_ := Aside0.mk (Kd.R_mono (Kd.R_told (Kd.R_told (Kd.R_old (by (with_reducible repeat (first | apply Kd.R_alloc | apply Kd.R_drewN | apply Kd.R_drew)); exact HO316.out) hb) (Kd.R_base ho0)) (Kd.R_base ho1)) (fun _ h_ => h_.1)); have n3_ := Aside0.mk (Kd.R_mono (Kd.R_told (Kd.R_told (Kd.R_old (by (with_reducible repeat (first | apply Kd.R_alloc | apply Kd.R_drewN | apply Kd.R_drew)); exact HO318.out) hb) (Kd.R_base ho0)) (Kd.R_base ho1)) (fun _ h_ => h_.1)); have n4_ := Aside0.mk (Kd.S_below (by (with_reducible repeat (first | apply Kd.S_alloc | apply Kd.S_drewN | apply Kd.S_drew)); exact HO321.out) hb); have n5_ := Aside0.mk (Kd.R_mono (Kd.R_told (Kd.R_told (Kd.R_old (by (with_reducible repeat (first | apply Kd.R_alloc | apply Kd.R_drewN | apply Kd.R_drew)); exact HO324.out) hb) (Kd.R_base ho0)) (Kd.R_base ho1)) (fun _ h_ => h_.1)); have n6_ := Aside0.mk (Kd.R_lower (Kd.R_new' (Kd.R_new' (Kd.R_new' (Kd.R_new' ho0 (Kd.R_lt (by (with_reducible repeat (first | apply Kd.R_alloc | apply Kd.R_drewN | apply Kd.R_drew)); exact HO310.out))) (Kd.R_lt (by (with_reducible repeat (first | apply Kd.R_alloc | apply Kd.R_drewN | apply Kd.R_drew)); exact HO316.out))) (Kd.R_lt (by (with_reducible repeat (first | apply Kd.R_alloc | apply Kd.R_drewN | apply Kd.R_drew)); exact HO318.out))) (Kd.R_lt (by (with_reducible repeat (first | apply Kd.R_alloc | apply Kd.R_drewN | apply Kd.R_drew)); exact HO324.out))) (below_size (by repeat (first | (with_reducible first | exact HB.out | apply below_alloc | apply pw_below_drewN | apply below_drew1) | exact HB.out)))); have n7_ := Aside0.mk (Kd.R_lower (Kd.R_new' (Kd.R_new' (Kd.R_new' (Kd.R_new' ho1 (Kd.R_lt (by (with_reducible repeat (first | apply Kd.R_alloc | apply Kd.R_drewN | apply Kd.R_drew)); exact HO310.out))) (Kd.R_lt (by (with_reducible repeat (first | apply Kd.R_alloc | apply Kd.R_drewN | apply Kd.R_drew)); exact HO316.out))) (Kd.R_lt (by (with_reducible repeat (first | apply Kd.R_alloc | apply Kd.R_drewN | apply Kd.R_drew)); exact HO318.out))) (Kd.R_lt (by (with_reducible repeat (first | apply Kd.R_alloc | apply Kd.R_drewN | apply Kd.R_drew)); exact HO324.out))) (below_size (by repeat (first | (with_reducible first | exact HB.out | apply below_alloc | apply pw_below_drewN | apply below_drew1) | exact HB.out)))); have n8_ := Aside0.mk (below_step (by repeat (first | (with_reducible first | exact HB.out | apply below_alloc | apply pw_below_drewN | apply below_drew1) | exact HB.out)) hb); clear HO307; clear HO310; clear HO316; clear HO318; clear HO321; clear HO324; clear HB; have HO307 := n0_; have HO310 := n1_; have HO316 := n2_; have HO318 := n3_; have HO321 := n4_; have HO324 := n5_; have HO330 := n6_; have HO332 := n7_; have HB := n8_; clear n0_ n1_ n2_ n3_ n4_ n5_ n6_ n7_ n8_; (try clear hb); (try clear hb2); (try clear hk); (try clear hi); (try clear ho0); (try clear ho1)))
   (try simp only [Act.put, List.setIfInBounds_toArray, List.set_cons_zero, List.set_cons_succ])
   go_cut [76] (fun v76 wc => ∃ (kq : Nat) (x76_13 : Bool), v76 = .bool x76_13 ∧ Aside0 (laws_FnExactRunFlow.j0 kq l0 l1 a2 t311 t312 t313 t314 t319 t322 t325 t326 t327 t328 x76_13 = some true) ∧ Aside0 (kq ≤ k) ∧ Aside0 (Kd.R (Kd.int .i64) 3 wc w.heap.size (fun k_ => some k_ ≠ (v317 : Value).ownBlock ∧ some k_ ≠ ((.slice Ao24 t322.length co24) : Value).ownBlock ∧ some k_ ≠ (v329 : Value).ownBlock ∧ some k_ ≠ (v331 : Value).ownBlock) v315 t311) ∧ Aside0 (Kd.R (Kd.int .i64) 3 wc w.heap.size (fun k_ => some k_ ≠ (v315 : Value).ownBlock ∧ some k_ ≠ ((.slice Ao24 t322.length co24) : Value).ownBlock ∧ some k_ ≠ (v329 : Value).ownBlock ∧ some k_ ≠ (v331 : Value).ownBlock) v317 t312) ∧ Aside0 (Kd.S k78 78 wc w.heap.size (fun _ => True) (.slice Ao23 t319.length co23) t319) ∧ Aside0 (Kd.R (Kd.int .i64) 3 wc w.heap.size (fun k_ => some k_ ≠ (v315 : Value).ownBlock ∧ some k_ ≠ (v317 : Value).ownBlock ∧ some k_ ≠ (v329 : Value).ownBlock ∧ some k_ ≠ (v331 : Value).ownBlock) (.slice Ao24 t322.length co24) t322) ∧ Aside0 (Kd.R (Kd.int .i64) 3 wc w.heap.size (fun k_ => some k_ ≠ (v315 : Value).ownBlock ∧ some k_ ≠ (v317 : Value).ownBlock ∧ some k_ ≠ ((.slice Ao24 t322.length co24) : Value).ownBlock ∧ some k_ ≠ (v331 : Value).ownBlock) v329 t325) ∧ Aside0 (Kd.R (Kd.int .i64) 3 wc w.heap.size (fun k_ => some k_ ≠ (v315 : Value).ownBlock ∧ some k_ ≠ (v317 : Value).ownBlock ∧ some k_ ≠ ((.slice Ao24 t322.length co24) : Value).ownBlock ∧ some k_ ≠ (v329 : Value).ownBlock) v331 t326) ∧ Aside0 (Below w.heap.size w wc))
   case first =>
    have H := HC14.out
    clear HC14
    replace H := Option.bind_eq_some_iff.mp H
    obtain ⟨t333, A260, H⟩ := H
    replace H : (if t333 = true then ((laws_eqIntS.f k t326 t312).bind fun t334 => (if t334 = true then (if t327 = t313 then (laws_FnExactRunFlow.j0 k l0 l1 a2 t311 t312 t313 t314 t319 t322 t325 t326 t327 t328 (t328 != t314)) else (laws_FnExactRunFlow.j0 k l0 l1 a2 t311 t312 t313 t314 t319 t322 t325 t326 t327 t328 true)) else (laws_FnExactRunFlow.j0 k l0 l1 a2 t311 t312 t313 t314 t319 t322 t325 t326 t327 t328 true))) else (laws_FnExactRunFlow.j0 k l0 l1 a2 t311 t312 t313 t314 t319 t322 t325 t326 t327 t328 true)) = some true := H
    have A26 := Aside0.mk A260
    clear A260
    by_cases c27 : t333 = true
    ·subst c27
     have H1 : ((laws_eqIntS.f k t326 t312).bind fun t334 => (if t334 = true then (if t327 = t313 then (laws_FnExactRunFlow.j0 k l0 l1 a2 t311 t312 t313 t314 t319 t322 t325 t326 t327 t328 (t328 != t314)) else (laws_FnExactRunFlow.j0 k l0 l1 a2 t311 t312 t313 t314 t319 t322 t325 t326 t327 t328 true)) else (laws_FnExactRunFlow.j0 k l0 l1 a2 t311 t312 t313 t314 t319 t322 t325 t326 t327 t328 true))) = some true := by rw [if_pos rfl] at H; exact H
     clear H
     have H := H1
     clear H1
     replace H := Option.bind_eq_some_iff.mp H
     obtain ⟨t334, A280, H⟩ := H
     replace H : (if t334 = true then (if t327 = t313 then (laws_FnExactRunFlow.j0 k l0 l1 a2 t311 t312 t313 t314 t319 t322 t325 t326 t327 t328 (t328 != t314)) else (laws_FnExactRunFlow.j0 k l0 l1 a2 t311 t312 t313 t314 t319 t322 t325 t326 t327 t328 true)) else (laws_FnExactRunFlow.j0 k l0 l1 a2 t311 t312 t313 t314 t319 t322 t325 t326 t327 t328 true)) = some true := H
     have A28 := Aside0.mk A280
     clear A280
     by_cases c29 : t334 = true
     ·subst c29
      have H1 : (if t327 = t313 then (laws_FnExactRunFlow.j0 k l0 l1 a2 t311 t312 t313 t314 t319 t322 t325 t326 t327 t328 (t328 != t314)) else (laws_FnExactRunFlow.j0 k l0 l1 a2 t311 t312 t313 t314 t319 t322 t325 t326 t327 t328 true)) = some true := by rw [if_pos rfl] at H; exact H
      clear H
      have H := H1
      clear H1
      by_cases c30 : t327 = t313
      ·rw [if_pos c30] at H
       have c30b0 : (t327 == t313) = true := beq_iff_eq.mpr c30
       have c30b1 : (t327 != t313) = false := bne_eq_false_iff_eq.mpr c30
       clear c30
       (first | rw [c30b0] | (simp only [i64_w, i32_w]; rw [c30b0]) | skip)
       have H' := Aside0.mk H
       clear H
       obtain ⟨Ao31, co31, eo31⟩ := Kd.R_slice HO330.out
       subst eo31
       obtain ⟨Ao32, co32, eo32⟩ := Kd.R_slice HO316.out
       subst eo32
       go_wp2_with (first | ((with_reducible refine gate_callee (f := 27) rfl ?_); refine goesL_ (some 59) rfl rfl Try.func27 (by kernel_rfl) rfl #[.slice Ao31 t325.length co31, .slice Ao32 t311.length co32] rfl (by (try simp only [List.map_toArray, List.map_cons, List.map_nil]); first | done | rfl | (simp only [List.length_drop, List.length_take]; rfl)) ?_; (with_reducible refine (laws_eqIntS.calls k _ _ t325 _ _ t311 true _ ?side1 ?side2 ?side3 ?side4 A26.out).mono ?_); (case side1 => repeat (first | exact (Kd.R_reads' HO330.out).2.2 | (with_reducible refine Kd.C_alloc ?_ _) | (with_reducible refine Kd.C_drewN ?_ _) | (with_reducible refine Kd.C_drew ?_))); (case side2 => exact (Kd.R_reads' HO330.out).2.1); (case side3 => repeat (first | exact (Kd.R_reads' HO316.out).2.2 | (with_reducible refine Kd.C_alloc ?_ _) | (with_reducible refine Kd.C_drewN ?_ _) | (with_reducible refine Kd.C_drew ?_))); (case side4 => exact (Kd.R_reads' HO316.out).2.1); rintro e w' ⟨rfl, ⟨nd, rfl⟩⟩; refine ⟨_, rfl, ?_⟩; obtain ⟨Ao33, co33, eo33⟩ := Kd.R_slice HO332.out; subst eo33; obtain ⟨Ao34, co34, eo34⟩ := Kd.R_slice HO318.out; subst eo34) | (go_at_call 27; (with_reducible refine (laws_eqIntS.calls k _ _ t326 _ _ t312 true _ ?side1 ?side2 ?side3 ?side4 A28.out).mono ?_); (case side1 => repeat (first | exact (Kd.R_reads' HO332.out).2.2 | (with_reducible refine Kd.C_alloc ?_ _) | (with_reducible refine Kd.C_drewN ?_ _) | (with_reducible refine Kd.C_drew ?_))); (case side2 => exact (Kd.R_reads' HO332.out).2.1); (case side3 => repeat (first | exact (Kd.R_reads' HO318.out).2.2 | (with_reducible refine Kd.C_alloc ?_ _) | (with_reducible refine Kd.C_drewN ?_ _) | (with_reducible refine Kd.C_drew ?_))); (case side4 => exact (Kd.R_reads' HO318.out).2.1); rintro e w' ⟨rfl, ⟨nd, rfl⟩⟩))
       go_meet
       case rel => exact ⟨_, ((t328 != t314)), (by first | rfl | (simp; done) | (simp [*]; done)), H', ⟨by first | omega | exact Nat.le_refl _⟩, ⟨by (with_reducible repeat (first | apply Kd.R_alloc | apply Kd.R_drewN | apply Kd.R_drew)); exact Kd.R_mono HO316.out (fun _ hk => ⟨hk.1.1.1.1, ⟨hk.1.1.2, ⟨hk.1.2, hk.2⟩⟩⟩)⟩, ⟨by (with_reducible repeat (first | apply Kd.R_alloc | apply Kd.R_drewN | apply Kd.R_drew)); exact Kd.R_mono HO318.out (fun _ hk => ⟨hk.1.1.1.1, ⟨hk.1.1.2, ⟨hk.1.2, hk.2⟩⟩⟩)⟩, ⟨by (with_reducible repeat (first | apply Kd.S_alloc | apply Kd.S_drewN | apply Kd.S_drew)); exact Kd.S_mono HO321.out (fun _ hk => trivial)⟩, ⟨by (with_reducible repeat (first | apply Kd.R_alloc | apply Kd.R_drewN | apply Kd.R_drew)); exact Kd.R_mono HO324.out (fun _ hk => ⟨hk.1.1.1.2, ⟨hk.1.1.2, ⟨hk.1.2, hk.2⟩⟩⟩)⟩, ⟨by (with_reducible repeat (first | apply Kd.R_alloc | apply Kd.R_drewN | apply Kd.R_drew)); exact Kd.R_mono HO330.out (fun _ hk => ⟨hk.1.1.2, ⟨hk.1.2, ⟨hk.2, hk.1.1.1.1⟩⟩⟩)⟩, ⟨by (with_reducible repeat (first | apply Kd.R_alloc | apply Kd.R_drewN | apply Kd.R_drew)); exact Kd.R_mono HO332.out (fun _ hk => ⟨hk.1.1.2, ⟨hk.1.2, ⟨hk.2, hk.1.1.1.1⟩⟩⟩)⟩, ⟨by repeat (first | (with_reducible first | exact HB.out | apply below_alloc | apply pw_below_drewN | apply below_drew1) | exact HB.out)⟩⟩
      ·rw [if_neg c30] at H
       have c30b0 : (t327 == t313) = false := beq_eq_false_iff_ne.mpr c30
       have c30b1 : (t327 != t313) = true := bne_iff_ne.mpr c30
       (first | rw [c30b0] | (simp only [i64_w, i32_w]; rw [c30b0]) | skip)
       exact absurd H (by cases k <;> simp [laws_FnExactRunFlow.j0])
     ·replace c29 := Bool.eq_false_iff.mpr c29
      subst c29
      have H1 : (laws_FnExactRunFlow.j0 k l0 l1 a2 t311 t312 t313 t314 t319 t322 t325 t326 t327 t328 true) = some true := by rw [if_neg (show ¬ (false = true) by decide)] at H; exact H
      clear H
      have H := H1
      clear H1
      exact absurd H (by cases k <;> simp [laws_FnExactRunFlow.j0])
    ·replace c27 := Bool.eq_false_iff.mpr c27
     subst c27
     have H1 : (laws_FnExactRunFlow.j0 k l0 l1 a2 t311 t312 t313 t314 t319 t322 t325 t326 t327 t328 true) = some true := by rw [if_neg (show ¬ (false = true) by decide)] at H; exact H
     clear H
     have H := H1
     clear H1
     exact absurd H (by cases k <;> simp [laws_FnExactRunFlow.j0])
   case rest =>
    clear HC14
    try clear c1
    try clear c2
    try clear p2
    try clear c3
    try clear c4
    try clear c4b0
    try clear c4b1
    try clear c6
    try clear c6b0
    try clear c9
    try clear c19
    try clear c21
    try clear c25
    try clear c27
    try clear c29
    try clear c30
    try clear c30b0
    try clear c30b1
    obtain ⟨kq, x76_13, rfl, HA, HJ13, HO_8, HO_9, HO_12, HO_13, HO_14, HO_15, HB⟩ := hcut
    cases kq with
    | zero => exact absurd HA.out (by simp [laws_FnExactRunFlow.j0])
    | succ kj13 =>
     have H := HA.out
     clear HA
     simp only [laws_FnExactRunFlow.j0] at H
     by_cases c35 : x76_13 = true
     ·subst c35
      have H1 : (some false) = some true := by rw [if_pos rfl] at H; exact H
      clear H
      have H := H1
      clear H1
      exact absurd H (by simp)
     ·replace c35 := Bool.eq_false_iff.mpr c35
      subst c35
      have H1 : ((laws_toBlockS.f kj13 l0).bind fun t335 => ((laws_eqBlockS.f kj13 t319 t335).bind fun t338 => (if t338 = true then ((laws_toIntS.f kj13 l1).bind fun t339 => ((laws_eqIntS.f kj13 t322 t339).bind fun t342 => (if t342 = true then ((laws_markBlockS.f kj13 t319 1).bind fun bt343 => ((laws_markIntS.f kj13 t322 bt343.1).bind fun bt345 => (if bt345.1 < 0 then (laws_FnExactRunFlow.j1 kj13 l0 l1 a2 t311 t312 t313 t314 t325 t326 true) else ((laws_eqIntS.f kj13 t325 t311).bind fun t347 => (if t347 = true then ((laws_eqIntS.f kj13 t326 t312).bind fun t348 => (if t348 = true then (if t327 = t313 then (laws_FnExactRunFlow.j1 kj13 l0 l1 a2 t311 t312 t313 t314 t325 t326 (t328 != t314)) else (laws_FnExactRunFlow.j1 kj13 l0 l1 a2 t311 t312 t313 t314 t325 t326 true)) else (laws_FnExactRunFlow.j1 kj13 l0 l1 a2 t311 t312 t313 t314 t325 t326 true))) else (laws_FnExactRunFlow.j1 kj13 l0 l1 a2 t311 t312 t313 t314 t325 t326 true)))))) else (some false)))) else (some false)))) = some true := by rw [if_neg (show ¬ (false = true) by decide)] at H; exact H
      clear H
      have H := H1
      clear H1
      replace H := Option.bind_eq_some_iff.mp H
      obtain ⟨t335, A360, H⟩ := H
      replace H : ((laws_eqBlockS.f kj13 t319 t335).bind fun t338 => (if t338 = true then ((laws_toIntS.f kj13 l1).bind fun t339 => ((laws_eqIntS.f kj13 t322 t339).bind fun t342 => (if t342 = true then ((laws_markBlockS.f kj13 t319 1).bind fun bt343 => ((laws_markIntS.f kj13 t322 bt343.1).bind fun bt345 => (if bt345.1 < 0 then (laws_FnExactRunFlow.j1 kj13 l0 l1 a2 t311 t312 t313 t314 t325 t326 true) else ((laws_eqIntS.f kj13 t325 t311).bind fun t347 => (if t347 = true then ((laws_eqIntS.f kj13 t326 t312).bind fun t348 => (if t348 = true then (if t327 = t313 then (laws_FnExactRunFlow.j1 kj13 l0 l1 a2 t311 t312 t313 t314 t325 t326 (t328 != t314)) else (laws_FnExactRunFlow.j1 kj13 l0 l1 a2 t311 t312 t313 t314 t325 t326 true)) else (laws_FnExactRunFlow.j1 kj13 l0 l1 a2 t311 t312 t313 t314 t325 t326 true))) else (laws_FnExactRunFlow.j1 kj13 l0 l1 a2 t311 t312 t313 t314 t325 t326 true)))))) else (some false)))) else (some false))) = some true := H
      have A36 := Aside0.mk A360
      clear A360
      replace H := Option.bind_eq_some_iff.mp H
      obtain ⟨t338, A370, H⟩ := H
      replace H : (if t338 = true then ((laws_toIntS.f kj13 l1).bind fun t339 => ((laws_eqIntS.f kj13 t322 t339).bind fun t342 => (if t342 = true then ((laws_markBlockS.f kj13 t319 1).bind fun bt343 => ((laws_markIntS.f kj13 t322 bt343.1).bind fun bt345 => (if bt345.1 < 0 then (laws_FnExactRunFlow.j1 kj13 l0 l1 a2 t311 t312 t313 t314 t325 t326 true) else ((laws_eqIntS.f kj13 t325 t311).bind fun t347 => (if t347 = true then ((laws_eqIntS.f kj13 t326 t312).bind fun t348 => (if t348 = true then (if t327 = t313 then (laws_FnExactRunFlow.j1 kj13 l0 l1 a2 t311 t312 t313 t314 t325 t326 (t328 != t314)) else (laws_FnExactRunFlow.j1 kj13 l0 l1 a2 t311 t312 t313 t314 t325 t326 true)) else (laws_FnExactRunFlow.j1 kj13 l0 l1 a2 t311 t312 t313 t314 t325 t326 true))) else (laws_FnExactRunFlow.j1 kj13 l0 l1 a2 t311 t312 t313 t314 t325 t326 true)))))) else (some false)))) else (some false)) = some true := H
      have A37 := Aside0.mk A370
      clear A370
      by_cases c38 : t338 = true
      ·subst c38
       have H1 : ((laws_toIntS.f kj13 l1).bind fun t339 => ((laws_eqIntS.f kj13 t322 t339).bind fun t342 => (if t342 = true then ((laws_markBlockS.f kj13 t319 1).bind fun bt343 => ((laws_markIntS.f kj13 t322 bt343.1).bind fun bt345 => (if bt345.1 < 0 then (laws_FnExactRunFlow.j1 kj13 l0 l1 a2 t311 t312 t313 t314 t325 t326 true) else ((laws_eqIntS.f kj13 t325 t311).bind fun t347 => (if t347 = true then ((laws_eqIntS.f kj13 t326 t312).bind fun t348 => (if t348 = true then (if t327 = t313 then (laws_FnExactRunFlow.j1 kj13 l0 l1 a2 t311 t312 t313 t314 t325 t326 (t328 != t314)) else (laws_FnExactRunFlow.j1 kj13 l0 l1 a2 t311 t312 t313 t314 t325 t326 true)) else (laws_FnExactRunFlow.j1 kj13 l0 l1 a2 t311 t312 t313 t314 t325 t326 true))) else (laws_FnExactRunFlow.j1 kj13 l0 l1 a2 t311 t312 t313 t314 t325 t326 true)))))) else (some false)))) = some true := by rw [if_pos rfl] at H; exact H
       clear H
       have H := H1
       clear H1
       replace H := Option.bind_eq_some_iff.mp H
       obtain ⟨t339, A390, H⟩ := H
       replace H : ((laws_eqIntS.f kj13 t322 t339).bind fun t342 => (if t342 = true then ((laws_markBlockS.f kj13 t319 1).bind fun bt343 => ((laws_markIntS.f kj13 t322 bt343.1).bind fun bt345 => (if bt345.1 < 0 then (laws_FnExactRunFlow.j1 kj13 l0 l1 a2 t311 t312 t313 t314 t325 t326 true) else ((laws_eqIntS.f kj13 t325 t311).bind fun t347 => (if t347 = true then ((laws_eqIntS.f kj13 t326 t312).bind fun t348 => (if t348 = true then (if t327 = t313 then (laws_FnExactRunFlow.j1 kj13 l0 l1 a2 t311 t312 t313 t314 t325 t326 (t328 != t314)) else (laws_FnExactRunFlow.j1 kj13 l0 l1 a2 t311 t312 t313 t314 t325 t326 true)) else (laws_FnExactRunFlow.j1 kj13 l0 l1 a2 t311 t312 t313 t314 t325 t326 true))) else (laws_FnExactRunFlow.j1 kj13 l0 l1 a2 t311 t312 t313 t314 t325 t326 true)))))) else (some false))) = some true := H
       have A39 := Aside0.mk A390
       clear A390
       replace H := Option.bind_eq_some_iff.mp H
       obtain ⟨t342, A400, H⟩ := H
       replace H : (if t342 = true then ((laws_markBlockS.f kj13 t319 1).bind fun bt343 => ((laws_markIntS.f kj13 t322 bt343.1).bind fun bt345 => (if bt345.1 < 0 then (laws_FnExactRunFlow.j1 kj13 l0 l1 a2 t311 t312 t313 t314 t325 t326 true) else ((laws_eqIntS.f kj13 t325 t311).bind fun t347 => (if t347 = true then ((laws_eqIntS.f kj13 t326 t312).bind fun t348 => (if t348 = true then (if t327 = t313 then (laws_FnExactRunFlow.j1 kj13 l0 l1 a2 t311 t312 t313 t314 t325 t326 (t328 != t314)) else (laws_FnExactRunFlow.j1 kj13 l0 l1 a2 t311 t312 t313 t314 t325 t326 true)) else (laws_FnExactRunFlow.j1 kj13 l0 l1 a2 t311 t312 t313 t314 t325 t326 true))) else (laws_FnExactRunFlow.j1 kj13 l0 l1 a2 t311 t312 t313 t314 t325 t326 true)))))) else (some false)) = some true := H
       have A40 := Aside0.mk A400
       clear A400
       by_cases c41 : t342 = true
       ·subst c41
        have H1 : ((laws_markBlockS.f kj13 t319 1).bind fun bt343 => ((laws_markIntS.f kj13 t322 bt343.1).bind fun bt345 => (if bt345.1 < 0 then (laws_FnExactRunFlow.j1 kj13 l0 l1 a2 t311 t312 t313 t314 t325 t326 true) else ((laws_eqIntS.f kj13 t325 t311).bind fun t347 => (if t347 = true then ((laws_eqIntS.f kj13 t326 t312).bind fun t348 => (if t348 = true then (if t327 = t313 then (laws_FnExactRunFlow.j1 kj13 l0 l1 a2 t311 t312 t313 t314 t325 t326 (t328 != t314)) else (laws_FnExactRunFlow.j1 kj13 l0 l1 a2 t311 t312 t313 t314 t325 t326 true)) else (laws_FnExactRunFlow.j1 kj13 l0 l1 a2 t311 t312 t313 t314 t325 t326 true))) else (laws_FnExactRunFlow.j1 kj13 l0 l1 a2 t311 t312 t313 t314 t325 t326 true)))))) = some true := by rw [if_pos rfl] at H; exact H
        clear H
        have H := H1
        clear H1
        replace H := Option.bind_eq_some_iff.mp H
        obtain ⟨⟨t343, t344⟩, A420, H⟩ := H
        replace H : ((laws_markIntS.f kj13 t322 t343).bind fun bt345 => (if bt345.1 < 0 then (laws_FnExactRunFlow.j1 kj13 l0 l1 a2 t311 t312 t313 t314 t325 t326 true) else ((laws_eqIntS.f kj13 t325 t311).bind fun t347 => (if t347 = true then ((laws_eqIntS.f kj13 t326 t312).bind fun t348 => (if t348 = true then (if t327 = t313 then (laws_FnExactRunFlow.j1 kj13 l0 l1 a2 t311 t312 t313 t314 t325 t326 (t328 != t314)) else (laws_FnExactRunFlow.j1 kj13 l0 l1 a2 t311 t312 t313 t314 t325 t326 true)) else (laws_FnExactRunFlow.j1 kj13 l0 l1 a2 t311 t312 t313 t314 t325 t326 true))) else (laws_FnExactRunFlow.j1 kj13 l0 l1 a2 t311 t312 t313 t314 t325 t326 true))))) = some true := H
        have A42 := Aside0.mk A420
        clear A420
        replace H := Option.bind_eq_some_iff.mp H
        obtain ⟨⟨t345, t346⟩, A430, H⟩ := H
        replace H : (if t345 < 0 then (laws_FnExactRunFlow.j1 kj13 l0 l1 a2 t311 t312 t313 t314 t325 t326 true) else ((laws_eqIntS.f kj13 t325 t311).bind fun t347 => (if t347 = true then ((laws_eqIntS.f kj13 t326 t312).bind fun t348 => (if t348 = true then (if t327 = t313 then (laws_FnExactRunFlow.j1 kj13 l0 l1 a2 t311 t312 t313 t314 t325 t326 (t328 != t314)) else (laws_FnExactRunFlow.j1 kj13 l0 l1 a2 t311 t312 t313 t314 t325 t326 true)) else (laws_FnExactRunFlow.j1 kj13 l0 l1 a2 t311 t312 t313 t314 t325 t326 true))) else (laws_FnExactRunFlow.j1 kj13 l0 l1 a2 t311 t312 t313 t314 t325 t326 true)))) = some true := H
        have A43 := Aside0.mk A430
        clear A430
        have HC44 := Aside0.mk H
        clear H
        go_upto_region 20 with (first | ((with_reducible refine gate_callee (f := 21) rfl ?_); refine goesL_ (some 79) rfl rfl Try.func21 (by kernel_rfl) rfl #[.slice A0 l0.length c0] rfl (by (try simp only [List.map_toArray, List.map_cons, List.map_nil]); first | done | rfl | (simp only [List.length_drop, List.length_take]; rfl)) ?_; (with_reducible refine (laws_toBlockS.calls kj13 _ _ l0 t335 _ ?side1 ?side2 A36.out).mono ?_); (case side1 => repeat (first | exact (Kd.C_below HR0.out HB.out) | (with_reducible refine Kd.C_alloc ?_ _) | (with_reducible refine Kd.C_drewN ?_ _) | (with_reducible refine Kd.C_drew ?_))); (case side2 => exact HC0.out); rintro e w45 ⟨v336, rfl, ho0, hb⟩; refine ⟨_, rfl, ?_⟩; have n0_ := Aside0.mk (Kd.R_below (by (with_reducible repeat (first | apply Kd.R_alloc | apply Kd.R_drewN | apply Kd.R_drew)); exact HO_8.out) hb); have n1_ := Aside0.mk (Kd.R_below (by (with_reducible repeat (first | apply Kd.R_alloc | apply Kd.R_drewN | apply Kd.R_drew)); exact HO_9.out) hb); have n2_ := Aside0.mk (Kd.S_elder' (by (with_reducible repeat (first | apply Kd.S_alloc | apply Kd.S_drewN | apply Kd.S_drew)); exact HO_12.out) (Kd.S_base ho0) hb); have n3_ := Aside0.mk (Kd.R_below (by (with_reducible repeat (first | apply Kd.R_alloc | apply Kd.R_drewN | apply Kd.R_drew)); exact HO_13.out) hb); have n4_ := Aside0.mk (Kd.R_below (by (with_reducible repeat (first | apply Kd.R_alloc | apply Kd.R_drewN | apply Kd.R_drew)); exact HO_14.out) hb); have n5_ := Aside0.mk (Kd.R_below (by (with_reducible repeat (first | apply Kd.R_alloc | apply Kd.R_drewN | apply Kd.R_drew)); exact HO_15.out) hb); have n6_ := Aside0.mk (Kd.S_lower (Kd.S_new' ho0 (Kd.S_lt (by (with_reducible repeat (first | apply Kd.S_alloc | apply Kd.S_drewN | apply Kd.S_drew)); exact HO_12.out))) (below_size (by repeat (first | (with_reducible first | exact HB.out | apply below_alloc | apply pw_below_drewN | apply below_drew1) | exact HB.out)))); have n7_ := Aside0.mk (below_step (by repeat (first | (with_reducible first | exact HB.out | apply below_alloc | apply pw_below_drewN | apply below_drew1) | exact HB.out)) hb); clear HO_8; clear HO_9; clear HO_12; clear HO_13; clear HO_14; clear HO_15; clear HB; have HO_8 := n0_; have HO_9 := n1_; have HO_12 := n2_; have HO_13 := n3_; have HO_14 := n4_; have HO_15 := n5_; have HO337 := n6_; have HB := n7_; clear n0_ n1_ n2_ n3_ n4_ n5_ n6_ n7_; (try clear hb); (try clear hb2); (try clear hk); (try clear hi); (try clear ho0); obtain ⟨Ao46, co46, eo46⟩ := Kd.S_slice HO337.out; subst eo46) | ((with_reducible refine gate_callee (f := 23) rfl ?_); refine goesL_ (some 80) rfl rfl Try.func23 (by kernel_rfl) rfl #[.slice Ao23 t319.length co23, .slice Ao46 t335.length co46] rfl (by (try simp only [List.map_toArray, List.map_cons, List.map_nil]); first | done | rfl | (simp only [List.length_drop, List.length_take]; rfl)) ?_; (with_reducible refine (laws_eqBlockS.calls kj13 _ _ t319 _ _ t335 true _ ?side1 ?side2 ?side3 ?side4 A37.out).mono ?_); (case side1 => repeat (first | exact (Kd.S_reads' HO_12.out).2.2 | (with_reducible refine Kd.C_alloc ?_ _) | (with_reducible refine Kd.C_drewN ?_ _) | (with_reducible refine Kd.C_drew ?_))); (case side2 => exact (Kd.S_reads' HO_12.out).2.1); (case side3 => repeat (first | exact (Kd.S_reads' HO337.out).2.2 | (with_reducible refine Kd.C_alloc ?_ _) | (with_reducible refine Kd.C_drewN ?_ _) | (with_reducible refine Kd.C_drew ?_))); (case side4 => exact (Kd.S_reads' HO337.out).2.1); rintro e w47 ⟨rfl, hb⟩; refine ⟨_, rfl, ?_⟩; have n0_ := Aside0.mk (Kd.R_below (by (with_reducible repeat (first | apply Kd.R_alloc | apply Kd.R_drewN | apply Kd.R_drew)); exact HO_8.out) hb); have n1_ := Aside0.mk (Kd.R_below (by (with_reducible repeat (first | apply Kd.R_alloc | apply Kd.R_drewN | apply Kd.R_drew)); exact HO_9.out) hb); have n2_ := Aside0.mk (Kd.S_below (by (with_reducible repeat (first | apply Kd.S_alloc | apply Kd.S_drewN | apply Kd.S_drew)); exact HO_12.out) hb); have n3_ := Aside0.mk (Kd.R_below (by (with_reducible repeat (first | apply Kd.R_alloc | apply Kd.R_drewN | apply Kd.R_drew)); exact HO_13.out) hb); have n4_ := Aside0.mk (Kd.R_below (by (with_reducible repeat (first | apply Kd.R_alloc | apply Kd.R_drewN | apply Kd.R_drew)); exact HO_14.out) hb); have n5_ := Aside0.mk (Kd.R_below (by (with_reducible repeat (first | apply Kd.R_alloc | apply Kd.R_drewN | apply Kd.R_drew)); exact HO_15.out) hb); have n6_ := Aside0.mk (Kd.S_below (by (with_reducible repeat (first | apply Kd.S_alloc | apply Kd.S_drewN | apply Kd.S_drew)); exact HO337.out) hb); have n7_ := Aside0.mk (below_step (by repeat (first | (with_reducible first | exact HB.out | apply below_alloc | apply pw_below_drewN | apply below_drew1) | exact HB.out)) hb); clear HO_8; clear HO_9; clear HO_12; clear HO_13; clear HO_14; clear HO_15; clear HO337; clear HB; have HO_8 := n0_; have HO_9 := n1_; have HO_12 := n2_; have HO_13 := n3_; have HO_14 := n4_; have HO_15 := n5_; have HO337 := n6_; have HB := n7_; clear n0_ n1_ n2_ n3_ n4_ n5_ n6_ n7_; (try clear hb); (try clear hb2); (try clear hk); (try clear hi)) | ((with_reducible refine gate_callee (f := 25) rfl ?_); refine goesL_ (some 84) rfl rfl Try.func25 (by kernel_rfl) rfl #[.slice A1 l1.length c1] rfl (by (try simp only [List.map_toArray, List.map_cons, List.map_nil]); first | done | rfl | (simp only [List.length_drop, List.length_take]; rfl)) ?_; (with_reducible refine (laws_toIntS.calls kj13 _ _ l1 t339 _ ?side1 ?side2 A39.out).mono ?_); (case side1 => repeat (first | exact (Kd.C_below HR1.out HB.out) | (with_reducible refine Kd.C_alloc ?_ _) | (with_reducible refine Kd.C_drewN ?_ _) | (with_reducible refine Kd.C_drew ?_))); (case side2 => exact HC1.out); rintro e w48 ⟨v340, rfl, ho0, hb⟩; refine ⟨_, rfl, ?_⟩; have n0_ := Aside0.mk (Kd.R_elder' (by (with_reducible repeat (first | apply Kd.R_alloc | apply Kd.R_drewN | apply Kd.R_drew)); exact HO_8.out) (Kd.R_base ho0) hb); have n1_ := Aside0.mk (Kd.R_elder' (by (with_reducible repeat (first | apply Kd.R_alloc | apply Kd.R_drewN | apply Kd.R_drew)); exact HO_9.out) (Kd.R_base ho0) hb); have n2_ := Aside0.mk (Kd.S_below (by (with_reducible repeat (first | apply Kd.S_alloc | apply Kd.S_drewN | apply Kd.S_drew)); exact HO_12.out) hb); have n3_ := Aside0.mk (Kd.R_elder' (by (with_reducible repeat (first | apply Kd.R_alloc | apply Kd.R_drewN | apply Kd.R_drew)); exact HO_13.out) (Kd.R_base ho0) hb); have n4_ := Aside0.mk (Kd.R_elder' (by (with_reducible repeat (first | apply Kd.R_alloc | apply Kd.R_drewN | apply Kd.R_drew)); exact HO_14.out) (Kd.R_base ho0) hb); have n5_ := Aside0.mk (Kd.R_elder' (by (with_reducible repeat (first | apply Kd.R_alloc | apply Kd.R_drewN | apply Kd.R_drew)); exact HO_15.out) (Kd.R_base ho0) hb); have n6_ := Aside0.mk (Kd.S_below (by (with_reducible repeat (first | apply Kd.S_alloc | apply Kd.S_drewN | apply Kd.S_drew)); exact HO337.out) hb); have n7_ := Aside0.mk (Kd.R_lower (Kd.R_new' (Kd.R_new' (Kd.R_new' (Kd.R_new' (Kd.R_new' ho0 (Kd.R_lt (by (with_reducible repeat (first | apply Kd.R_alloc | apply Kd.R_drewN | apply Kd.R_drew)); exact HO_8.out))) (Kd.R_lt (by (with_reducible repeat (first | apply Kd.R_alloc | apply Kd.R_drewN | apply Kd.R_drew)); exact HO_9.out))) (Kd.R_lt (by (with_reducible repeat (first | apply Kd.R_alloc | apply Kd.R_drewN | apply Kd.R_drew)); exact HO_13.out))) (Kd.R_lt (by (with_reducible repeat (first | apply Kd.R_alloc | apply Kd.R_drewN | apply Kd.R_drew)); exact HO_14.out))) (Kd.R_lt (by (with_reducible repeat (first | apply Kd.R_alloc | apply Kd.R_drewN | apply Kd.R_drew)); exact HO_15.out))) (below_size (by repeat (first | (with_reducible first | exact HB.out | apply below_alloc | apply pw_below_drewN | apply below_drew1) | exact HB.out)))); have n8_ := Aside0.mk (below_step (by repeat (first | (with_reducible first | exact HB.out | apply below_alloc | apply pw_below_drewN | apply below_drew1) | exact HB.out)) hb); clear HO_8; clear HO_9; clear HO_12; clear HO_13; clear HO_14; clear HO_15; clear HO337; clear HB; have HO_8 := n0_; have HO_9 := n1_; have HO_12 := n2_; have HO_13 := n3_; have HO_14 := n4_; have HO_15 := n5_; have HO337 := n6_; have HO341 := n7_; have HB := n8_; clear n0_ n1_ n2_ n3_ n4_ n5_ n6_ n7_ n8_; (try clear hb); (try clear hb2); (try clear hk); (try clear hi); (try clear ho0); obtain ⟨Ao49, co49, eo49⟩ := Kd.R_slice HO341.out; subst eo49) | ((with_reducible refine gate_callee (f := 27) rfl ?_); refine goesL_ (some 85) rfl rfl Try.func27 (by kernel_rfl) rfl #[.slice Ao24 t322.length co24, .slice Ao49 t339.length co49] rfl (by (try simp only [List.map_toArray, List.map_cons, List.map_nil]); first | done | rfl | (simp only [List.length_drop, List.length_take]; rfl)) ?_; (with_reducible refine (laws_eqIntS.calls kj13 _ _ t322 _ _ t339 true _ ?side1 ?side2 ?side3 ?side4 A40.out).mono ?_); (case side1 => repeat (first | exact (Kd.R_reads' HO_13.out).2.2 | (with_reducible refine Kd.C_alloc ?_ _) | (with_reducible refine Kd.C_drewN ?_ _) | (with_reducible refine Kd.C_drew ?_))); (case side2 => exact (Kd.R_reads' HO_13.out).2.1); (case side3 => repeat (first | exact (Kd.R_reads' HO341.out).2.2 | (with_reducible refine Kd.C_alloc ?_ _) | (with_reducible refine Kd.C_drewN ?_ _) | (with_reducible refine Kd.C_drew ?_))); (case side4 => exact (Kd.R_reads' HO341.out).2.1); rintro e w' ⟨rfl, ⟨nd, rfl⟩⟩; refine ⟨_, rfl, ?_⟩) | ((with_reducible refine gate_callee (f := 40) rfl ?_); refine goesL_ (some 89) rfl rfl Try.func40 (by kernel_rfl) rfl #[.slice Ao23 t319.length co23, .int .i64 1] rfl (by (try simp only [List.map_toArray, List.map_cons, List.map_nil]); first | done | rfl | (simp only [List.length_drop, List.length_take]; rfl)) ?_; (with_reducible refine (laws_markBlockS.calls kj13 ?PS_ (.slice Ao23 t319.length co23) t319 1 t343 t344 w _ ?side1 ?side2 A42.out).mono ?_); (case side1 => repeat (first | (with_reducible first | exact HB.out | apply below_alloc | apply pw_below_drewN | apply below_drew1) | exact HB.out)); (case side2 => exact Kd.S_bound (HO_12.out)); rintro e w50 ⟨rfl, hy0, hb, hkp⟩; refine ⟨_, rfl, ?_⟩; have n0_ := Aside0.mk (Kd.R_mono (ok' := fun k_ => some k_ ≠ (v317 : Value).ownBlock ∧ some k_ ≠ (.slice Ao24 t322.length co24 : Value).ownBlock ∧ some k_ ≠ (v329 : Value).ownBlock ∧ some k_ ≠ (v331 : Value).ownBlock ∧ some k_ ≠ (.slice Ao49 t339.length co49 : Value).ownBlock) (Kd.R_keptB ((Kd.R_apartB (d' := k78) (e' := 78) HO_8.out (by decide))) hkp (fun k_ hk_ hs_ => (hk_.2) hs_)) (fun k_ hk_ => ⟨hk_.1.1.1.1, hk_.1.1.1.2.1, hk_.1.1.1.2.2.1, hk_.1.1.1.2.2.2, hk_.1.1.2⟩)); have n1_ := Aside0.mk (Kd.R_mono (ok' := fun k_ => some k_ ≠ (v315 : Value).ownBlock ∧ some k_ ≠ (.slice Ao24 t322.length co24 : Value).ownBlock ∧ some k_ ≠ (v329 : Value).ownBlock ∧ some k_ ≠ (v331 : Value).ownBlock ∧ some k_ ≠ (.slice Ao49 t339.length co49 : Value).ownBlock) (Kd.R_keptB ((Kd.R_apartB (d' := k78) (e' := 78) HO_9.out (by decide))) hkp (fun k_ hk_ hs_ => (hk_.2) hs_)) (fun k_ hk_ => ⟨hk_.1.1.1.1, hk_.1.1.1.2.1, hk_.1.1.1.2.2.1, hk_.1.1.1.2.2.2, hk_.1.1.2⟩)); have n2_ := Aside0.mk (Kd.R_mono (ok' := fun k_ => some k_ ≠ (v315 : Value).ownBlock ∧ some k_ ≠ (v317 : Value).ownBlock ∧ some k_ ≠ (v329 : Value).ownBlock ∧ some k_ ≠ (v331 : Value).ownBlock ∧ some k_ ≠ (.slice Ao49 t339.length co49 : Value).ownBlock) (Kd.R_keptB ((Kd.R_apartB (d' := k78) (e' := 78) HO_13.out (by decide))) hkp (fun k_ hk_ hs_ => (hk_.2) hs_)) (fun k_ hk_ => ⟨hk_.1.1.1.1, hk_.1.1.1.2.1, hk_.1.1.1.2.2.1, hk_.1.1.1.2.2.2, hk_.1.1.2⟩)); have n3_ := Aside0.mk (Kd.R_mono (ok' := fun k_ => some k_ ≠ (v315 : Value).ownBlock ∧ some k_ ≠ (v317 : Value).ownBlock ∧ some k_ ≠ (.slice Ao24 t322.length co24 : Value).ownBlock ∧ some k_ ≠ (v331 : Value).ownBlock ∧ some k_ ≠ (.slice Ao49 t339.length co49 : Value).ownBlock) (Kd.R_keptB ((Kd.R_apartB (d' := k78) (e' := 78) HO_14.out (by decide))) hkp (fun k_ hk_ hs_ => (hk_.2) hs_)) (fun k_ hk_ => ⟨hk_.1.1.1.1, hk_.1.1.1.2.1, hk_.1.1.1.2.2.1, hk_.1.1.1.2.2.2, hk_.1.1.2⟩)); have n4_ := Aside0.mk (Kd.R_mono (ok' := fun k_ => some k_ ≠ (v315 : Value).ownBlock ∧ some k_ ≠ (v317 : Value).ownBlock ∧ some k_ ≠ (.slice Ao24 t322.length co24 : Value).ownBlock ∧ some k_ ≠ (v329 : Value).ownBlock ∧ some k_ ≠ (.slice Ao49 t339.length co49 : Value).ownBlock) (Kd.R_keptB ((Kd.R_apartB (d' := k78) (e' := 78) HO_15.out (by decide))) hkp (fun k_ hk_ hs_ => (hk_.2) hs_)) (fun k_ hk_ => ⟨hk_.1.1.1.1, hk_.1.1.1.2.1, hk_.1.1.1.2.2.1, hk_.1.1.1.2.2.2, hk_.1.1.2⟩)); have n5_ := Aside0.mk (Kd.R_mono (ok' := fun k_ => some k_ ≠ (v315 : Value).ownBlock ∧ some k_ ≠ (v317 : Value).ownBlock ∧ some k_ ≠ (.slice Ao24 t322.length co24 : Value).ownBlock ∧ some k_ ≠ (v329 : Value).ownBlock ∧ some k_ ≠ (v331 : Value).ownBlock) (Kd.R_keptB ((Kd.R_apartB (d' := k78) (e' := 78) HO341.out (by decide))) hkp (fun k_ hk_ hs_ => (hk_.2) hs_)) (fun k_ hk_ => ⟨hk_.1.1.1.1.1.1.2, hk_.1.1.1.1.1.2, hk_.1.1.1.1.2, hk_.1.1.1.2, hk_.1.1.2⟩)); have n6_ := Aside0.mk (hb); clear HO_8; clear HO_9; clear HO_13; clear HO_14; clear HO_15; clear HO341; clear HB; clear HO337; clear HO_12; have HO_8 := n0_; have HO_9 := n1_; have HO_13 := n2_; have HO_14 := n3_; have HO_15 := n4_; have HO341 := n5_; have HB := n6_; clear n0_ n1_ n2_ n3_ n4_ n5_ n6_; (try clear hb); (try clear hkp); (try clear hy0)) | ((with_reducible refine gate_callee (f := 29) rfl ?_); refine goesL_ (some 92) rfl rfl Try.func29 (by kernel_rfl) rfl #[.slice Ao24 t322.length co24, .int .i64 t343] rfl (by (try simp only [List.map_toArray, List.map_cons, List.map_nil]); first | done | rfl | (simp only [List.length_drop, List.length_take]; rfl)) ?_; (with_reducible refine (laws_markIntS.calls kj13 (fun k_ => some k_ = (.slice Ao24 t322.length co24 : Value).ownBlock) (.slice Ao24 t322.length co24) t322 t343 t345 t346 w _ ?side1 ?side2 A43.out).mono ?_); (case side1 => repeat (first | (with_reducible first | exact HB.out | apply below_alloc | apply pw_below_drewN | apply below_drew1) | exact HB.out)); (case side2 => exact Kd.R_tight rfl HO_13.out); rintro e w51 ⟨rfl, hy0, hb, hkp⟩; refine ⟨_, rfl, ?_⟩; have n0_ := Aside0.mk (Kd.R_mono (ok' := fun k_ => some k_ ≠ (v317 : Value).ownBlock ∧ some k_ ≠ (.slice Ao24 t322.length co24 : Value).ownBlock ∧ some k_ ≠ (v329 : Value).ownBlock ∧ some k_ ≠ (v331 : Value).ownBlock ∧ some k_ ≠ (.slice Ao49 t339.length co49 : Value).ownBlock) (Kd.R_keptB (HO_8.out) hkp (fun k_ hk_ hs_ => (hk_.2.1) hs_)) (fun k_ hk_ => ⟨hk_.1.1, hk_.1.2.1, hk_.1.2.2.1, hk_.1.2.2.2.1, hk_.1.2.2.2.2⟩)); have n1_ := Aside0.mk (Kd.R_mono (ok' := fun k_ => some k_ ≠ (v315 : Value).ownBlock ∧ some k_ ≠ (.slice Ao24 t322.length co24 : Value).ownBlock ∧ some k_ ≠ (v329 : Value).ownBlock ∧ some k_ ≠ (v331 : Value).ownBlock ∧ some k_ ≠ (.slice Ao49 t339.length co49 : Value).ownBlock) (Kd.R_keptB (HO_9.out) hkp (fun k_ hk_ hs_ => (hk_.2.1) hs_)) (fun k_ hk_ => ⟨hk_.1.1, hk_.1.2.1, hk_.1.2.2.1, hk_.1.2.2.2.1, hk_.1.2.2.2.2⟩)); have n2_ := Aside0.mk (Kd.R_reok rfl hy0 (fun k_ e_ => HO_13.out.1 k_ e_)); have n3_ := Aside0.mk (Kd.R_mono (ok' := fun k_ => some k_ ≠ (v315 : Value).ownBlock ∧ some k_ ≠ (v317 : Value).ownBlock ∧ some k_ ≠ (.slice Ao24 t322.length co24 : Value).ownBlock ∧ some k_ ≠ (v331 : Value).ownBlock ∧ some k_ ≠ (.slice Ao49 t339.length co49 : Value).ownBlock) (Kd.R_keptB (HO_14.out) hkp (fun k_ hk_ hs_ => (hk_.2.2.1) hs_)) (fun k_ hk_ => ⟨hk_.1.1, hk_.1.2.1, hk_.1.2.2.1, hk_.1.2.2.2.1, hk_.1.2.2.2.2⟩)); have n4_ := Aside0.mk (Kd.R_mono (ok' := fun k_ => some k_ ≠ (v315 : Value).ownBlock ∧ some k_ ≠ (v317 : Value).ownBlock ∧ some k_ ≠ (.slice Ao24 t322.length co24 : Value).ownBlock ∧ some k_ ≠ (v329 : Value).ownBlock ∧ some k_ ≠ (.slice Ao49 t339.length co49 : Value).ownBlock) (Kd.R_keptB (HO_15.out) hkp (fun k_ hk_ hs_ => (hk_.2.2.1) hs_)) (fun k_ hk_ => ⟨hk_.1.1, hk_.1.2.1, hk_.1.2.2.1, hk_.1.2.2.2.1, hk_.1.2.2.2.2⟩)); have n5_ := Aside0.mk (Kd.R_mono (ok' := fun k_ => some k_ ≠ (v315 : Value).ownBlock ∧ some k_ ≠ (v317 : Value).ownBlock ∧ some k_ ≠ (.slice Ao24 t322.length co24 : Value).ownBlock ∧ some k_ ≠ (v329 : Value).ownBlock ∧ some k_ ≠ (v331 : Value).ownBlock) (Kd.R_keptB (HO341.out) hkp (fun k_ hk_ hs_ => (hk_.2.2.1) hs_)) (fun k_ hk_ => ⟨hk_.1.1, hk_.1.2.1, hk_.1.2.2.1, hk_.1.2.2.2.1, hk_.1.2.2.2.2⟩)); have n6_ := Aside0.mk (hb); clear HO_8; clear HO_9; clear HO_13; clear HO_14; clear HO_15; clear HO341; clear HB; have HO_8 := n0_; have HO_9 := n1_; have HO_13 := n2_; have HO_14 := n3_; have HO_15 := n4_; have HO341 := n5_; have HB := n6_; clear n0_ n1_ n2_ n3_ n4_ n5_ n6_; (try clear hb); (try clear hkp); (try clear hy0)))
        (try simp only [Act.put, List.setIfInBounds_toArray, List.set_cons_zero, List.set_cons_succ])
        go_cut [116] (fun v116 wc => ∃ (kq : Nat) (x116_43 : Bool), v116 = .bool x116_43 ∧ Aside0 (laws_FnExactRunFlow.j1 kq l0 l1 a2 t311 t312 t313 t314 t325 t326 x116_43 = some true) ∧ Aside0 (kq ≤ kj13) ∧ Aside0 (Kd.R (Kd.int .i64) 3 wc w.heap.size (fun k_ => some k_ ≠ (v317 : Value).ownBlock ∧ some k_ ≠ (v329 : Value).ownBlock ∧ some k_ ≠ (v331 : Value).ownBlock) v315 t311) ∧ Aside0 (Kd.R (Kd.int .i64) 3 wc w.heap.size (fun k_ => some k_ ≠ (v315 : Value).ownBlock ∧ some k_ ≠ (v329 : Value).ownBlock ∧ some k_ ≠ (v331 : Value).ownBlock) v317 t312) ∧ Aside0 (Kd.R (Kd.int .i64) 3 wc w.heap.size (fun k_ => some k_ ≠ (v315 : Value).ownBlock ∧ some k_ ≠ (v317 : Value).ownBlock ∧ some k_ ≠ (v331 : Value).ownBlock) v329 t325) ∧ Aside0 (Kd.R (Kd.int .i64) 3 wc w.heap.size (fun k_ => some k_ ≠ (v315 : Value).ownBlock ∧ some k_ ≠ (v317 : Value).ownBlock ∧ some k_ ≠ (v329 : Value).ownBlock) v331 t326) ∧ Aside0 (Below w.heap.size w wc))
        case first =>
         have H := HC44.out
         clear HC44
         by_cases c52 : t345 < 0
         ·rw [if_pos c52] at H
          have c52b0 : decide (t345 < 0) = true := decide_eq_true c52
          clear c52
          (first | rw [c52b0] | (simp only [i64_w, i32_w]; rw [c52b0]) | skip)
          exact absurd H (by cases kj13 <;> simp [laws_FnExactRunFlow.j1])
         ·rw [if_neg c52] at H
          have c52b0 : decide (t345 < 0) = false := decide_eq_false c52
          clear c52
          (first | rw [c52b0] | (simp only [i64_w, i32_w]; rw [c52b0]) | skip)
          replace H := Option.bind_eq_some_iff.mp H
          obtain ⟨t347, A530, H⟩ := H
          replace H : (if t347 = true then ((laws_eqIntS.f kj13 t326 t312).bind fun t348 => (if t348 = true then (if t327 = t313 then (laws_FnExactRunFlow.j1 kj13 l0 l1 a2 t311 t312 t313 t314 t325 t326 (t328 != t314)) else (laws_FnExactRunFlow.j1 kj13 l0 l1 a2 t311 t312 t313 t314 t325 t326 true)) else (laws_FnExactRunFlow.j1 kj13 l0 l1 a2 t311 t312 t313 t314 t325 t326 true))) else (laws_FnExactRunFlow.j1 kj13 l0 l1 a2 t311 t312 t313 t314 t325 t326 true)) = some true := H
          have A53 := Aside0.mk A530
          clear A530
          by_cases c54 : t347 = true
          ·subst c54
           have H1 : ((laws_eqIntS.f kj13 t326 t312).bind fun t348 => (if t348 = true then (if t327 = t313 then (laws_FnExactRunFlow.j1 kj13 l0 l1 a2 t311 t312 t313 t314 t325 t326 (t328 != t314)) else (laws_FnExactRunFlow.j1 kj13 l0 l1 a2 t311 t312 t313 t314 t325 t326 true)) else (laws_FnExactRunFlow.j1 kj13 l0 l1 a2 t311 t312 t313 t314 t325 t326 true))) = some true := by rw [if_pos rfl] at H; exact H
           clear H
           have H := H1
           clear H1
           replace H := Option.bind_eq_some_iff.mp H
           obtain ⟨t348, A550, H⟩ := H
           replace H : (if t348 = true then (if t327 = t313 then (laws_FnExactRunFlow.j1 kj13 l0 l1 a2 t311 t312 t313 t314 t325 t326 (t328 != t314)) else (laws_FnExactRunFlow.j1 kj13 l0 l1 a2 t311 t312 t313 t314 t325 t326 true)) else (laws_FnExactRunFlow.j1 kj13 l0 l1 a2 t311 t312 t313 t314 t325 t326 true)) = some true := H
           have A55 := Aside0.mk A550
           clear A550
           by_cases c56 : t348 = true
           ·subst c56
            have H1 : (if t327 = t313 then (laws_FnExactRunFlow.j1 kj13 l0 l1 a2 t311 t312 t313 t314 t325 t326 (t328 != t314)) else (laws_FnExactRunFlow.j1 kj13 l0 l1 a2 t311 t312 t313 t314 t325 t326 true)) = some true := by rw [if_pos rfl] at H; exact H
            clear H
            have H := H1
            clear H1
            by_cases c57 : t327 = t313
            ·rw [if_pos c57] at H
             have c57b0 : (t327 == t313) = true := beq_iff_eq.mpr c57
             have c57b1 : (t327 != t313) = false := bne_eq_false_iff_eq.mpr c57
             clear c57
             have H' := Aside0.mk H
             clear H
             obtain ⟨Ao58, co58, eo58⟩ := Kd.R_slice HO_14.out
             subst eo58
             obtain ⟨Ao59, co59, eo59⟩ := Kd.R_slice HO_8.out
             subst eo59
             go_wp2_with (first | (go_at_call 27; (with_reducible refine (laws_eqIntS.calls kj13 _ _ t325 _ _ t311 true _ ?side1 ?side2 ?side3 ?side4 A53.out).mono ?_); (case side1 => repeat (first | exact (Kd.R_reads' HO_14.out).2.2 | (with_reducible refine Kd.C_alloc ?_ _) | (with_reducible refine Kd.C_drewN ?_ _) | (with_reducible refine Kd.C_drew ?_))); (case side2 => exact (Kd.R_reads' HO_14.out).2.1); (case side3 => repeat (first | exact (Kd.R_reads' HO_8.out).2.2 | (with_reducible refine Kd.C_alloc ?_ _) | (with_reducible refine Kd.C_drewN ?_ _) | (with_reducible refine Kd.C_drew ?_))); (case side4 => exact (Kd.R_reads' HO_8.out).2.1); rintro e w' ⟨rfl, ⟨nd, rfl⟩⟩; obtain ⟨Ao60, co60, eo60⟩ := Kd.R_slice HO_15.out; subst eo60; obtain ⟨Ao61, co61, eo61⟩ := Kd.R_slice HO_9.out; subst eo61) | (go_at_call 27; (with_reducible refine (laws_eqIntS.calls kj13 _ _ t326 _ _ t312 true _ ?side1 ?side2 ?side3 ?side4 A55.out).mono ?_); (case side1 => repeat (first | exact (Kd.R_reads' HO_15.out).2.2 | (with_reducible refine Kd.C_alloc ?_ _) | (with_reducible refine Kd.C_drewN ?_ _) | (with_reducible refine Kd.C_drew ?_))); (case side2 => exact (Kd.R_reads' HO_15.out).2.1); (case side3 => repeat (first | exact (Kd.R_reads' HO_9.out).2.2 | (with_reducible refine Kd.C_alloc ?_ _) | (with_reducible refine Kd.C_drewN ?_ _) | (with_reducible refine Kd.C_drew ?_))); (case side4 => exact (Kd.R_reads' HO_9.out).2.1); rintro e w' ⟨rfl, ⟨nd, rfl⟩⟩))
             go_meet
             case rel => exact ⟨_, ((t328 != t314)), (by first | rfl | (simp; done) | (simp [*]; done)), H', ⟨by have := HJ13.out; first | omega | exact Nat.le_refl _⟩, ⟨by (with_reducible repeat (first | apply Kd.R_alloc | apply Kd.R_drewN | apply Kd.R_drew)); exact Kd.R_mono HO_8.out (fun _ hk => ⟨hk.1, ⟨hk.2.2.1, hk.2.2.2.1⟩⟩)⟩, ⟨by (with_reducible repeat (first | apply Kd.R_alloc | apply Kd.R_drewN | apply Kd.R_drew)); exact Kd.R_mono HO_9.out (fun _ hk => ⟨hk.1, ⟨hk.2.2.1, hk.2.2.2.1⟩⟩)⟩, ⟨by (with_reducible repeat (first | apply Kd.R_alloc | apply Kd.R_drewN | apply Kd.R_drew)); exact Kd.R_mono HO_14.out (fun _ hk => ⟨hk.1, ⟨hk.2.1, hk.2.2.2.1⟩⟩)⟩, ⟨by (with_reducible repeat (first | apply Kd.R_alloc | apply Kd.R_drewN | apply Kd.R_drew)); exact Kd.R_mono HO_15.out (fun _ hk => ⟨hk.1, ⟨hk.2.1, hk.2.2.2.1⟩⟩)⟩, ⟨by repeat (first | (with_reducible first | exact HB.out | apply below_alloc | apply pw_below_drewN | apply below_drew1) | exact HB.out)⟩⟩
            ·rw [if_neg c57] at H
             have c57b0 : (t327 == t313) = false := beq_eq_false_iff_ne.mpr c57
             have c57b1 : (t327 != t313) = true := bne_iff_ne.mpr c57
             exact absurd H (by cases kj13 <;> simp [laws_FnExactRunFlow.j1])
           ·replace c56 := Bool.eq_false_iff.mpr c56
            subst c56
            have H1 : (laws_FnExactRunFlow.j1 kj13 l0 l1 a2 t311 t312 t313 t314 t325 t326 true) = some true := by rw [if_neg (show ¬ (false = true) by decide)] at H; exact H
            clear H
            have H := H1
            clear H1
            exact absurd H (by cases kj13 <;> simp [laws_FnExactRunFlow.j1])
          ·replace c54 := Bool.eq_false_iff.mpr c54
           subst c54
           have H1 : (laws_FnExactRunFlow.j1 kj13 l0 l1 a2 t311 t312 t313 t314 t325 t326 true) = some true := by rw [if_neg (show ¬ (false = true) by decide)] at H; exact H
           clear H
           have H := H1
           clear H1
           exact absurd H (by cases kj13 <;> simp [laws_FnExactRunFlow.j1])
        case rest =>
         clear HC44
         try clear c1
         try clear c2
         try clear p2
         try clear c3
         try clear c4
         try clear c4b0
         try clear c4b1
         try clear c5
         try clear c6
         try clear c6b0
         try clear c9
         try clear c19
         try clear c21
         try clear c23
         try clear c25
         try clear c27
         try clear c29
         try clear c30
         try clear c30b0
         try clear c30b1
         try clear c35
         try clear c38
         try clear c40
         try clear c41
         try clear c42
         try clear c52
         try clear c52b0
         try clear c54
         try clear c56
         try clear c57
         try clear c57b0
         try clear c57b1
         try clear p2
         obtain ⟨kq, x116_43, rfl, HA, HJ43, HO_8, HO_9, HO_14, HO_15, HB⟩ := hcut
         cases kq with
         | zero => exact absurd HA.out (by simp [laws_FnExactRunFlow.j1])
         | succ kj43 =>
          have H := HA.out
          clear HA
          simp only [laws_FnExactRunFlow.j1] at H
          by_cases c62 : x116_43 = true
          ·subst c62
           have H1 : (some false) = some true := by rw [if_pos rfl] at H; exact H
           clear H
           have H := H1
           clear H1
           exact absurd H (by simp)
          ·replace c62 := Bool.eq_false_iff.mpr c62
           subst c62
           have H1 : ((laws_markIntS.f kj43 t325 1).bind fun bt349 => ((laws_markIntS.f kj43 t326 bt349.1).bind fun bt351 => ((laws_heldIntS.f kj43 bt349.2 1).bind fun t353 => (if t353 < 0 then (some false) else ((laws_heldIntS.f kj43 bt351.2 t353).bind fun t354 => (if t354 < 0 then (some false) else (if t354 = bt351.1 then ((laws_toBlockS.f kj43 l0).bind fun t355 => ((laws_toIntS.f kj43 l1).bind fun t358 => ((impl_RunFlow.f kj43 t355 t358 a2).bind fun bt361 => ((laws_eqIntS.f kj43 bt361.1 t311).bind fun t369 => (if t369 = true then ((laws_eqIntS.f kj43 bt361.2.1 t312).bind fun t370 => (if t370 = true then (if bt361.2.2.1 = t313 then (laws_FnExactRunFlow.j2 kj43 bt349.2 bt351.2 bt351.1 (bt361.2.2.2 != t314)) else (laws_FnExactRunFlow.j2 kj43 bt349.2 bt351.2 bt351.1 true)) else (laws_FnExactRunFlow.j2 kj43 bt349.2 bt351.2 bt351.1 true))) else (laws_FnExactRunFlow.j2 kj43 bt349.2 bt351.2 bt351.1 true)))))) else (some false)))))))) = some true := by rw [if_neg (show ¬ (false = true) by decide)] at H; exact H
           clear H
           have H := H1
           clear H1
           replace H := Option.bind_eq_some_iff.mp H
           obtain ⟨⟨t349, t350⟩, A630, H⟩ := H
           replace H : ((laws_markIntS.f kj43 t326 t349).bind fun bt351 => ((laws_heldIntS.f kj43 t350 1).bind fun t353 => (if t353 < 0 then (some false) else ((laws_heldIntS.f kj43 bt351.2 t353).bind fun t354 => (if t354 < 0 then (some false) else (if t354 = bt351.1 then ((laws_toBlockS.f kj43 l0).bind fun t355 => ((laws_toIntS.f kj43 l1).bind fun t358 => ((impl_RunFlow.f kj43 t355 t358 a2).bind fun bt361 => ((laws_eqIntS.f kj43 bt361.1 t311).bind fun t369 => (if t369 = true then ((laws_eqIntS.f kj43 bt361.2.1 t312).bind fun t370 => (if t370 = true then (if bt361.2.2.1 = t313 then (laws_FnExactRunFlow.j2 kj43 t350 bt351.2 bt351.1 (bt361.2.2.2 != t314)) else (laws_FnExactRunFlow.j2 kj43 t350 bt351.2 bt351.1 true)) else (laws_FnExactRunFlow.j2 kj43 t350 bt351.2 bt351.1 true))) else (laws_FnExactRunFlow.j2 kj43 t350 bt351.2 bt351.1 true)))))) else (some false))))))) = some true := H
           have A63 := Aside0.mk A630
           clear A630
           replace H := Option.bind_eq_some_iff.mp H
           obtain ⟨⟨t351, t352⟩, A640, H⟩ := H
           replace H : ((laws_heldIntS.f kj43 t350 1).bind fun t353 => (if t353 < 0 then (some false) else ((laws_heldIntS.f kj43 t352 t353).bind fun t354 => (if t354 < 0 then (some false) else (if t354 = t351 then ((laws_toBlockS.f kj43 l0).bind fun t355 => ((laws_toIntS.f kj43 l1).bind fun t358 => ((impl_RunFlow.f kj43 t355 t358 a2).bind fun bt361 => ((laws_eqIntS.f kj43 bt361.1 t311).bind fun t369 => (if t369 = true then ((laws_eqIntS.f kj43 bt361.2.1 t312).bind fun t370 => (if t370 = true then (if bt361.2.2.1 = t313 then (laws_FnExactRunFlow.j2 kj43 t350 t352 t351 (bt361.2.2.2 != t314)) else (laws_FnExactRunFlow.j2 kj43 t350 t352 t351 true)) else (laws_FnExactRunFlow.j2 kj43 t350 t352 t351 true))) else (laws_FnExactRunFlow.j2 kj43 t350 t352 t351 true)))))) else (some false)))))) = some true := H
           have A64 := Aside0.mk A640
           clear A640
           replace H := Option.bind_eq_some_iff.mp H
           obtain ⟨t353, A650, H⟩ := H
           replace H : (if t353 < 0 then (some false) else ((laws_heldIntS.f kj43 t352 t353).bind fun t354 => (if t354 < 0 then (some false) else (if t354 = t351 then ((laws_toBlockS.f kj43 l0).bind fun t355 => ((laws_toIntS.f kj43 l1).bind fun t358 => ((impl_RunFlow.f kj43 t355 t358 a2).bind fun bt361 => ((laws_eqIntS.f kj43 bt361.1 t311).bind fun t369 => (if t369 = true then ((laws_eqIntS.f kj43 bt361.2.1 t312).bind fun t370 => (if t370 = true then (if bt361.2.2.1 = t313 then (laws_FnExactRunFlow.j2 kj43 t350 t352 t351 (bt361.2.2.2 != t314)) else (laws_FnExactRunFlow.j2 kj43 t350 t352 t351 true)) else (laws_FnExactRunFlow.j2 kj43 t350 t352 t351 true))) else (laws_FnExactRunFlow.j2 kj43 t350 t352 t351 true)))))) else (some false))))) = some true := H
           have A65 := Aside0.mk A650
           clear A650
           by_cases c66 : t353 < 0
           ·rw [if_pos c66] at H
            have c66b0 : decide (t353 < 0) = true := decide_eq_true c66
            clear c66
            exact absurd H (by simp)
           ·rw [if_neg c66] at H
            have c66b0 : decide (t353 < 0) = false := decide_eq_false c66
            clear c66
            replace H := Option.bind_eq_some_iff.mp H
            obtain ⟨t354, A670, H⟩ := H
            replace H : (if t354 < 0 then (some false) else (if t354 = t351 then ((laws_toBlockS.f kj43 l0).bind fun t355 => ((laws_toIntS.f kj43 l1).bind fun t358 => ((impl_RunFlow.f kj43 t355 t358 a2).bind fun bt361 => ((laws_eqIntS.f kj43 bt361.1 t311).bind fun t369 => (if t369 = true then ((laws_eqIntS.f kj43 bt361.2.1 t312).bind fun t370 => (if t370 = true then (if bt361.2.2.1 = t313 then (laws_FnExactRunFlow.j2 kj43 t350 t352 t351 (bt361.2.2.2 != t314)) else (laws_FnExactRunFlow.j2 kj43 t350 t352 t351 true)) else (laws_FnExactRunFlow.j2 kj43 t350 t352 t351 true))) else (laws_FnExactRunFlow.j2 kj43 t350 t352 t351 true)))))) else (some false))) = some true := H
            have A67 := Aside0.mk A670
            clear A670
            by_cases c68 : t354 < 0
            ·rw [if_pos c68] at H
             have c68b0 : decide (t354 < 0) = true := decide_eq_true c68
             clear c68
             exact absurd H (by simp)
            ·rw [if_neg c68] at H
             have c68b0 : decide (t354 < 0) = false := decide_eq_false c68
             clear c68
             by_cases c69 : t354 = t351
             ·rw [if_pos c69] at H
              have c69b0 : (t354 == t351) = true := beq_iff_eq.mpr c69
              have c69b1 : (t354 != t351) = false := bne_eq_false_iff_eq.mpr c69
              clear c69
              replace H := Option.bind_eq_some_iff.mp H
              obtain ⟨t355, A700, H⟩ := H
              replace H : ((laws_toIntS.f kj43 l1).bind fun t358 => ((impl_RunFlow.f kj43 t355 t358 a2).bind fun bt361 => ((laws_eqIntS.f kj43 bt361.1 t311).bind fun t369 => (if t369 = true then ((laws_eqIntS.f kj43 bt361.2.1 t312).bind fun t370 => (if t370 = true then (if bt361.2.2.1 = t313 then (laws_FnExactRunFlow.j2 kj43 t350 t352 t351 (bt361.2.2.2 != t314)) else (laws_FnExactRunFlow.j2 kj43 t350 t352 t351 true)) else (laws_FnExactRunFlow.j2 kj43 t350 t352 t351 true))) else (laws_FnExactRunFlow.j2 kj43 t350 t352 t351 true))))) = some true := H
              have A70 := Aside0.mk A700
              clear A700
              replace H := Option.bind_eq_some_iff.mp H
              obtain ⟨t358, A710, H⟩ := H
              replace H : ((impl_RunFlow.f kj43 t355 t358 a2).bind fun bt361 => ((laws_eqIntS.f kj43 bt361.1 t311).bind fun t369 => (if t369 = true then ((laws_eqIntS.f kj43 bt361.2.1 t312).bind fun t370 => (if t370 = true then (if bt361.2.2.1 = t313 then (laws_FnExactRunFlow.j2 kj43 t350 t352 t351 (bt361.2.2.2 != t314)) else (laws_FnExactRunFlow.j2 kj43 t350 t352 t351 true)) else (laws_FnExactRunFlow.j2 kj43 t350 t352 t351 true))) else (laws_FnExactRunFlow.j2 kj43 t350 t352 t351 true)))) = some true := H
              have A71 := Aside0.mk A710
              clear A710
              replace H := Option.bind_eq_some_iff.mp H
              obtain ⟨⟨t361, t362, t363, t364⟩, A720, H⟩ := H
              replace H : ((laws_eqIntS.f kj43 t361 t311).bind fun t369 => (if t369 = true then ((laws_eqIntS.f kj43 t362 t312).bind fun t370 => (if t370 = true then (if t363 = t313 then (laws_FnExactRunFlow.j2 kj43 t350 t352 t351 (t364 != t314)) else (laws_FnExactRunFlow.j2 kj43 t350 t352 t351 true)) else (laws_FnExactRunFlow.j2 kj43 t350 t352 t351 true))) else (laws_FnExactRunFlow.j2 kj43 t350 t352 t351 true))) = some true := H
              have A72 := Aside0.mk A720
              clear A720
              have HC73 := Aside0.mk H
              clear H
              obtain ⟨Ao74, co74, eo74⟩ := Kd.R_slice HO_14.out
              subst eo74
              go_upto_region 35 with (first | ((with_reducible refine gate_callee (f := 29) rfl ?_); refine goesL_ (some 119) rfl rfl Try.func29 (by kernel_rfl) rfl #[.slice Ao74 t325.length co74, .int .i64 1] rfl (by (try simp only [List.map_toArray, List.map_cons, List.map_nil]); first | done | rfl | (simp only [List.length_drop, List.length_take]; rfl)) ?_; (with_reducible refine (laws_markIntS.calls kj43 (fun k_ => some k_ = (.slice Ao74 t325.length co74 : Value).ownBlock) (.slice Ao74 t325.length co74) t325 1 t349 t350 w _ ?side1 ?side2 A63.out).mono ?_); (case side1 => repeat (first | (with_reducible first | exact HB.out | apply below_alloc | apply pw_below_drewN | apply below_drew1) | exact HB.out)); (case side2 => exact Kd.R_tight rfl HO_14.out); rintro e w75 ⟨rfl, hy0, hb, hkp⟩; refine ⟨_, rfl, ?_⟩; have n0_ := Aside0.mk (Kd.R_mono (ok' := fun k_ => some k_ ≠ (v317 : Value).ownBlock ∧ some k_ ≠ (.slice Ao74 t325.length co74 : Value).ownBlock ∧ some k_ ≠ (v331 : Value).ownBlock) (Kd.R_keptB (HO_8.out) hkp (fun k_ hk_ hs_ => (hk_.2.1) hs_)) (fun k_ hk_ => ⟨hk_.1.1, hk_.1.2.1, hk_.1.2.2⟩)); have n1_ := Aside0.mk (Kd.R_mono (ok' := fun k_ => some k_ ≠ (v315 : Value).ownBlock ∧ some k_ ≠ (.slice Ao74 t325.length co74 : Value).ownBlock ∧ some k_ ≠ (v331 : Value).ownBlock) (Kd.R_keptB (HO_9.out) hkp (fun k_ hk_ hs_ => (hk_.2.1) hs_)) (fun k_ hk_ => ⟨hk_.1.1, hk_.1.2.1, hk_.1.2.2⟩)); have n2_ := Aside0.mk (Kd.R_reok rfl hy0 (fun k_ e_ => HO_14.out.1 k_ e_)); have n3_ := Aside0.mk (Kd.R_mono (ok' := fun k_ => some k_ ≠ (v315 : Value).ownBlock ∧ some k_ ≠ (v317 : Value).ownBlock ∧ some k_ ≠ (.slice Ao74 t325.length co74 : Value).ownBlock) (Kd.R_keptB (HO_15.out) hkp (fun k_ hk_ hs_ => (hk_.2.2) hs_)) (fun k_ hk_ => ⟨hk_.1.1, hk_.1.2.1, hk_.1.2.2⟩)); have n4_ := Aside0.mk (hb); clear HO_8; clear HO_9; clear HO_14; clear HO_15; clear HB; have HO_8 := n0_; have HO_9 := n1_; have HO_14 := n2_; have HO_15 := n3_; have HB := n4_; clear n0_ n1_ n2_ n3_ n4_; (try clear hb); (try clear hkp); (try clear hy0); obtain ⟨Ao76, co76, eo76⟩ := Kd.R_slice HO_15.out; subst eo76) | ((with_reducible refine gate_callee (f := 29) rfl ?_); refine goesL_ (some 122) rfl rfl Try.func29 (by kernel_rfl) rfl #[.slice Ao76 t326.length co76, .int .i64 t349] rfl (by (try simp only [List.map_toArray, List.map_cons, List.map_nil]); first | done | rfl | (simp only [List.length_drop, List.length_take]; rfl)) ?_; (with_reducible refine (laws_markIntS.calls kj43 (fun k_ => some k_ = (.slice Ao76 t326.length co76 : Value).ownBlock) (.slice Ao76 t326.length co76) t326 t349 t351 t352 w _ ?side1 ?side2 A64.out).mono ?_); (case side1 => repeat (first | (with_reducible first | exact HB.out | apply below_alloc | apply pw_below_drewN | apply below_drew1) | exact HB.out)); (case side2 => exact Kd.R_tight rfl HO_15.out); rintro e w77 ⟨rfl, hy0, hb, hkp⟩; refine ⟨_, rfl, ?_⟩; have n0_ := Aside0.mk (Kd.R_mono (ok' := fun k_ => some k_ ≠ (v317 : Value).ownBlock ∧ some k_ ≠ (.slice Ao74 t325.length co74 : Value).ownBlock ∧ some k_ ≠ (.slice Ao76 t326.length co76 : Value).ownBlock) (Kd.R_keptB (HO_8.out) hkp (fun k_ hk_ hs_ => (hk_.2.2) hs_)) (fun k_ hk_ => ⟨hk_.1.1, hk_.1.2.1, hk_.1.2.2⟩)); have n1_ := Aside0.mk (Kd.R_mono (ok' := fun k_ => some k_ ≠ (v315 : Value).ownBlock ∧ some k_ ≠ (.slice Ao74 t325.length co74 : Value).ownBlock ∧ some k_ ≠ (.slice Ao76 t326.length co76 : Value).ownBlock) (Kd.R_keptB (HO_9.out) hkp (fun k_ hk_ hs_ => (hk_.2.2) hs_)) (fun k_ hk_ => ⟨hk_.1.1, hk_.1.2.1, hk_.1.2.2⟩)); have n2_ := Aside0.mk (Kd.R_mono (ok' := fun k_ => some k_ ≠ (v315 : Value).ownBlock ∧ some k_ ≠ (v317 : Value).ownBlock ∧ some k_ ≠ (.slice Ao76 t326.length co76 : Value).ownBlock) (Kd.R_keptB (HO_14.out) hkp (fun k_ hk_ hs_ => (hk_.2.2) hs_)) (fun k_ hk_ => ⟨hk_.1.1, hk_.1.2.1, hk_.1.2.2⟩)); have n3_ := Aside0.mk (Kd.R_reok rfl hy0 (fun k_ e_ => HO_15.out.1 k_ e_)); have n4_ := Aside0.mk (hb); clear HO_8; clear HO_9; clear HO_14; clear HO_15; clear HB; have HO_8 := n0_; have HO_9 := n1_; have HO_14 := n2_; have HO_15 := n3_; have HB := n4_; clear n0_ n1_ n2_ n3_ n4_; (try clear hb); (try clear hkp); (try clear hy0)) | ((with_reducible refine gate_callee (f := 30) rfl ?_); refine goesL_ (some 125) rfl rfl Try.func30 (by kernel_rfl) rfl #[.slice Ao74 t350.length co74, .int .i64 1] rfl (by (try simp only [List.map_toArray, List.map_cons, List.map_nil]); first | done | (rw [show t350.length = t325.length from (Kd.R_reads' HO_14.out).1.symm] <;> rfl) | rfl | (simp only [List.length_drop, List.length_take]; rfl)) ?_; (with_reducible refine (laws_heldIntS.calls kj43 _ _ t350 1 t353 _ ?side1 ?side2 A65.out).mono ?_); (case side1 => repeat (first | exact (Kd.R_reads' HO_14.out).2.2 | (with_reducible refine Kd.C_alloc ?_ _) | (with_reducible refine Kd.C_drewN ?_ _) | (with_reducible refine Kd.C_drew ?_))); (case side2 => rw [show t350.length = t325.length from (Kd.R_reads' HO_14.out).1.symm]; exact (Kd.R_reads' HO_14.out).2.1); rintro e w' ⟨rfl, ⟨nd, rfl⟩⟩; refine ⟨_, rfl, ?_⟩) | ((with_reducible refine gate_callee (f := 30) rfl ?_); refine goesL_ (some 130) rfl rfl Try.func30 (by kernel_rfl) rfl #[.slice Ao76 t352.length co76, .int .i64 t353] rfl (by (try simp only [List.map_toArray, List.map_cons, List.map_nil]); first | done | (rw [show t352.length = t326.length from (Kd.R_reads' HO_15.out).1.symm] <;> rfl) | rfl | (simp only [List.length_drop, List.length_take]; rfl)) ?_; (with_reducible refine (laws_heldIntS.calls kj43 _ _ t352 t353 t354 _ ?side1 ?side2 A67.out).mono ?_); (case side1 => repeat (first | exact (Kd.R_reads' HO_15.out).2.2 | (with_reducible refine Kd.C_alloc ?_ _) | (with_reducible refine Kd.C_drewN ?_ _) | (with_reducible refine Kd.C_drew ?_))); (case side2 => rw [show t352.length = t326.length from (Kd.R_reads' HO_15.out).1.symm]; exact (Kd.R_reads' HO_15.out).2.1); rintro e w' ⟨rfl, ⟨nd, rfl⟩⟩; refine ⟨_, rfl, ?_⟩) | ((with_reducible refine gate_callee (f := 21) rfl ?_); refine goesL_ (some 138) rfl rfl Try.func21 (by kernel_rfl) rfl #[.slice A0 l0.length c0] rfl (by (try simp only [List.map_toArray, List.map_cons, List.map_nil]); first | done | rfl | (simp only [List.length_drop, List.length_take]; rfl)) ?_; (with_reducible refine (laws_toBlockS.calls kj43 _ _ l0 t355 _ ?side1 ?side2 A70.out).mono ?_); (case side1 => repeat (first | exact (Kd.C_below HR0.out (by repeat (first | (with_reducible first | exact HB.out | apply below_alloc | apply pw_below_drewN | apply below_drew1) | exact HB.out))) | (with_reducible refine Kd.C_alloc ?_ _) | (with_reducible refine Kd.C_drewN ?_ _) | (with_reducible refine Kd.C_drew ?_))); (case side2 => exact HC0.out); rintro e w78 ⟨v356, rfl, ho0, hb⟩; refine ⟨_, rfl, ?_⟩; have n0_ := Aside0.mk (Kd.R_below (by (with_reducible repeat (first | apply Kd.R_alloc | apply Kd.R_drewN | apply Kd.R_drew)); exact HO_8.out) hb); have n1_ := Aside0.mk (Kd.R_below (by (with_reducible repeat (first | apply Kd.R_alloc | apply Kd.R_drewN | apply Kd.R_drew)); exact HO_9.out) hb); have n2_ := Aside0.mk (Kd.R_below (by (with_reducible repeat (first | apply Kd.R_alloc | apply Kd.R_drewN | apply Kd.R_drew)); exact HO_14.out) hb); have n3_ := Aside0.mk (Kd.R_below (by (with_reducible repeat (first | apply Kd.R_alloc | apply Kd.R_drewN | apply Kd.R_drew)); exact HO_15.out) hb); have n4_ := Aside0.mk (Kd.S_lower ho0 (below_size (by repeat (first | (with_reducible first | exact HB.out | apply below_alloc | apply pw_below_drewN | apply below_drew1) | exact HB.out)))); have n5_ := Aside0.mk (below_step (by repeat (first | (with_reducible first | exact HB.out | apply below_alloc | apply pw_below_drewN | apply below_drew1) | exact HB.out)) hb); clear HO_8; clear HO_9; clear HO_14; clear HO_15; clear HB; have HO_8 := n0_; have HO_9 := n1_; have HO_14 := n2_; have HO_15 := n3_; have HO357 := n4_; have HB := n5_; clear n0_ n1_ n2_ n3_ n4_ n5_; (try clear hb); (try clear hb2); (try clear hk); (try clear hi); (try clear ho0)) | ((with_reducible refine gate_callee (f := 25) rfl ?_); refine goesL_ (some 140) rfl rfl Try.func25 (by kernel_rfl) rfl #[.slice A1 l1.length c1] rfl (by (try simp only [List.map_toArray, List.map_cons, List.map_nil]); first | done | rfl | (simp only [List.length_drop, List.length_take]; rfl)) ?_; (with_reducible refine (laws_toIntS.calls kj43 _ _ l1 t358 _ ?side1 ?side2 A71.out).mono ?_); (case side1 => repeat (first | exact (Kd.C_below HR1.out HB.out) | (with_reducible refine Kd.C_alloc ?_ _) | (with_reducible refine Kd.C_drewN ?_ _) | (with_reducible refine Kd.C_drew ?_))); (case side2 => exact HC1.out); rintro e w79 ⟨v359, rfl, ho0, hb⟩; refine ⟨_, rfl, ?_⟩; have n0_ := Aside0.mk (Kd.R_elder' (by (with_reducible repeat (first | apply Kd.R_alloc | apply Kd.R_drewN | apply Kd.R_drew)); exact HO_8.out) (Kd.R_base ho0) hb); have n1_ := Aside0.mk (Kd.R_elder' (by (with_reducible repeat (first | apply Kd.R_alloc | apply Kd.R_drewN | apply Kd.R_drew)); exact HO_9.out) (Kd.R_base ho0) hb); have n2_ := Aside0.mk (Kd.R_elder' (by (with_reducible repeat (first | apply Kd.R_alloc | apply Kd.R_drewN | apply Kd.R_drew)); exact HO_14.out) (Kd.R_base ho0) hb); have n3_ := Aside0.mk (Kd.R_elder' (by (with_reducible repeat (first | apply Kd.R_alloc | apply Kd.R_drewN | apply Kd.R_drew)); exact HO_15.out) (Kd.R_base ho0) hb); have n4_ := Aside0.mk (Kd.S_below (by (with_reducible repeat (first | apply Kd.S_alloc | apply Kd.S_drewN | apply Kd.S_drew)); exact HO357.out) hb); have n5_ := Aside0.mk (Kd.R_lower (Kd.R_new' (Kd.R_new' (Kd.R_new' (Kd.R_new' ho0 (Kd.R_lt (by (with_reducible repeat (first | apply Kd.R_alloc | apply Kd.R_drewN | apply Kd.R_drew)); exact HO_8.out))) (Kd.R_lt (by (with_reducible repeat (first | apply Kd.R_alloc | apply Kd.R_drewN | apply Kd.R_drew)); exact HO_9.out))) (Kd.R_lt (by (with_reducible repeat (first | apply Kd.R_alloc | apply Kd.R_drewN | apply Kd.R_drew)); exact HO_14.out))) (Kd.R_lt (by (with_reducible repeat (first | apply Kd.R_alloc | apply Kd.R_drewN | apply Kd.R_drew)); exact HO_15.out))) (below_size (by repeat (first | (with_reducible first | exact HB.out | apply below_alloc | apply pw_below_drewN | apply below_drew1) | exact HB.out)))); have n6_ := Aside0.mk (below_step (by repeat (first | (with_reducible first | exact HB.out | apply below_alloc | apply pw_below_drewN | apply below_drew1) | exact HB.out)) hb); clear HO_8; clear HO_9; clear HO_14; clear HO_15; clear HO357; clear HB; have HO_8 := n0_; have HO_9 := n1_; have HO_14 := n2_; have HO_15 := n3_; have HO357 := n4_; have HO360 := n5_; have HB := n6_; clear n0_ n1_ n2_ n3_ n4_ n5_ n6_; (try clear hb); (try clear hb2); (try clear hk); (try clear hi); (try clear ho0); obtain ⟨Ao80, co80, eo80⟩ := Kd.S_slice HO357.out; subst eo80; obtain ⟨Ao81, co81, eo81⟩ := Kd.R_slice HO360.out; subst eo81) | ((with_reducible refine gate_callee (f := 42) rfl ?_); refine goesL_ (some 142) rfl rfl Try.func42 (by kernel_rfl) rfl #[.slice Ao80 t355.length co80, .slice Ao81 t358.length co81, .int .i64 a2] rfl (by (try simp only [List.map_toArray, List.map_cons, List.map_nil]); first | done | rfl | (simp only [List.length_drop, List.length_take]; rfl)) ?_; (with_reducible refine (impl_RunFlow.calls kj43 _ _ t355 _ _ t358 a2 t361 t362 t363 t364 _ ?side1 ?side2 ?side3 ?side4 A72.out).mono ?_); (case side1 => repeat (first | exact (Kd.S_reads' HO357.out).2.2 | (with_reducible refine Kd.C_alloc ?_ _) | (with_reducible refine Kd.C_drewN ?_ _) | (with_reducible refine Kd.C_drew ?_))); (case side2 => exact (Kd.S_reads' HO357.out).2.1); (case side3 => repeat (first | exact (Kd.R_reads' HO360.out).2.2 | (with_reducible refine Kd.C_alloc ?_ _) | (with_reducible refine Kd.C_drewN ?_ _) | (with_reducible refine Kd.C_drew ?_))); (case side4 => exact (Kd.R_reads' HO360.out).2.1); rintro e w82 ⟨v365, v367, rfl, ho0, ho1, hb⟩; refine ⟨_, rfl, ?_⟩; have n0_ := Aside0.mk (Kd.R_mono (Kd.R_told (Kd.R_told (Kd.R_old (by (with_reducible repeat (first | apply Kd.R_alloc | apply Kd.R_drewN | apply Kd.R_drew)); exact HO_8.out) hb) (Kd.R_base ho0)) (Kd.R_base ho1)) (fun _ h_ => h_.1)); have n1_ := Aside0.mk (Kd.R_mono (Kd.R_told (Kd.R_told (Kd.R_old (by (with_reducible repeat (first | apply Kd.R_alloc | apply Kd.R_drewN | apply Kd.R_drew)); exact HO_9.out) hb) (Kd.R_base ho0)) (Kd.R_base ho1)) (fun _ h_ => h_.1)); have n2_ := Aside0.mk (Kd.R_mono (Kd.R_told (Kd.R_told (Kd.R_old (by (with_reducible repeat (first | apply Kd.R_alloc | apply Kd.R_drewN | apply Kd.R_drew)); exact HO_14.out) hb) (Kd.R_base ho0)) (Kd.R_base ho1)) (fun _ h_ => h_.1)); have n3_ := Aside0.mk (Kd.R_mono (Kd.R_told (Kd.R_told (Kd.R_old (by (with_reducible repeat (first | apply Kd.R_alloc | apply Kd.R_drewN | apply Kd.R_drew)); exact HO_15.out) hb) (Kd.R_base ho0)) (Kd.R_base ho1)) (fun _ h_ => h_.1)); have n4_ := Aside0.mk (Kd.S_below (by (with_reducible repeat (first | apply Kd.S_alloc | apply Kd.S_drewN | apply Kd.S_drew)); exact HO357.out) hb); have n5_ := Aside0.mk (Kd.R_mono (Kd.R_told (Kd.R_told (Kd.R_old (by (with_reducible repeat (first | apply Kd.R_alloc | apply Kd.R_drewN | apply Kd.R_drew)); exact HO360.out) hb) (Kd.R_base ho0)) (Kd.R_base ho1)) (fun _ h_ => h_.1)); have n6_ := Aside0.mk (Kd.R_lower (Kd.R_new' (Kd.R_new' (Kd.R_new' (Kd.R_new' (Kd.R_new' ho0 (Kd.R_lt (by (with_reducible repeat (first | apply Kd.R_alloc | apply Kd.R_drewN | apply Kd.R_drew)); exact HO_8.out))) (Kd.R_lt (by (with_reducible repeat (first | apply Kd.R_alloc | apply Kd.R_drewN | apply Kd.R_drew)); exact HO_9.out))) (Kd.R_lt (by (with_reducible repeat (first | apply Kd.R_alloc | apply Kd.R_drewN | apply Kd.R_drew)); exact HO_14.out))) (Kd.R_lt (by (with_reducible repeat (first | apply Kd.R_alloc | apply Kd.R_drewN | apply Kd.R_drew)); exact HO_15.out))) (Kd.R_lt (by (with_reducible repeat (first | apply Kd.R_alloc | apply Kd.R_drewN | apply Kd.R_drew)); exact HO360.out))) (below_size (by repeat (first | (with_reducible first | exact HB.out | apply below_alloc | apply pw_below_drewN | apply below_drew1) | exact HB.out)))); have n7_ := Aside0.mk (Kd.R_lower (Kd.R_new' (Kd.R_new' (Kd.R_new' (Kd.R_new' (Kd.R_new' ho1 (Kd.R_lt (by (with_reducible repeat (first | apply Kd.R_alloc | apply Kd.R_drewN | apply Kd.R_drew)); exact HO_8.out))) (Kd.R_lt (by (with_reducible repeat (first | apply Kd.R_alloc | apply Kd.R_drewN | apply Kd.R_drew)); exact HO_9.out))) (Kd.R_lt (by (with_reducible repeat (first | apply Kd.R_alloc | apply Kd.R_drewN | apply Kd.R_drew)); exact HO_14.out))) (Kd.R_lt (by (with_reducible repeat (first | apply Kd.R_alloc | apply Kd.R_drewN | apply Kd.R_drew)); exact HO_15.out))) (Kd.R_lt (by (with_reducible repeat (first | apply Kd.R_alloc | apply Kd.R_drewN | apply Kd.R_drew)); exact HO360.out))) (below_size (by repeat (first | (with_reducible first | exact HB.out | apply below_alloc | apply pw_below_drewN | apply below_drew1) | exact HB.out)))); have n8_ := Aside0.mk (below_step (by repeat (first | (with_reducible first | exact HB.out | apply below_alloc | apply pw_below_drewN | apply below_drew1) | exact HB.out)) hb); clear HO_8; clear HO_9; clear HO_14; clear HO_15; clear HO357; clear HO360; clear HB; have HO_8 := n0_; have HO_9 := n1_; have HO_14 := n2_; have HO_15 := n3_; have HO357 := n4_; have HO360 := n5_; have HO366 := n6_; have HO368 := n7_; have HB := n8_; clear n0_ n1_ n2_ n3_ n4_ n5_ n6_ n7_ n8_; (try clear hb); (try clear hb2); (try clear hk); (try clear hi); (try clear ho0); (try clear ho1)))
              (try simp only [Act.put, List.setIfInBounds_toArray, List.set_cons_zero, List.set_cons_succ])
              go_cut [166] (fun v166 wc => ∃ (kq : Nat) (x166_72 : Bool), v166 = .bool x166_72 ∧ Aside0 (laws_FnExactRunFlow.j2 kq t350 t352 t351 x166_72 = some true) ∧ Aside0 (kq ≤ kj43) ∧ Aside0 (Kd.R (Kd.int .i64) 3 wc w.heap.size (fun k_ => some k_ ≠ ((.slice Ao76 t326.length co76) : Value).ownBlock) (.slice Ao74 t325.length co74) t350) ∧ Aside0 (Kd.R (Kd.int .i64) 3 wc w.heap.size (fun k_ => some k_ ≠ ((.slice Ao74 t325.length co74) : Value).ownBlock) (.slice Ao76 t326.length co76) t352) ∧ Aside0 (Below w.heap.size w wc))
              case first =>
               have H := HC73.out
               clear HC73
               replace H := Option.bind_eq_some_iff.mp H
               obtain ⟨t369, A830, H⟩ := H
               replace H : (if t369 = true then ((laws_eqIntS.f kj43 t362 t312).bind fun t370 => (if t370 = true then (if t363 = t313 then (laws_FnExactRunFlow.j2 kj43 t350 t352 t351 (t364 != t314)) else (laws_FnExactRunFlow.j2 kj43 t350 t352 t351 true)) else (laws_FnExactRunFlow.j2 kj43 t350 t352 t351 true))) else (laws_FnExactRunFlow.j2 kj43 t350 t352 t351 true)) = some true := H
               have A83 := Aside0.mk A830
               clear A830
               by_cases c84 : t369 = true
               ·subst c84
                have H1 : ((laws_eqIntS.f kj43 t362 t312).bind fun t370 => (if t370 = true then (if t363 = t313 then (laws_FnExactRunFlow.j2 kj43 t350 t352 t351 (t364 != t314)) else (laws_FnExactRunFlow.j2 kj43 t350 t352 t351 true)) else (laws_FnExactRunFlow.j2 kj43 t350 t352 t351 true))) = some true := by rw [if_pos rfl] at H; exact H
                clear H
                have H := H1
                clear H1
                replace H := Option.bind_eq_some_iff.mp H
                obtain ⟨t370, A850, H⟩ := H
                replace H : (if t370 = true then (if t363 = t313 then (laws_FnExactRunFlow.j2 kj43 t350 t352 t351 (t364 != t314)) else (laws_FnExactRunFlow.j2 kj43 t350 t352 t351 true)) else (laws_FnExactRunFlow.j2 kj43 t350 t352 t351 true)) = some true := H
                have A85 := Aside0.mk A850
                clear A850
                by_cases c86 : t370 = true
                ·subst c86
                 have H1 : (if t363 = t313 then (laws_FnExactRunFlow.j2 kj43 t350 t352 t351 (t364 != t314)) else (laws_FnExactRunFlow.j2 kj43 t350 t352 t351 true)) = some true := by rw [if_pos rfl] at H; exact H
                 clear H
                 have H := H1
                 clear H1
                 by_cases c87 : t363 = t313
                 ·rw [if_pos c87] at H
                  have c87b0 : (t363 == t313) = true := beq_iff_eq.mpr c87
                  have c87b1 : (t363 != t313) = false := bne_eq_false_iff_eq.mpr c87
                  clear c87
                  (first | rw [c87b0] | (simp only [i64_w, i32_w]; rw [c87b0]) | skip)
                  have H' := Aside0.mk H
                  clear H
                  obtain ⟨Ao88, co88, eo88⟩ := Kd.R_slice HO366.out
                  subst eo88
                  obtain ⟨Ao89, co89, eo89⟩ := Kd.R_slice HO_8.out
                  subst eo89
                  go_wp2_with (first | ((with_reducible refine gate_callee (f := 27) rfl ?_); refine goesL_ (some 149) rfl rfl Try.func27 (by kernel_rfl) rfl #[.slice Ao88 t361.length co88, .slice Ao89 t311.length co89] rfl (by (try simp only [List.map_toArray, List.map_cons, List.map_nil]); first | done | rfl | (simp only [List.length_drop, List.length_take]; rfl)) ?_; (with_reducible refine (laws_eqIntS.calls kj43 _ _ t361 _ _ t311 true _ ?side1 ?side2 ?side3 ?side4 A83.out).mono ?_); (case side1 => repeat (first | exact (Kd.R_reads' HO366.out).2.2 | (with_reducible refine Kd.C_alloc ?_ _) | (with_reducible refine Kd.C_drewN ?_ _) | (with_reducible refine Kd.C_drew ?_))); (case side2 => exact (Kd.R_reads' HO366.out).2.1); (case side3 => repeat (first | exact (Kd.R_reads' HO_8.out).2.2 | (with_reducible refine Kd.C_alloc ?_ _) | (with_reducible refine Kd.C_drewN ?_ _) | (with_reducible refine Kd.C_drew ?_))); (case side4 => exact (Kd.R_reads' HO_8.out).2.1); rintro e w' ⟨rfl, ⟨nd, rfl⟩⟩; refine ⟨_, rfl, ?_⟩; obtain ⟨Ao90, co90, eo90⟩ := Kd.R_slice HO368.out; subst eo90; obtain ⟨Ao91, co91, eo91⟩ := Kd.R_slice HO_9.out; subst eo91) | (go_at_call 27; (with_reducible refine (laws_eqIntS.calls kj43 _ _ t362 _ _ t312 true _ ?side1 ?side2 ?side3 ?side4 A85.out).mono ?_); (case side1 => repeat (first | exact (Kd.R_reads' HO368.out).2.2 | (with_reducible refine Kd.C_alloc ?_ _) | (with_reducible refine Kd.C_drewN ?_ _) | (with_reducible refine Kd.C_drew ?_))); (case side2 => exact (Kd.R_reads' HO368.out).2.1); (case side3 => repeat (first | exact (Kd.R_reads' HO_9.out).2.2 | (with_reducible refine Kd.C_alloc ?_ _) | (with_reducible refine Kd.C_drewN ?_ _) | (with_reducible refine Kd.C_drew ?_))); (case side4 => exact (Kd.R_reads' HO_9.out).2.1); rintro e w' ⟨rfl, ⟨nd, rfl⟩⟩))
                  go_meet
                  case rel => exact ⟨_, ((t364 != t314)), (by first | rfl | (simp; done) | (simp [*]; done)), H', ⟨by have := HJ13.out; have := HJ43.out; first | omega | exact Nat.le_refl _⟩, ⟨by (with_reducible repeat (first | apply Kd.R_alloc | apply Kd.R_drewN | apply Kd.R_drew)); exact Kd.R_mono HO_14.out (fun _ hk => hk.1.1.1.2.2)⟩, ⟨by (with_reducible repeat (first | apply Kd.R_alloc | apply Kd.R_drewN | apply Kd.R_drew)); exact Kd.R_mono HO_15.out (fun _ hk => hk.1.1.1.2.2)⟩, ⟨by repeat (first | (with_reducible first | exact HB.out | apply below_alloc | apply pw_below_drewN | apply below_drew1) | exact HB.out)⟩⟩
                 ·rw [if_neg c87] at H
                  have c87b0 : (t363 == t313) = false := beq_eq_false_iff_ne.mpr c87
                  have c87b1 : (t363 != t313) = true := bne_iff_ne.mpr c87
                  (first | rw [c87b0] | (simp only [i64_w, i32_w]; rw [c87b0]) | skip)
                  exact absurd H (by cases kj43 <;> simp [laws_FnExactRunFlow.j2])
                ·replace c86 := Bool.eq_false_iff.mpr c86
                 subst c86
                 have H1 : (laws_FnExactRunFlow.j2 kj43 t350 t352 t351 true) = some true := by rw [if_neg (show ¬ (false = true) by decide)] at H; exact H
                 clear H
                 have H := H1
                 clear H1
                 exact absurd H (by cases kj43 <;> simp [laws_FnExactRunFlow.j2])
               ·replace c84 := Bool.eq_false_iff.mpr c84
                subst c84
                have H1 : (laws_FnExactRunFlow.j2 kj43 t350 t352 t351 true) = some true := by rw [if_neg (show ¬ (false = true) by decide)] at H; exact H
                clear H
                have H := H1
                clear H1
                exact absurd H (by cases kj43 <;> simp [laws_FnExactRunFlow.j2])
              case rest =>
               clear HC73
               try clear c1
               try clear c2
               try clear p2
               try clear c3
               try clear c4
               try clear c4b0
               try clear c4b1
               try clear c5
               try clear c6
               try clear c6b0
               try clear c8
               try clear c9
               try clear c19
               try clear c21
               try clear c23
               try clear c25
               try clear c27
               try clear c29
               try clear c30
               try clear c30b0
               try clear c30b1
               try clear c35
               try clear c38
               try clear c40
               try clear c41
               try clear c42
               try clear c52
               try clear c52b0
               try clear c54
               try clear c56
               try clear c57
               try clear c57b0
               try clear c57b1
               try clear c62
               try clear c66
               try clear c66b0
               try clear c68
               try clear c68b0
               try clear c69
               try clear c69b0
               try clear c69b1
               try clear c84
               try clear c86
               try clear c87
               try clear c87b0
               try clear c87b1
               try clear p2
               obtain ⟨kq, x166_72, rfl, HA, HJ72, HO_14, HO_15, HB⟩ := hcut
               have hl14_72 := (Kd.R_reads' HO_14.out).1
               rw [hl14_72] at HO_14
               (try simp only [hl14_72])
               (try simp only [hl14_72] at HO_15)
               have hl15_72 := (Kd.R_reads' HO_15.out).1
               rw [hl15_72] at HO_15
               (try simp only [hl15_72])
               (try simp only [hl15_72] at HO_14)
               cases kq with
               | zero => exact absurd HA.out (by simp [laws_FnExactRunFlow.j2])
               | succ kj72 =>
                have H := HA.out
                clear HA
                simp only [laws_FnExactRunFlow.j2] at H
                by_cases c92 : x166_72 = true
                ·subst c92
                 have H1 : (some false) = some true := by rw [if_pos rfl] at H; exact H
                 clear H
                 have H := H1
                 clear H1
                 exact absurd H (by simp)
                ·replace c92 := Bool.eq_false_iff.mpr c92
                 subst c92
                 have H1 : ((laws_heldIntS.f kj72 t350 1).bind fun t371 => (if t371 < 0 then (some false) else ((laws_heldIntS.f kj72 t352 t371).bind fun t372 => (if t372 < 0 then (some false) else (if t372 = t351 then (some true) else (some false)))))) = some true := by rw [if_neg (show ¬ (false = true) by decide)] at H; exact H
                 clear H
                 have H := H1
                 clear H1
                 replace H := Option.bind_eq_some_iff.mp H
                 obtain ⟨t371, A930, H⟩ := H
                 replace H : (if t371 < 0 then (some false) else ((laws_heldIntS.f kj72 t352 t371).bind fun t372 => (if t372 < 0 then (some false) else (if t372 = t351 then (some true) else (some false))))) = some true := H
                 have A93 := Aside0.mk A930
                 clear A930
                 by_cases c94 : t371 < 0
                 ·rw [if_pos c94] at H
                  have c94b0 : decide (t371 < 0) = true := decide_eq_true c94
                  clear c94
                  exact absurd H (by simp)
                 ·rw [if_neg c94] at H
                  have c94b0 : decide (t371 < 0) = false := decide_eq_false c94
                  clear c94
                  replace H := Option.bind_eq_some_iff.mp H
                  obtain ⟨t372, A950, H⟩ := H
                  replace H : (if t372 < 0 then (some false) else (if t372 = t351 then (some true) else (some false))) = some true := H
                  have A95 := Aside0.mk A950
                  clear A950
                  by_cases c96 : t372 < 0
                  ·rw [if_pos c96] at H
                   have c96b0 : decide (t372 < 0) = true := decide_eq_true c96
                   clear c96
                   exact absurd H (by simp)
                  ·rw [if_neg c96] at H
                   have c96b0 : decide (t372 < 0) = false := decide_eq_false c96
                   clear c96
                   by_cases c97 : t372 = t351
                   ·rw [if_pos c97] at H
                    have c97b0 : (t372 == t351) = true := beq_iff_eq.mpr c97
                    have c97b1 : (t372 != t351) = false := bne_eq_false_iff_eq.mpr c97
                    clear c97
                    clear H
                    go_wp2_with (first | ((with_reducible refine gate_callee (f := 30) rfl ?_); refine goesL_ (some 169) rfl rfl Try.func30 (by kernel_rfl) rfl #[.slice Ao74 t350.length co74, .int .i64 1] rfl (by (try simp only [List.map_toArray, List.map_cons, List.map_nil]); first | done | rfl | (simp only [List.length_drop, List.length_take]; rfl)) ?_; (with_reducible refine (laws_heldIntS.calls kj72 _ _ t350 1 t371 _ ?side1 ?side2 A93.out).mono ?_); (case side1 => repeat (first | exact (Kd.R_reads' HO_14.out).2.2 | (with_reducible refine Kd.C_alloc ?_ _) | (with_reducible refine Kd.C_drewN ?_ _) | (with_reducible refine Kd.C_drew ?_))); (case side2 => exact (Kd.R_reads' HO_14.out).2.1); rintro e w' ⟨rfl, ⟨nd, rfl⟩⟩; refine ⟨_, rfl, ?_⟩) | ((with_reducible refine gate_callee (f := 30) rfl ?_); refine goesL_ (some 174) rfl rfl Try.func30 (by kernel_rfl) rfl #[.slice Ao76 t352.length co76, .int .i64 t371] rfl (by (try simp only [List.map_toArray, List.map_cons, List.map_nil]); first | done | rfl | (simp only [List.length_drop, List.length_take]; rfl)) ?_; (with_reducible refine (laws_heldIntS.calls kj72 _ _ t352 t371 t372 _ ?side1 ?side2 A95.out).mono ?_); (case side1 => repeat (first | exact (Kd.R_reads' HO_15.out).2.2 | (with_reducible refine Kd.C_alloc ?_ _) | (with_reducible refine Kd.C_drewN ?_ _) | (with_reducible refine Kd.C_drew ?_))); (case side2 => exact (Kd.R_reads' HO_15.out).2.1); rintro e w' ⟨rfl, ⟨nd, rfl⟩⟩; refine ⟨_, rfl, ?_⟩))
                    go_ret
                    exact ⟨by first | rfl | (simp [errW_none, errW_some] <;> rfl) | (simp [*, errW_none, errW_some] <;> rfl), by repeat (first | (with_reducible first | exact HB.out | apply below_alloc | apply pw_below_drewN | apply below_drew1) | exact HB.out)⟩
                   ·rw [if_neg c97] at H
                    have c97b0 : (t372 == t351) = false := beq_eq_false_iff_ne.mpr c97
                    have c97b1 : (t372 != t351) = true := bne_iff_ne.mpr c97
                    exact absurd H (by simp)
             ·rw [if_neg c69] at H
              have c69b0 : (t354 == t351) = false := beq_eq_false_iff_ne.mpr c69
              have c69b1 : (t354 != t351) = true := bne_iff_ne.mpr c69
              exact absurd H (by simp)
       ·replace c41 := Bool.eq_false_iff.mpr c41
        subst c41
        have H1 : (some false) = some true := by rw [if_neg (show ¬ (false = true) by decide)] at H; exact H
        clear H
        have H := H1
        clear H1
        exact absurd H (by simp)
      ·replace c38 := Bool.eq_false_iff.mpr c38
       subst c38
       have H1 : (some false) = some true := by rw [if_neg (show ¬ (false = true) by decide)] at H; exact H
       clear H
       have H := H1
       clear H1
       exact absurd H (by simp)

/-- THE ONE PURE STATEMENT of laws_FnExactRunFlow. -/
def laws_FnExactRunFlow.Pure : Prop := ∀ (l0 : List (S76)) (l1 : List Int) (a2 : Int), (l0.length ≤ 9223372036854775807 ∧ ∀ y0_ ∈ l0, ((y0_.f0.length ≤ 9223372036854775807 ∧ ∀ y1_ ∈ y0_.f0, ((Lit.int .i64 y1_.f0).wf = true ∧ (Lit.int .i64 y1_.f1).wf = true ∧ (Lit.int .i64 y1_.f2).wf = true ∧ (Lit.int .i64 y1_.f3).wf = true ∧ (Lit.int .i64 y1_.f4).wf = true)) ∧ (Lit.int .i64 y0_.f1).wf = true ∧ (Lit.int .i64 y0_.f2).wf = true ∧ (Lit.int .i64 y0_.f3).wf = true)) → (l1.length ≤ 9223372036854775807 ∧ ∀ y0_ ∈ l1, (Lit.int .i64 y0_).wf = true) → (Lit.int .i64 a2).wf = true → ∃ k, laws_FnExactRunFlow.f k l0 l1 a2 = some true

end Go.Proofs.Ytofkfpapnhaheaa.PFnExactRunFlow
