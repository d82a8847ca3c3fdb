-- printed by a turned copy of the print
import Derived.Test.YtoilboodndgeeaaDoorPFnTagsx0
import Derived.Test.YtoilboodndgeeaaDoorPFnTagsx1
import Derived.Test.YtoilboodndgeeaaDoorPFnTagsx2
namespace Go.Proofs.YtoilboodndgeeaaDoor.PFnTags
open Go.RowKit Go.Proofs.YtoilboodndgeeaaDoorW.PrintWords Go.Proofs.YtoilboodndgeeaaDoorW.PrintLast Go.Proofs.YtoilboodndgeeaaDoorW.PrintMore
attribute [local go_sem] max2_int min2_int max_two min_two max_three min_three max_four min_four   -- for this text's walks alone
set_option linter.unusedVariables false
set_option linter.unusedSimpArgs false

/-! ### laws_FnTags: function 3 -/
mutual
def laws_FnTags.j0 : Nat → List Int → Int → Int → Bool → Bool → Option (Bool)
  | 0, _, _, _, _, _ => none
  | k + 1, x1, x5, x6, x7, x67 => if x67 = true then (some false) else (if x7 = true then ((impl_UntagSmall.f x6).bind fun bt182 => ((impl_UntagAddr.f x6).bind fun bt184 => (if bt182.2 = true then (if bt182.1 = x5 then (if bt184.2 = true then (some false) else ((impl_IsSmall.f x6).bind fun t186 => (if t186 = true then (laws_FnTags.j1 k x1) else (some false)))) else (some false)) else (some false)))) else (laws_FnTags.j1 k x1))
def laws_FnTags.j1 : Nat → List Int → Option (Bool)
  | 0, _ => none
  | k + 1, x1 => (spec_DrawUntagSmall.f x1).bind fun t187 => ((impl_UntagSmall.f t187).bind fun bt188 => ((spec_UntagSmall.f t187).bind fun bt190 => ((impl_UntagAddr.f t187).bind fun bt192 => ((spec_UntagAddr.f t187).bind fun bt194 => (if (bt188.2 != bt190.2) = true then (laws_FnTags.j2 k x1 t187 bt188.1 bt188.2 bt192.1 bt192.2 true) else (if bt188.1 = bt190.1 then (if (bt192.2 != bt194.2) = true then (laws_FnTags.j2 k x1 t187 bt188.1 bt188.2 bt192.1 bt192.2 true) else (if bt192.1 = bt194.1 then ((impl_IsSmall.f t187).bind fun t196 => (if (bt188.2 != t196) = true then (laws_FnTags.j2 k x1 t187 bt188.1 bt188.2 bt192.1 bt192.2 true) else (if bt188.2 = true then (laws_FnTags.j2 k x1 t187 bt188.1 bt188.2 bt192.1 bt192.2 bt192.2) else (laws_FnTags.j2 k x1 t187 bt188.1 bt188.2 bt192.1 bt192.2 false)))) else (laws_FnTags.j2 k x1 t187 bt188.1 bt188.2 bt192.1 bt192.2 true))) else (laws_FnTags.j2 k x1 t187 bt188.1 bt188.2 bt192.1 bt192.2 true)))))))
def laws_FnTags.j2 : Nat → List Int → Int → Int → Bool → Int → Bool → Bool → Option (Bool)
  | 0, _, _, _, _, _, _, _ => none
  | k + 1, x1, x14, x15, x16, x19, x20, x145 => if x145 = true then (some false) else (if x16 = true then ((impl_TagSmall.f x15).bind fun bt197 => (if bt197.2 = true then (if bt197.1 = x14 then (laws_FnTags.j3 k x1 x14 x19 x20) else (some false)) else (some false))) else (laws_FnTags.j3 k x1 x14 x19 x20))
def laws_FnTags.j3 : Nat → List Int → Int → Int → Bool → Option (Bool)
  | 0, _, _, _, _ => none
  | k + 1, x1, x14, x19, x20 => if x20 = true then ((impl_TagAddr.f x19).bind fun bt199 => (if bt199.2 = true then (if bt199.1 = x14 then (laws_FnTags.j4 k x1 x14) else (some false)) else (some false))) else (laws_FnTags.j4 k x1 x14)
def laws_FnTags.j4 : Nat → List Int → Int → Option (Bool)
  | 0, _, _ => none
  | k + 1, x1, x14 => (impl_CountOnes.f x14).bind fun bt201 => ((spec_CountOnes.f k x14).bind fun bt203 => ((impl_LowestOne.f x14).bind fun bt205 => ((spec_LowestOne.f k x14).bind fun bt207 => (if (bt201.2 != bt203.2) = true then (laws_FnTags.j5 k x1 x14 bt201.1 bt205.1 bt205.2 true) else (if bt201.1 = bt203.1 then (if (bt205.2 != bt207.2) = true then (laws_FnTags.j5 k x1 x14 bt201.1 bt205.1 bt205.2 true) else (laws_FnTags.j5 k x1 x14 bt201.1 bt205.1 bt205.2 (bt205.1 != bt207.1))) else (laws_FnTags.j5 k x1 x14 bt201.1 bt205.1 bt205.2 true))))))
def laws_FnTags.j5 : Nat → List Int → Int → Int → Int → Bool → Bool → Option (Bool)
  | 0, _, _, _, _, _, _ => none
  | k + 1, x1, x14, x27, x31, x32, x209 => if x209 = true then (some false) else (if x32 = true then (if 0 ≤ (IntKind.u64.wrap (x31)) then ((impl_CountOnes.f (wrap64 (x14 - (shl .i64 1 (IntKind.u64.wrap (x31)))))).bind fun bt209 => (if bt209.2 = true then (if bt209.1 = (wrap64 (x27 - 1)) then (laws_FnTags.j6 k x1 ((Go.bits .and .i64 (shr .i64 x14 (IntKind.u64.wrap (x31))) 1) != 1)) else (laws_FnTags.j6 k x1 true)) else (laws_FnTags.j6 k x1 true))) else (none)) else ((spec_DrawTagAddr.f x1).bind fun t216 => ((impl_TagAddr.f t216).bind fun bt217 => ((spec_TagAddr.f t216).bind fun bt219 => (if (bt217.2 == bt219.2) = true then (some (bt217.1 == bt219.1)) else (some false))))))
def laws_FnTags.j6 : Nat → List Int → Bool → Option (Bool)
  | 0, _, _ => none
  | k + 1, x1, x235 => if x235 = true then (some false) else ((spec_DrawTagAddr.f x1).bind fun t211 => ((impl_TagAddr.f t211).bind fun bt212 => ((spec_TagAddr.f t211).bind fun bt214 => (if (bt212.2 == bt214.2) = true then (some (bt212.1 == bt214.1)) else (some false)))))
end
def laws_FnTags.f (k : Nat) (l0 : List Int) (l1 : List Int) : Option (Bool) := if (wrap64 ((l0.length : Int) + (l1.length : Int))) > 1048576 then (some true) else ((spec_DrawTagSmall.f l0).bind fun t177 => ((impl_TagSmall.f t177).bind fun bt178 => ((spec_TagSmall.f t177).bind fun bt180 => (if (bt178.2 != bt180.2) = true then (laws_FnTags.j0 k l1 t177 bt178.1 bt178.2 true) else (laws_FnTags.j0 k l1 t177 bt178.1 bt178.2 (bt178.1 != bt180.1))))))
theorem laws_FnTags.mono_l : ∀ k, (∀ y0 y1 y2 y3 y4, LeO (laws_FnTags.j0 k y0 y1 y2 y3 y4) (laws_FnTags.j0 (k + 1) y0 y1 y2 y3 y4)) ∧ (∀ y0, LeO (laws_FnTags.j1 k y0) (laws_FnTags.j1 (k + 1) y0)) ∧ (∀ y0 y1 y2 y3 y4 y5 y6, LeO (laws_FnTags.j2 k y0 y1 y2 y3 y4 y5 y6) (laws_FnTags.j2 (k + 1) y0 y1 y2 y3 y4 y5 y6)) ∧ (∀ y0 y1 y2 y3, LeO (laws_FnTags.j3 k y0 y1 y2 y3) (laws_FnTags.j3 (k + 1) y0 y1 y2 y3)) ∧ (∀ y0 y1, LeO (laws_FnTags.j4 k y0 y1) (laws_FnTags.j4 (k + 1) y0 y1)) ∧ (∀ y0 y1 y2 y3 y4 y5, LeO (laws_FnTags.j5 k y0 y1 y2 y3 y4 y5) (laws_FnTags.j5 (k + 1) y0 y1 y2 y3 y4 y5)) ∧ (∀ y0 y1, LeO (laws_FnTags.j6 k y0 y1) (laws_FnTags.j6 (k + 1) y0 y1))
  | 0 => ⟨fun _ _ _ _ _ r h => by simp [laws_FnTags.j0] at h, fun _ r h => by simp [laws_FnTags.j1] at h, fun _ _ _ _ _ _ _ r h => by simp [laws_FnTags.j2] at h, fun _ _ _ _ r h => by simp [laws_FnTags.j3] at h, fun _ _ r h => by simp [laws_FnTags.j4] at h, fun _ _ _ _ _ _ r h => by simp [laws_FnTags.j5] at h, fun _ _ r h => by simp [laws_FnTags.j6] at h⟩
  | k + 1 => by
    obtain ⟨ih0, ih1, ih2, ih3, ih4, ih5, ih6⟩ := laws_FnTags.mono_l k
    refine ⟨?_, ?_, ?_, ?_, ?_, ?_, ?_⟩
    · intro y0 y1 y2 y3 y4
      unfold laws_FnTags.j0
      repeat' first
      | (with_reducible exact ih0 _ _ _ _ _)
      | (with_reducible exact ih1 _)
      | (with_reducible exact ih2 _ _ _ _ _ _ _)
      | (with_reducible exact ih3 _ _ _ _)
      | (with_reducible exact ih4 _ _)
      | (with_reducible exact ih5 _ _ _ _ _ _)
      | (with_reducible exact ih6 _ _)
      | (with_reducible exact spec_CountOnes.mono _ _)
      | (with_reducible exact spec_LowestOne.mono _ _)
      | (with_reducible exact LeO.refl _)
      | (with_reducible exact LeO.none _)
      | (with_reducible refine LeO.ite ?_ ?_)
      | (with_reducible refine LeO.bind ?_ (fun _ => ?_))
      | exact ih0 _ _ _ _ _
      | exact ih1 _
      | exact ih2 _ _ _ _ _ _ _
      | exact ih3 _ _ _ _
      | exact ih4 _ _
      | exact ih5 _ _ _ _ _ _
      | exact ih6 _ _
      | exact spec_CountOnes.mono _ _
      | exact spec_LowestOne.mono _ _
      | exact LeO.none _
      | refine LeO.ite ?_ ?_
      | refine LeO.bind ?_ (fun _ => ?_)
    · intro y0
      unfold laws_FnTags.j1
      repeat' first
      | (with_reducible exact ih0 _ _ _ _ _)
      | (with_reducible exact ih1 _)
      | (with_reducible exact ih2 _ _ _ _ _ _ _)
      | (with_reducible exact ih3 _ _ _ _)
      | (with_reducible exact ih4 _ _)
      | (with_reducible exact ih5 _ _ _ _ _ _)
      | (with_reducible exact ih6 _ _)
      | (with_reducible exact spec_CountOnes.mono _ _)
      | (with_reducible exact spec_LowestOne.mono _ _)
      | (with_reducible exact LeO.refl _)
      | (with_reducible exact LeO.none _)
      | (with_reducible refine LeO.ite ?_ ?_)
      | (with_reducible refine LeO.bind ?_ (fun _ => ?_))
      | exact ih0 _ _ _ _ _
      | exact ih1 _
      | exact ih2 _ _ _ _ _ _ _
      | exact ih3 _ _ _ _
      | exact ih4 _ _
      | exact ih5 _ _ _ _ _ _
      | exact ih6 _ _
      | exact spec_CountOnes.mono _ _
      | exact spec_LowestOne.mono _ _
      | exact LeO.none _
      | refine LeO.ite ?_ ?_
      | refine LeO.bind ?_ (fun _ => ?_)
    · intro y0 y1 y2 y3 y4 y5 y6
      unfold laws_FnTags.j2
      repeat' first
      | (with_reducible exact ih0 _ _ _ _ _)
      | (with_reducible exact ih1 _)
      | (with_reducible exact ih2 _ _ _ _ _ _ _)
      | (with_reducible exact ih3 _ _ _ _)
      | (with_reducible exact ih4 _ _)
      | (with_reducible exact ih5 _ _ _ _ _ _)
      | (with_reducible exact ih6 _ _)
      | (with_reducible exact spec_CountOnes.mono _ _)
      | (with_reducible exact spec_LowestOne.mono _ _)
      | (with_reducible exact LeO.refl _)
      | (with_reducible exact LeO.none _)
      | (with_reducible refine LeO.ite ?_ ?_)
      | (with_reducible refine LeO.bind ?_ (fun _ => ?_))
      | exact ih0 _ _ _ _ _
      | exact ih1 _
      | exact ih2 _ _ _ _ _ _ _
      | exact ih3 _ _ _ _
      | exact ih4 _ _
      | exact ih5 _ _ _ _ _ _
      | exact ih6 _ _
      | exact spec_CountOnes.mono _ _
      | exact spec_LowestOne.mono _ _
      | exact LeO.none _
      | refine LeO.ite ?_ ?_
      | refine LeO.bind ?_ (fun _ => ?_)
    · intro y0 y1 y2 y3
      unfold laws_FnTags.j3
      repeat' first
      | (with_reducible exact ih0 _ _ _ _ _)
      | (with_reducible exact ih1 _)
      | (with_reducible exact ih2 _ _ _ _ _ _ _)
      | (with_reducible exact ih3 _ _ _ _)
      | (with_reducible exact ih4 _ _)
      | (with_reducible exact ih5 _ _ _ _ _ _)
      | (with_reducible exact ih6 _ _)
      | (with_reducible exact spec_CountOnes.mono _ _)
      | (with_reducible exact spec_LowestOne.mono _ _)
      | (with_reducible exact LeO.refl _)
      | (with_reducible exact LeO.none _)
      | (with_reducible refine LeO.ite ?_ ?_)
      | (with_reducible refine LeO.bind ?_ (fun _ => ?_))
      | exact ih0 _ _ _ _ _
      | exact ih1 _
      | exact ih2 _ _ _ _ _ _ _
      | exact ih3 _ _ _ _
      | exact ih4 _ _
      | exact ih5 _ _ _ _ _ _
      | exact ih6 _ _
      | exact spec_CountOnes.mono _ _
      | exact spec_LowestOne.mono _ _
      | exact LeO.none _
      | refine LeO.ite ?_ ?_
      | refine LeO.bind ?_ (fun _ => ?_)
    · intro y0 y1
      unfold laws_FnTags.j4
      repeat' first
      | (with_reducible exact ih0 _ _ _ _ _)
      | (with_reducible exact ih1 _)
      | (with_reducible exact ih2 _ _ _ _ _ _ _)
      | (with_reducible exact ih3 _ _ _ _)
      | (with_reducible exact ih4 _ _)
      | (with_reducible exact ih5 _ _ _ _ _ _)
      | (with_reducible exact ih6 _ _)
      | (with_reducible exact spec_CountOnes.mono _ _)
      | (with_reducible exact spec_LowestOne.mono _ _)
      | (with_reducible exact LeO.refl _)
      | (with_reducible exact LeO.none _)
      | (with_reducible refine LeO.ite ?_ ?_)
      | (with_reducible refine LeO.bind ?_ (fun _ => ?_))
      | exact ih0 _ _ _ _ _
      | exact ih1 _
      | exact ih2 _ _ _ _ _ _ _
      | exact ih3 _ _ _ _
      | exact ih4 _ _
      | exact ih5 _ _ _ _ _ _
      | exact ih6 _ _
      | exact spec_CountOnes.mono _ _
      | exact spec_LowestOne.mono _ _
      | exact LeO.none _
      | refine LeO.ite ?_ ?_
      | refine LeO.bind ?_ (fun _ => ?_)
    · intro y0 y1 y2 y3 y4 y5
      unfold laws_FnTags.j5
      repeat' first
      | (with_reducible exact ih0 _ _ _ _ _)
      | (with_reducible exact ih1 _)
      | (with_reducible exact ih2 _ _ _ _ _ _ _)
      | (with_reducible exact ih3 _ _ _ _)
      | (with_reducible exact ih4 _ _)
      | (with_reducible exact ih5 _ _ _ _ _ _)
      | (with_reducible exact ih6 _ _)
      | (with_reducible exact spec_CountOnes.mono _ _)
      | (with_reducible exact spec_LowestOne.mono _ _)
      | (with_reducible exact LeO.refl _)
      | (with_reducible exact LeO.none _)
      | (with_reducible refine LeO.ite ?_ ?_)
      | (with_reducible refine LeO.bind ?_ (fun _ => ?_))
      | exact ih0 _ _ _ _ _
      | exact ih1 _
      | exact ih2 _ _ _ _ _ _ _
      | exact ih3 _ _ _ _
      | exact ih4 _ _
      | exact ih5 _ _ _ _ _ _
      | exact ih6 _ _
      | exact spec_CountOnes.mono _ _
      | exact spec_LowestOne.mono _ _
      | exact LeO.none _
      | refine LeO.ite ?_ ?_
      | refine LeO.bind ?_ (fun _ => ?_)
    · intro y0 y1
      unfold laws_FnTags.j6
      repeat' first
      | (with_reducible exact ih0 _ _ _ _ _)
      | (with_reducible exact ih1 _)
      | (with_reducible exact ih2 _ _ _ _ _ _ _)
      | (with_reducible exact ih3 _ _ _ _)
      | (with_reducible exact ih4 _ _)
      | (with_reducible exact ih5 _ _ _ _ _ _)
      | (with_reducible exact ih6 _ _)
      | (with_reducible exact spec_CountOnes.mono _ _)
      | (with_reducible exact spec_LowestOne.mono _ _)
      | (with_reducible exact LeO.refl _)
      | (with_reducible exact LeO.none _)
      | (with_reducible refine LeO.ite ?_ ?_)
      | (with_reducible refine LeO.bind ?_ (fun _ => ?_))
      | exact ih0 _ _ _ _ _
      | exact ih1 _
      | exact ih2 _ _ _ _ _ _ _
      | exact ih3 _ _ _ _
      | exact ih4 _ _
      | exact ih5 _ _ _ _ _ _
      | exact ih6 _ _
      | exact spec_CountOnes.mono _ _
      | exact spec_LowestOne.mono _ _
      | exact LeO.none _
      | refine LeO.ite ?_ ?_
      | refine LeO.bind ?_ (fun _ => ?_)
theorem laws_FnTags.mono : ∀ a0 a1 k, LeO (laws_FnTags.f k a0 a1) (laws_FnTags.f (k + 1) a0 a1) := by
  intro a0 a1 k
  obtain ⟨ih0, ih1, ih2, ih3, ih4, ih5, ih6⟩ := laws_FnTags.mono_l k
  unfold laws_FnTags.f
  repeat' first
      | (with_reducible exact ih0 _ _ _ _ _)
      | (with_reducible exact ih1 _)
      | (with_reducible exact ih2 _ _ _ _ _ _ _)
      | (with_reducible exact ih3 _ _ _ _)
      | (with_reducible exact ih4 _ _)
      | (with_reducible exact ih5 _ _ _ _ _ _)
      | (with_reducible exact ih6 _ _)
      | (with_reducible exact spec_CountOnes.mono _ _)
      | (with_reducible exact spec_LowestOne.mono _ _)
      | (with_reducible exact LeO.refl _)
      | (with_reducible exact LeO.none _)
      | (with_reducible refine LeO.ite ?_ ?_)
      | (with_reducible refine LeO.bind ?_ (fun _ => ?_))
      | exact ih0 _ _ _ _ _
      | exact ih1 _
      | exact ih2 _ _ _ _ _ _ _
      | exact ih3 _ _ _ _
      | exact ih4 _ _
      | exact ih5 _ _ _ _ _ _
      | exact ih6 _ _
      | exact spec_CountOnes.mono _ _
      | exact spec_LowestOne.mono _ _
      | exact LeO.none _
      | refine LeO.ite ?_ ?_
      | refine LeO.bind ?_ (fun _ => ?_)
set_option maxHeartbeats 8000000 in
set_option maxRecDepth 100000 in
theorem laws_FnTags.calls (k : Nat) (A0 : Option Addr) (c0 : Nat) (l0 : List Int) (A1 : Option Addr) (c1 : Nat) (l1 : List Int) (w : World) (hT : TabAt w) (hr0 : Kd.C (Kd.int .u8) w A0 l0.length l0) (hc0 : l0.length ≤ c0) (hr1 : Kd.C (Kd.int .u8) w A1 l1.length l1) (hc1 : l1.length ≤ c1) (h : laws_FnTags.f k l0 l1 = some true) :
    Calls Tryd.prog 3 #[.slice A0 l0.length c0, .slice A1 l1.length c1] w fun e w' => e = .returned (.bool true) ∧ Below w.heap.size w w' := by
  have HT := Aside0.mk hT
  clear hT
  have HR0 := Aside0.mk hr0
  have HC0 := Aside0.mk hc0
  clear hr0 hc0
  have HR1 := Aside0.mk hr1
  have HC1 := Aside0.mk hc1
  clear hr1 hc1
  have HB := Aside0.mk (Below.refl w.heap.size w)
  have H : (if (wrap64 ((l0.length : Int) + (l1.length : Int))) > 1048576 then (some true) else ((spec_DrawTagSmall.f l0).bind fun t177 => ((impl_TagSmall.f t177).bind fun bt178 => ((spec_TagSmall.f t177).bind fun bt180 => (if (bt178.2 != bt180.2) = true then (laws_FnTags.j0 k l1 t177 bt178.1 bt178.2 true) else (laws_FnTags.j0 k l1 t177 bt178.1 bt178.2 (bt178.1 != bt180.1))))))) = some true := h
  clear h
  by_cases c3 : (wrap64 ((l0.length : Int) + (l1.length : Int))) > 1048576
  · rw [if_pos c3] at H
    have c3b0 : decide (1048576 < (wrap64 ((l0.length : Int) + (l1.length : Int)))) = true := decide_eq_true c3
    clear c3
    clear H
    go_enter Tryd.func3, Tryd.ntmps3
    go_wp2
    go_ret
    exact ⟨by first | rfl | (simp [errW_none, errW_some] <;> rfl) | (simp [*, errW_none, errW_some] <;> rfl), by repeat (first | (with_reducible first | exact HB.out | apply below_alloc | apply pw_below_drewN | apply below_drew1) | exact HB.out)⟩
  · rw [if_neg c3] at H
    have c3b0 : decide (1048576 < (wrap64 ((l0.length : Int) + (l1.length : Int)))) = false := decide_eq_false c3
    clear c3
    replace H := Option.bind_eq_some_iff.mp H
    obtain ⟨t177, A40, H⟩ := H
    replace H : ((impl_TagSmall.f t177).bind fun bt178 => ((spec_TagSmall.f t177).bind fun bt180 => (if (bt178.2 != bt180.2) = true then (laws_FnTags.j0 k l1 t177 bt178.1 bt178.2 true) else (laws_FnTags.j0 k l1 t177 bt178.1 bt178.2 (bt178.1 != bt180.1))))) = some true := H
    have A4 := Aside0.mk A40
    clear A40
    replace H := Option.bind_eq_some_iff.mp H
    obtain ⟨⟨t178, t179⟩, A50, H⟩ := H
    replace H : ((spec_TagSmall.f t177).bind fun bt180 => (if (t179 != bt180.2) = true then (laws_FnTags.j0 k l1 t177 t178 t179 true) else (laws_FnTags.j0 k l1 t177 t178 t179 (t178 != bt180.1)))) = some true := H
    have A5 := Aside0.mk A50
    clear A50
    replace H := Option.bind_eq_some_iff.mp H
    obtain ⟨⟨t180, t181⟩, A60, H⟩ := H
    replace H : (if (t179 != t181) = true then (laws_FnTags.j0 k l1 t177 t178 t179 true) else (laws_FnTags.j0 k l1 t177 t178 t179 (t178 != t180))) = some true := H
    have A6 := Aside0.mk A60
    clear A60
    have HC7 := Aside0.mk H
    clear H
    go_enter Tryd.func3, Tryd.ntmps3
    go_upto_region 6 with (first | ((with_reducible refine gate_callee (f := 4) rfl ?_); refine goesL_ (some 49) rfl rfl Tryd.func4 (by kernel_rfl) rfl #[.slice A0 l0.length c0] rfl (by (try simp only [List.map_toArray, List.map_cons, List.map_nil]); first | done | rfl | (simp only [List.length_drop, List.length_take]; rfl)) ?_; (with_reducible refine (spec_DrawTagSmall.calls _ _ l0 t177 _ ?side1 ?side2 A4.out).mono ?_); (case side1 => repeat (first | exact HR0.out | (with_reducible refine Kd.C_alloc ?_ _) | (with_reducible refine Kd.C_drewN ?_ _) | (with_reducible refine Kd.C_drew ?_))); (case side2 => exact HC0.out); rintro e w8 ⟨rfl, hb⟩; refine ⟨_, rfl, ?_⟩; have n0_ := Aside0.mk (below_step (by repeat (first | (with_reducible first | exact HB.out | apply below_alloc | apply pw_below_drewN | apply below_drew1) | exact HB.out)) hb); clear HB; have HB := n0_; clear n0_; (try clear hb); (try clear hb2); (try clear hk); (try clear hi)) | ((with_reducible refine gate_callee (f := 5) rfl ?_); refine goesL_ (some 52) rfl rfl Tryd.func5 (by kernel_rfl) rfl #[.int .i64 t177] rfl (by (try simp only [List.map_toArray, List.map_cons, List.map_nil]); first | done | rfl | (simp only [List.length_drop, List.length_take]; rfl)) ?_; (with_reducible refine (impl_TagSmall.calls t177 t178 t179 _ A5.out).mono ?_); rintro e w' ⟨rfl, ⟨nd, rfl⟩⟩; refine ⟨_, rfl, ?_⟩) | ((with_reducible refine gate_callee (f := 6) rfl ?_); refine goesL_ (some 57) rfl rfl Tryd.func6 (by kernel_rfl) rfl #[.int .i64 t177] rfl (by (try simp only [List.map_toArray, List.map_cons, List.map_nil]); first | done | rfl | (simp only [List.length_drop, List.length_take]; rfl)) ?_; (with_reducible refine (spec_TagSmall.calls t177 t180 t181 _ A6.out).mono ?_); rintro e w' ⟨rfl, ⟨nd, rfl⟩⟩; refine ⟨_, rfl, ?_⟩))
    (try simp only [Act.put, List.setIfInBounds_toArray, List.set_cons_zero, List.set_cons_succ])
    go_cut [67] (fun v67 wc => ∃ (kq : Nat) (x67_6 : Bool), v67 = .bool x67_6 ∧ Aside0 (laws_FnTags.j0 kq l1 t177 t178 t179 x67_6 = some true) ∧ Aside0 (kq ≤ k) ∧ Aside0 (Below w.heap.size w wc))
    case first => as_aux_lemma =>
      have H := HC7.out
      clear HC7
      by_cases c9 : (t179 != t181) = true
      · rw [if_pos c9] at H
        have c9b0 : (t179 != t181) = true := c9
        (try (have c9b1 : decide (t179 = t181) = false := by simpa using c9))
        (try (have c9b2 : (t179 == t181) = false := by simpa using c9))
        (try (have c9b3 : ¬ (t179 = t181) := by simpa using c9))
        clear c9
        (first | rw [c9b0] | (simp only [i64_w, i32_w]; rw [c9b0]) | skip)
        exact absurd H (by cases k <;> simp [laws_FnTags.j0])
      · rw [if_neg c9] at H
        have c9b0 : (t179 != t181) = false := by simpa using c9
        (try (have c9b1 : decide (t179 = t181) = true := by simpa using c9))
        (try (have c9b2 : (t179 == t181) = true := by simpa using c9))
        clear c9
        (first | rw [c9b0] | (simp only [i64_w, i32_w]; rw [c9b0]) | skip)
        have H' := Aside0.mk H
        clear H
        go_wp2
        go_meet
        case rel => exact ⟨_, ((t178 != t180)), (by first | rfl | (simp; done) | (simp [*]; done)), H', ⟨by first | omega | exact Nat.le_refl _⟩, ⟨by repeat (first | (with_reducible first | exact HB.out | apply below_alloc | apply pw_below_drewN | apply below_drew1) | exact HB.out)⟩⟩
    case rest => as_aux_lemma =>
      clear HC7
      try clear c1
      try clear p2
      try clear c3
      try clear c3b0
      try clear c4
      try clear c5
      try clear c6
      try clear p6
      try clear c9
      try clear c9b0
      try clear c9b1
      try clear c9b2
      obtain ⟨kq, x67_6, rfl, HA, HJ6, HB⟩ := hcut
      cases kq with
      | zero => exact absurd HA.out (by simp [laws_FnTags.j0])
      | succ kj6 =>
        have H := HA.out
        clear HA
        simp only [laws_FnTags.j0] at H
        by_cases c10 : x67_6 = true
        · subst c10
          have H1 : (some false) = some true := by rw [if_pos rfl] at H; exact H
          clear H
          have H := H1
          clear H1
          exact absurd H (by simp)
        · replace c10 := Bool.eq_false_iff.mpr c10
          subst c10
          have H1 : (if t179 = true then ((impl_UntagSmall.f t178).bind fun bt182 => ((impl_UntagAddr.f t178).bind fun bt184 => (if bt182.2 = true then (if bt182.1 = t177 then (if bt184.2 = true then (some false) else ((impl_IsSmall.f t178).bind fun t186 => (if t186 = true then (laws_FnTags.j1 kj6 l1) else (some false)))) else (some false)) else (some false)))) else (laws_FnTags.j1 kj6 l1)) = some true := by rw [if_neg (show ¬ (false = true) by decide)] at H; exact H
          clear H
          have H := H1
          clear H1
          have HC11 := Aside0.mk H
          clear H
          go_upto_if 68 with (fail)
          go_cut [] (fun wc => ∃ (kq : Nat), Aside0 (laws_FnTags.j1 kq l1 = some true) ∧ Aside0 (kq ≤ kj6) ∧ Aside0 (Below w.heap.size w wc))
          case first => as_aux_lemma =>
            have H := HC11.out
            clear HC11
            by_cases c12 : t179 = true
            · subst c12
              have H1 : ((impl_UntagSmall.f t178).bind fun bt182 => ((impl_UntagAddr.f t178).bind fun bt184 => (if bt182.2 = true then (if bt182.1 = t177 then (if bt184.2 = true then (some false) else ((impl_IsSmall.f t178).bind fun t186 => (if t186 = true then (laws_FnTags.j1 kj6 l1) else (some false)))) else (some false)) else (some false)))) = some true := by rw [if_pos rfl] at H; exact H
              clear H
              have H := H1
              clear H1
              replace H := Option.bind_eq_some_iff.mp H
              obtain ⟨⟨t182, t183⟩, A130, H⟩ := H
              replace H : ((impl_UntagAddr.f t178).bind fun bt184 => (if t183 = true then (if t182 = t177 then (if bt184.2 = true then (some false) else ((impl_IsSmall.f t178).bind fun t186 => (if t186 = true then (laws_FnTags.j1 kj6 l1) else (some false)))) else (some false)) else (some false))) = some true := H
              have A13 := Aside0.mk A130
              clear A130
              replace H := Option.bind_eq_some_iff.mp H
              obtain ⟨⟨t184, t185⟩, A140, H⟩ := H
              replace H : (if t183 = true then (if t182 = t177 then (if t185 = true then (some false) else ((impl_IsSmall.f t178).bind fun t186 => (if t186 = true then (laws_FnTags.j1 kj6 l1) else (some false)))) else (some false)) else (some false)) = some true := H
              have A14 := Aside0.mk A140
              clear A140
              by_cases c15 : t183 = true
              · subst c15
                have H1 : (if t182 = t177 then (if t185 = true then (some false) else ((impl_IsSmall.f t178).bind fun t186 => (if t186 = true then (laws_FnTags.j1 kj6 l1) else (some false)))) else (some false)) = some true := by rw [if_pos rfl] at H; exact H
                clear H
                have H := H1
                clear H1
                by_cases c16 : t182 = t177
                · rw [if_pos c16] at H
                  have c16b0 : (t182 == t177) = true := beq_iff_eq.mpr c16
                  have c16b1 : (t182 != t177) = false := bne_eq_false_iff_eq.mpr c16
                  clear c16
                  (first | rw [c16b0] | (simp only [i64_w, i32_w]; rw [c16b0]) | skip)
                  by_cases c17 : t185 = true
                  · subst c17
                    have H1 : (some false) = some true := by rw [if_pos rfl] at H; exact H
                    clear H
                    have H := H1
                    clear H1
                    exact absurd H (by simp)
                  · replace c17 := Bool.eq_false_iff.mpr c17
                    subst c17
                    have H1 : ((impl_IsSmall.f t178).bind fun t186 => (if t186 = true then (laws_FnTags.j1 kj6 l1) else (some false))) = some true := by rw [if_neg (show ¬ (false = true) by decide)] at H; exact H
                    clear H
                    have H := H1
                    clear H1
                    replace H := Option.bind_eq_some_iff.mp H
                    obtain ⟨t186, A180, H⟩ := H
                    replace H : (if t186 = true then (laws_FnTags.j1 kj6 l1) else (some false)) = some true := H
                    have A18 := Aside0.mk A180
                    clear A180
                    by_cases c19 : t186 = true
                    · subst c19
                      have H1 : (laws_FnTags.j1 kj6 l1) = some true := by rw [if_pos rfl] at H; exact H
                      clear H
                      have H := H1
                      clear H1
                      have H' := Aside0.mk H
                      clear H
                      go_wp2_with (first | ((with_reducible refine gate_callee (f := 7) rfl ?_); refine goesL_ (some 71) rfl rfl Tryd.func7 (by kernel_rfl) rfl #[.int .i64 t178] rfl (by (try simp only [List.map_toArray, List.map_cons, List.map_nil]); first | done | rfl | (simp only [List.length_drop, List.length_take]; rfl)) ?_; (with_reducible refine (impl_UntagSmall.calls t178 t182 true _ A13.out).mono ?_); rintro e w' ⟨rfl, ⟨nd, rfl⟩⟩; refine ⟨_, rfl, ?_⟩) | ((with_reducible refine gate_callee (f := 8) rfl ?_); refine goesL_ (some 76) rfl rfl Tryd.func8 (by kernel_rfl) rfl #[.int .i64 t178] rfl (by (try simp only [List.map_toArray, List.map_cons, List.map_nil]); first | done | rfl | (simp only [List.length_drop, List.length_take]; rfl)) ?_; (with_reducible refine (impl_UntagAddr.calls t178 t184 false _ A14.out).mono ?_); rintro e w' ⟨rfl, ⟨nd, rfl⟩⟩; refine ⟨_, rfl, ?_⟩) | (go_at_call 9; (with_reducible refine (impl_IsSmall.calls t178 true _ A18.out).mono ?_); rintro e w' ⟨rfl, ⟨nd, rfl⟩⟩))
                      go_meet
                      case rel => exact ⟨_, H', ⟨by have := HJ6.out; first | omega | exact Nat.le_refl _⟩, ⟨by repeat (first | (with_reducible first | exact HB.out | apply below_alloc | apply pw_below_drewN | apply below_drew1) | exact HB.out)⟩⟩
                    · replace c19 := Bool.eq_false_iff.mpr c19
                      subst c19
                      have H1 : (some false) = some true := by rw [if_neg (show ¬ (false = true) by decide)] at H; exact H
                      clear H
                      have H := H1
                      clear H1
                      exact absurd H (by simp)
                · rw [if_neg c16] at H
                  have c16b0 : (t182 == t177) = false := beq_eq_false_iff_ne.mpr c16
                  have c16b1 : (t182 != t177) = true := bne_iff_ne.mpr c16
                  (first | rw [c16b0] | (simp only [i64_w, i32_w]; rw [c16b0]) | skip)
                  exact absurd H (by simp)
              · replace c15 := Bool.eq_false_iff.mpr c15
                subst c15
                have H1 : (some false) = some true := by rw [if_neg (show ¬ (false = true) by decide)] at H; exact H
                clear H
                have H := H1
                clear H1
                exact absurd H (by simp)
            · replace c12 := Bool.eq_false_iff.mpr c12
              subst c12
              have H1 : (laws_FnTags.j1 kj6 l1) = some true := by rw [if_neg (show ¬ (false = true) by decide)] at H; exact H
              clear H
              have H := H1
              clear H1
              have H' := Aside0.mk H
              clear H
              go_wp2
              go_meet
              case rel => exact ⟨_, H', ⟨by have := HJ6.out; first | omega | exact Nat.le_refl _⟩, ⟨by repeat (first | (with_reducible first | exact HB.out | apply below_alloc | apply pw_below_drewN | apply below_drew1) | exact HB.out)⟩⟩
          case rest => as_aux_lemma =>
            clear HC11
            try clear c1
            try clear p2
            try clear c3
            try clear c3b0
            try clear c4
            try clear c5
            try clear c6
            try clear p6
            try clear c7
            try clear c8
            try clear c9
            try clear c9b0
            try clear c9b1
            try clear c9b2
            try clear c10
            try clear c12
            try clear c15
            try clear c16
            try clear c16b0
            try clear c16b1
            try clear c17
            try clear c19
            try clear p2
            try clear p6
            obtain ⟨kq, HA, HJ10, HB⟩ := hcut
            cases kq with
            | zero => exact absurd HA.out (by simp [laws_FnTags.j1])
            | succ kj10 =>
              have H := HA.out
              clear HA
              simp only [laws_FnTags.j1] at H
              replace H := Option.bind_eq_some_iff.mp H
              obtain ⟨t187, A200, H⟩ := H
              replace H : ((impl_UntagSmall.f t187).bind fun bt188 => ((spec_UntagSmall.f t187).bind fun bt190 => ((impl_UntagAddr.f t187).bind fun bt192 => ((spec_UntagAddr.f t187).bind fun bt194 => (if (bt188.2 != bt190.2) = true then (laws_FnTags.j2 kj10 l1 t187 bt188.1 bt188.2 bt192.1 bt192.2 true) else (if bt188.1 = bt190.1 then (if (bt192.2 != bt194.2) = true then (laws_FnTags.j2 kj10 l1 t187 bt188.1 bt188.2 bt192.1 bt192.2 true) else (if bt192.1 = bt194.1 then ((impl_IsSmall.f t187).bind fun t196 => (if (bt188.2 != t196) = true then (laws_FnTags.j2 kj10 l1 t187 bt188.1 bt188.2 bt192.1 bt192.2 true) else (if bt188.2 = true then (laws_FnTags.j2 kj10 l1 t187 bt188.1 bt188.2 bt192.1 bt192.2 bt192.2) else (laws_FnTags.j2 kj10 l1 t187 bt188.1 bt188.2 bt192.1 bt192.2 false)))) else (laws_FnTags.j2 kj10 l1 t187 bt188.1 bt188.2 bt192.1 bt192.2 true))) else (laws_FnTags.j2 kj10 l1 t187 bt188.1 bt188.2 bt192.1 bt192.2 true))))))) = some true := H
              have A20 := Aside0.mk A200
              clear A200
              replace H := Option.bind_eq_some_iff.mp H
              obtain ⟨⟨t188, t189⟩, A210, H⟩ := H
              replace H : ((spec_UntagSmall.f t187).bind fun bt190 => ((impl_UntagAddr.f t187).bind fun bt192 => ((spec_UntagAddr.f t187).bind fun bt194 => (if (t189 != bt190.2) = true then (laws_FnTags.j2 kj10 l1 t187 t188 t189 bt192.1 bt192.2 true) else (if t188 = bt190.1 then (if (bt192.2 != bt194.2) = true then (laws_FnTags.j2 kj10 l1 t187 t188 t189 bt192.1 bt192.2 true) else (if bt192.1 = bt194.1 then ((impl_IsSmall.f t187).bind fun t196 => (if (t189 != t196) = true then (laws_FnTags.j2 kj10 l1 t187 t188 t189 bt192.1 bt192.2 true) else (if t189 = true then (laws_FnTags.j2 kj10 l1 t187 t188 t189 bt192.1 bt192.2 bt192.2) else (laws_FnTags.j2 kj10 l1 t187 t188 t189 bt192.1 bt192.2 false)))) else (laws_FnTags.j2 kj10 l1 t187 t188 t189 bt192.1 bt192.2 true))) else (laws_FnTags.j2 kj10 l1 t187 t188 t189 bt192.1 bt192.2 true)))))) = some true := H
              have A21 := Aside0.mk A210
              clear A210
              replace H := Option.bind_eq_some_iff.mp H
              obtain ⟨⟨t190, t191⟩, A220, H⟩ := H
              replace H : ((impl_UntagAddr.f t187).bind fun bt192 => ((spec_UntagAddr.f t187).bind fun bt194 => (if (t189 != t191) = true then (laws_FnTags.j2 kj10 l1 t187 t188 t189 bt192.1 bt192.2 true) else (if t188 = t190 then (if (bt192.2 != bt194.2) = true then (laws_FnTags.j2 kj10 l1 t187 t188 t189 bt192.1 bt192.2 true) else (if bt192.1 = bt194.1 then ((impl_IsSmall.f t187).bind fun t196 => (if (t189 != t196) = true then (laws_FnTags.j2 kj10 l1 t187 t188 t189 bt192.1 bt192.2 true) else (if t189 = true then (laws_FnTags.j2 kj10 l1 t187 t188 t189 bt192.1 bt192.2 bt192.2) else (laws_FnTags.j2 kj10 l1 t187 t188 t189 bt192.1 bt192.2 false)))) else (laws_FnTags.j2 kj10 l1 t187 t188 t189 bt192.1 bt192.2 true))) else (laws_FnTags.j2 kj10 l1 t187 t188 t189 bt192.1 bt192.2 true))))) = some true := H
              have A22 := Aside0.mk A220
              clear A220
              replace H := Option.bind_eq_some_iff.mp H
              obtain ⟨⟨t192, t193⟩, A230, H⟩ := H
              replace H : ((spec_UntagAddr.f t187).bind fun bt194 => (if (t189 != t191) = true then (laws_FnTags.j2 kj10 l1 t187 t188 t189 t192 t193 true) else (if t188 = t190 then (if (t193 != bt194.2) = true then (laws_FnTags.j2 kj10 l1 t187 t188 t189 t192 t193 true) else (if t192 = bt194.1 then ((impl_IsSmall.f t187).bind fun t196 => (if (t189 != t196) = true then (laws_FnTags.j2 kj10 l1 t187 t188 t189 t192 t193 true) else (if t189 = true then (laws_FnTags.j2 kj10 l1 t187 t188 t189 t192 t193 t193) else (laws_FnTags.j2 kj10 l1 t187 t188 t189 t192 t193 false)))) else (laws_FnTags.j2 kj10 l1 t187 t188 t189 t192 t193 true))) else (laws_FnTags.j2 kj10 l1 t187 t188 t189 t192 t193 true)))) = some true := H
              have A23 := Aside0.mk A230
              clear A230
              replace H := Option.bind_eq_some_iff.mp H
              obtain ⟨⟨t194, t195⟩, A240, H⟩ := H
              replace H : (if (t189 != t191) = true then (laws_FnTags.j2 kj10 l1 t187 t188 t189 t192 t193 true) else (if t188 = t190 then (if (t193 != t195) = true then (laws_FnTags.j2 kj10 l1 t187 t188 t189 t192 t193 true) else (if t192 = t194 then ((impl_IsSmall.f t187).bind fun t196 => (if (t189 != t196) = true then (laws_FnTags.j2 kj10 l1 t187 t188 t189 t192 t193 true) else (if t189 = true then (laws_FnTags.j2 kj10 l1 t187 t188 t189 t192 t193 t193) else (laws_FnTags.j2 kj10 l1 t187 t188 t189 t192 t193 false)))) else (laws_FnTags.j2 kj10 l1 t187 t188 t189 t192 t193 true))) else (laws_FnTags.j2 kj10 l1 t187 t188 t189 t192 t193 true))) = some true := H
              have A24 := Aside0.mk A240
              clear A240
              have HC25 := Aside0.mk H
              clear H
              go_upto_region 18 with (first | ((with_reducible refine gate_callee (f := 10) rfl ?_); refine goesL_ (some 95) rfl rfl Tryd.func10 (by kernel_rfl) rfl #[.slice A1 l1.length c1] rfl (by (try simp only [List.map_toArray, List.map_cons, List.map_nil]); first | done | rfl | (simp only [List.length_drop, List.length_take]; rfl)) ?_; (with_reducible refine (spec_DrawUntagSmall.calls _ _ l1 t187 _ ?side1 ?side2 A20.out).mono ?_); (case side1 => repeat (first | exact (Kd.C_below HR1.out HB.out) | (with_reducible refine Kd.C_alloc ?_ _) | (with_reducible refine Kd.C_drewN ?_ _) | (with_reducible refine Kd.C_drew ?_))); (case side2 => exact HC1.out); rintro e w26 ⟨rfl, hb⟩; refine ⟨_, rfl, ?_⟩; have n0_ := Aside0.mk (below_step (by repeat (first | (with_reducible first | exact HB.out | apply below_alloc | apply pw_below_drewN | apply below_drew1) | exact HB.out)) hb); clear HB; have HB := n0_; clear n0_; (try clear hb); (try clear hb2); (try clear hk); (try clear hi)) | ((with_reducible refine gate_callee (f := 7) rfl ?_); refine goesL_ (some 98) rfl rfl Tryd.func7 (by kernel_rfl) rfl #[.int .i64 t187] rfl (by (try simp only [List.map_toArray, List.map_cons, List.map_nil]); first | done | rfl | (simp only [List.length_drop, List.length_take]; rfl)) ?_; (with_reducible refine (impl_UntagSmall.calls t187 t188 t189 _ A21.out).mono ?_); rintro e w' ⟨rfl, ⟨nd, rfl⟩⟩; refine ⟨_, rfl, ?_⟩) | ((with_reducible refine gate_callee (f := 11) rfl ?_); refine goesL_ (some 103) rfl rfl Tryd.func11 (by kernel_rfl) rfl #[.int .i64 t187] rfl (by (try simp only [List.map_toArray, List.map_cons, List.map_nil]); first | done | rfl | (simp only [List.length_drop, List.length_take]; rfl)) ?_; (with_reducible refine (spec_UntagSmall.calls t187 t190 t191 _ A22.out).mono ?_); rintro e w' ⟨rfl, ⟨nd, rfl⟩⟩; refine ⟨_, rfl, ?_⟩) | ((with_reducible refine gate_callee (f := 8) rfl ?_); refine goesL_ (some 108) rfl rfl Tryd.func8 (by kernel_rfl) rfl #[.int .i64 t187] rfl (by (try simp only [List.map_toArray, List.map_cons, List.map_nil]); first | done | rfl | (simp only [List.length_drop, List.length_take]; rfl)) ?_; (with_reducible refine (impl_UntagAddr.calls t187 t192 t193 _ A23.out).mono ?_); rintro e w' ⟨rfl, ⟨nd, rfl⟩⟩; refine ⟨_, rfl, ?_⟩) | ((with_reducible refine gate_callee (f := 12) rfl ?_); refine goesL_ (some 113) rfl rfl Tryd.func12 (by kernel_rfl) rfl #[.int .i64 t187] rfl (by (try simp only [List.map_toArray, List.map_cons, List.map_nil]); first | done | rfl | (simp only [List.length_drop, List.length_take]; rfl)) ?_; (with_reducible refine (spec_UntagAddr.calls t187 t194 t195 _ A24.out).mono ?_); rintro e w' ⟨rfl, ⟨nd, rfl⟩⟩; refine ⟨_, rfl, ?_⟩))
              (try simp only [Act.put, List.setIfInBounds_toArray, List.set_cons_zero, List.set_cons_succ])
              go_cut [145] (fun v145 wc => ∃ (kq : Nat) (x145_24 : Bool), v145 = .bool x145_24 ∧ Aside0 (laws_FnTags.j2 kq l1 t187 t188 t189 t192 t193 x145_24 = some true) ∧ Aside0 (kq ≤ kj10) ∧ Aside0 (Below w.heap.size w wc))
              case first => as_aux_lemma =>
                have H := HC25.out
                clear HC25
                by_cases c27 : (t189 != t191) = true
                · rw [if_pos c27] at H
                  have c27b0 : (t189 != t191) = true := c27
                  (try (have c27b1 : decide (t189 = t191) = false := by simpa using c27))
                  (try (have c27b2 : (t189 == t191) = false := by simpa using c27))
                  (try (have c27b3 : ¬ (t189 = t191) := by simpa using c27))
                  clear c27
                  (first | rw [c27b0] | (simp only [i64_w, i32_w]; rw [c27b0]) | skip)
                  exact absurd H (by cases kj10 <;> simp [laws_FnTags.j2])
                · rw [if_neg c27] at H
                  have c27b0 : (t189 != t191) = false := by simpa using c27
                  (try (have c27b1 : decide (t189 = t191) = true := by simpa using c27))
                  (try (have c27b2 : (t189 == t191) = true := by simpa using c27))
                  clear c27
                  (first | rw [c27b0] | (simp only [i64_w, i32_w]; rw [c27b0]) | skip)
                  by_cases c28 : t188 = t190
                  · rw [if_pos c28] at H
                    have c28b0 : (t188 == t190) = true := beq_iff_eq.mpr c28
                    have c28b1 : (t188 != t190) = false := bne_eq_false_iff_eq.mpr c28
                    clear c28
                    by_cases c29 : (t193 != t195) = true
                    · rw [if_pos c29] at H
                      have c29b0 : (t193 != t195) = true := c29
                      (try (have c29b1 : decide (t193 = t195) = false := by simpa using c29))
                      (try (have c29b2 : (t193 == t195) = false := by simpa using c29))
                      (try (have c29b3 : ¬ (t193 = t195) := by simpa using c29))
                      clear c29
                      exact absurd H (by cases kj10 <;> simp [laws_FnTags.j2])
                    · rw [if_neg c29] at H
                      have c29b0 : (t193 != t195) = false := by simpa using c29
                      (try (have c29b1 : decide (t193 = t195) = true := by simpa using c29))
                      (try (have c29b2 : (t193 == t195) = true := by simpa using c29))
                      clear c29
                      by_cases c30 : t192 = t194
                      · rw [if_pos c30] at H
                        have c30b0 : (t192 == t194) = true := beq_iff_eq.mpr c30
                        have c30b1 : (t192 != t194) = false := bne_eq_false_iff_eq.mpr c30
                        clear c30
                        replace H := Option.bind_eq_some_iff.mp H
                        obtain ⟨t196, A310, H⟩ := H
                        replace H : (if (t189 != t196) = true then (laws_FnTags.j2 kj10 l1 t187 t188 t189 t192 t193 true) else (if t189 = true then (laws_FnTags.j2 kj10 l1 t187 t188 t189 t192 t193 t193) else (laws_FnTags.j2 kj10 l1 t187 t188 t189 t192 t193 false))) = some true := H
                        have A31 := Aside0.mk A310
                        clear A310
                        by_cases c32 : (t189 != t196) = true
                        · rw [if_pos c32] at H
                          have c32b0 : (t189 != t196) = true := c32
                          (try (have c32b1 : decide (t189 = t196) = false := by simpa using c32))
                          (try (have c32b2 : (t189 == t196) = false := by simpa using c32))
                          (try (have c32b3 : ¬ (t189 = t196) := by simpa using c32))
                          clear c32
                          exact absurd H (by cases kj10 <;> simp [laws_FnTags.j2])
                        · rw [if_neg c32] at H
                          have c32b0 : (t189 != t196) = false := by simpa using c32
                          (try (have c32b1 : decide (t189 = t196) = true := by simpa using c32))
                          (try (have c32b2 : (t189 == t196) = true := by simpa using c32))
                          clear c32
                          by_cases c33 : t189 = true
                          · subst c33
                            have H1 : (laws_FnTags.j2 kj10 l1 t187 t188 true t192 t193 t193) = some true := by rw [if_pos rfl] at H; exact H
                            clear H
                            have H := H1
                            clear H1
                            have H' := Aside0.mk H
                            clear H
                            go_wp2_with (first | (go_at_call 9; (with_reducible refine (impl_IsSmall.calls t187 t196 _ A31.out).mono ?_); rintro e w' ⟨rfl, ⟨nd, rfl⟩⟩))
                            go_meet
                            case rel => exact ⟨_, (t193), (by first | rfl | (simp; done) | (simp [*]; done)), H', ⟨by have := HJ6.out; have := HJ10.out; first | omega | exact Nat.le_refl _⟩, ⟨by repeat (first | (with_reducible first | exact HB.out | apply below_alloc | apply pw_below_drewN | apply below_drew1) | exact HB.out)⟩⟩
                          · replace c33 := Bool.eq_false_iff.mpr c33
                            subst c33
                            have H1 : (laws_FnTags.j2 kj10 l1 t187 t188 false t192 t193 false) = some true := by rw [if_neg (show ¬ (false = true) by decide)] at H; exact H
                            clear H
                            have H := H1
                            clear H1
                            have H' := Aside0.mk H
                            clear H
                            go_wp2_with (first | (go_at_call 9; (with_reducible refine (impl_IsSmall.calls t187 t196 _ A31.out).mono ?_); rintro e w' ⟨rfl, ⟨nd, rfl⟩⟩))
                            go_meet
                            case rel => exact ⟨_, (false), (by first | rfl | (simp; done) | (simp [*]; done)), H', ⟨by have := HJ6.out; have := HJ10.out; first | omega | exact Nat.le_refl _⟩, ⟨by repeat (first | (with_reducible first | exact HB.out | apply below_alloc | apply pw_below_drewN | apply below_drew1) | exact HB.out)⟩⟩
                      · rw [if_neg c30] at H
                        have c30b0 : (t192 == t194) = false := beq_eq_false_iff_ne.mpr c30
                        have c30b1 : (t192 != t194) = true := bne_iff_ne.mpr c30
                        exact absurd H (by cases kj10 <;> simp [laws_FnTags.j2])
                  · rw [if_neg c28] at H
                    have c28b0 : (t188 == t190) = false := beq_eq_false_iff_ne.mpr c28
                    have c28b1 : (t188 != t190) = true := bne_iff_ne.mpr c28
                    exact absurd H (by cases kj10 <;> simp [laws_FnTags.j2])
              case rest => as_aux_lemma =>
                clear HC25
                try clear c1
                try clear c2
                try clear p2
                try clear c3
                try clear c3b0
                try clear c4
                try clear c5
                try clear c6
                try clear p6
                try clear c7
                try clear c8
                try clear c9
                try clear c9b0
                try clear c9b1
                try clear c9b2
                try clear c10
                try clear c11
                try clear c12
                try clear c15
                try clear c16
                try clear c16b0
                try clear c16b1
                try clear c17
                try clear c19
                try clear c27
                try clear c27b0
                try clear c27b1
                try clear c27b2
                try clear c28
                try clear c28b0
                try clear c28b1
                try clear c29
                try clear c29b0
                try clear c29b1
                try clear c29b2
                try clear c30
                try clear c30b0
                try clear c30b1
                try clear c32
                try clear c32b0
                try clear c32b1
                try clear c32b2
                try clear c33
                try clear p2
                try clear p6
                obtain ⟨kq, x145_24, rfl, HA, HJ24, HB⟩ := hcut
                cases kq with
                | zero => exact absurd HA.out (by simp [laws_FnTags.j2])
                | succ kj24 =>
                  have H := HA.out
                  clear HA
                  simp only [laws_FnTags.j2] at H
                  by_cases c34 : x145_24 = true
                  · subst c34
                    have H1 : (some false) = some true := by rw [if_pos rfl] at H; exact H
                    clear H
                    have H := H1
                    clear H1
                    exact absurd H (by simp)
                  · replace c34 := Bool.eq_false_iff.mpr c34
                    subst c34
                    have H1 : (if t189 = true then ((impl_TagSmall.f t188).bind fun bt197 => (if bt197.2 = true then (if bt197.1 = t187 then (laws_FnTags.j3 kj24 l1 t187 t192 t193) else (some false)) else (some false))) else (laws_FnTags.j3 kj24 l1 t187 t192 t193)) = some true := by rw [if_neg (show ¬ (false = true) by decide)] at H; exact H
                    clear H
                    have H := H1
                    clear H1
                    have HC35 := Aside0.mk H
                    clear H
                    go_upto_if 146 with (fail)
                    go_cut [] (fun wc => ∃ (kq : Nat), Aside0 (laws_FnTags.j3 kq l1 t187 t192 t193 = some true) ∧ Aside0 (kq ≤ kj24) ∧ Aside0 (Below w.heap.size w wc))
                    case first => as_aux_lemma =>
                      have H := HC35.out
                      clear HC35
                      by_cases c36 : t189 = true
                      · subst c36
                        have H1 : ((impl_TagSmall.f t188).bind fun bt197 => (if bt197.2 = true then (if bt197.1 = t187 then (laws_FnTags.j3 kj24 l1 t187 t192 t193) else (some false)) else (some false))) = some true := by rw [if_pos rfl] at H; exact H
                        clear H
                        have H := H1
                        clear H1
                        replace H := Option.bind_eq_some_iff.mp H
                        obtain ⟨⟨t197, t198⟩, A370, H⟩ := H
                        replace H : (if t198 = true then (if t197 = t187 then (laws_FnTags.j3 kj24 l1 t187 t192 t193) else (some false)) else (some false)) = some true := H
                        have A37 := Aside0.mk A370
                        clear A370
                        by_cases c38 : t198 = true
                        · subst c38
                          have H1 : (if t197 = t187 then (laws_FnTags.j3 kj24 l1 t187 t192 t193) else (some false)) = some true := by rw [if_pos rfl] at H; exact H
                          clear H
                          have H := H1
                          clear H1
                          by_cases c39 : t197 = t187
                          · rw [if_pos c39] at H
                            have c39b0 : (t197 == t187) = true := beq_iff_eq.mpr c39
                            have c39b1 : (t197 != t187) = false := bne_eq_false_iff_eq.mpr c39
                            clear c39
                            (first | rw [c39b0] | (simp only [i64_w, i32_w]; rw [c39b0]) | skip)
                            have H' := Aside0.mk H
                            clear H
                            go_wp2_with (first | ((with_reducible refine gate_callee (f := 5) rfl ?_); refine goesL_ (some 149) rfl rfl Tryd.func5 (by kernel_rfl) rfl #[.int .i64 t188] rfl (by (try simp only [List.map_toArray, List.map_cons, List.map_nil]); first | done | rfl | (simp only [List.length_drop, List.length_take]; rfl)) ?_; (with_reducible refine (impl_TagSmall.calls t188 t197 true _ A37.out).mono ?_); rintro e w' ⟨rfl, ⟨nd, rfl⟩⟩; refine ⟨_, rfl, ?_⟩))
                            go_meet
                            case rel => exact ⟨_, H', ⟨by have := HJ6.out; have := HJ10.out; have := HJ24.out; first | omega | exact Nat.le_refl _⟩, ⟨by repeat (first | (with_reducible first | exact HB.out | apply below_alloc | apply pw_below_drewN | apply below_drew1) | exact HB.out)⟩⟩
                          · rw [if_neg c39] at H
                            have c39b0 : (t197 == t187) = false := beq_eq_false_iff_ne.mpr c39
                            have c39b1 : (t197 != t187) = true := bne_iff_ne.mpr c39
                            (first | rw [c39b0] | (simp only [i64_w, i32_w]; rw [c39b0]) | skip)
                            exact absurd H (by simp)
                        · replace c38 := Bool.eq_false_iff.mpr c38
                          subst c38
                          have H1 : (some false) = some true := by rw [if_neg (show ¬ (false = true) by decide)] at H; exact H
                          clear H
                          have H := H1
                          clear H1
                          exact absurd H (by simp)
                      · replace c36 := Bool.eq_false_iff.mpr c36
                        subst c36
                        have H1 : (laws_FnTags.j3 kj24 l1 t187 t192 t193) = some true := by rw [if_neg (show ¬ (false = true) by decide)] at H; exact H
                        clear H
                        have H := H1
                        clear H1
                        have H' := Aside0.mk H
                        clear H
                        go_wp2
                        go_meet
                        case rel => exact ⟨_, H', ⟨by have := HJ6.out; have := HJ10.out; have := HJ24.out; first | omega | exact Nat.le_refl _⟩, ⟨by repeat (first | (with_reducible first | exact HB.out | apply below_alloc | apply pw_below_drewN | apply below_drew1) | exact HB.out)⟩⟩
                    case rest => as_aux_lemma =>
                      clear HC35
                      try clear c1
                      try clear c2
                      try clear p2
                      try clear c3
                      try clear c3b0
                      try clear c4
                      try clear c5
                      try clear c6
                      try clear p6
                      try clear c7
                      try clear c8
                      try clear c9
                      try clear c9b0
                      try clear c9b1
                      try clear c9b2
                      try clear c10
                      try clear c11
                      try clear c12
                      try clear c15
                      try clear c16
                      try clear c16b0
                      try clear c16b1
                      try clear c17
                      try clear c19
                      try clear c27
                      try clear c27b0
                      try clear c27b1
                      try clear c27b2
                      try clear c28
                      try clear c28b0
                      try clear c28b1
                      try clear c29
                      try clear c29b0
                      try clear c29b1
                      try clear c29b2
                      try clear c30
                      try clear c30b0
                      try clear c30b1
                      try clear c32
                      try clear c32b0
                      try clear c32b1
                      try clear c32b2
                      try clear c33
                      try clear c34
                      try clear c36
                      try clear c38
                      try clear c39
                      try clear c39b0
                      try clear c39b1
                      try clear p2
                      try clear p6
                      obtain ⟨kq, HA, HJ34, HB⟩ := hcut
                      cases kq with
                      | zero => exact absurd HA.out (by simp [laws_FnTags.j3])
                      | succ kj34 =>
                        have H := HA.out
                        clear HA
                        simp only [laws_FnTags.j3] at H
                        have HC40 := Aside0.mk H
                        clear H
                        go_upto_if 159 with (fail)
                        go_cut [] (fun wc => ∃ (kq : Nat), Aside0 (laws_FnTags.j4 kq l1 t187 = some true) ∧ Aside0 (kq ≤ kj34) ∧ Aside0 (Below w.heap.size w wc))
                        case first => as_aux_lemma =>
                          have H := HC40.out
                          clear HC40
                          by_cases c41 : t193 = true
                          · subst c41
                            have H1 : ((impl_TagAddr.f t192).bind fun bt199 => (if bt199.2 = true then (if bt199.1 = t187 then (laws_FnTags.j4 kj34 l1 t187) else (some false)) else (some false))) = some true := by rw [if_pos rfl] at H; exact H
                            clear H
                            have H := H1
                            clear H1
                            replace H := Option.bind_eq_some_iff.mp H
                            obtain ⟨⟨t199, t200⟩, A420, H⟩ := H
                            replace H : (if t200 = true then (if t199 = t187 then (laws_FnTags.j4 kj34 l1 t187) else (some false)) else (some false)) = some true := H
                            have A42 := Aside0.mk A420
                            clear A420
                            by_cases c43 : t200 = true
                            · subst c43
                              have H1 : (if t199 = t187 then (laws_FnTags.j4 kj34 l1 t187) else (some false)) = some true := by rw [if_pos rfl] at H; exact H
                              clear H
                              have H := H1
                              clear H1
                              by_cases c44 : t199 = t187
                              · rw [if_pos c44] at H
                                have c44b0 : (t199 == t187) = true := beq_iff_eq.mpr c44
                                have c44b1 : (t199 != t187) = false := bne_eq_false_iff_eq.mpr c44
                                clear c44
                                (first | rw [c44b0] | (simp only [i64_w, i32_w]; rw [c44b0]) | skip)
                                have H' := Aside0.mk H
                                clear H
                                go_wp2_with (first | ((with_reducible refine gate_callee (f := 13) rfl ?_); refine goesL_ (some 162) rfl rfl Tryd.func13 (by kernel_rfl) rfl #[.int .i64 t192] rfl (by (try simp only [List.map_toArray, List.map_cons, List.map_nil]); first | done | rfl | (simp only [List.length_drop, List.length_take]; rfl)) ?_; (with_reducible refine (impl_TagAddr.calls t192 t199 true _ A42.out).mono ?_); rintro e w' ⟨rfl, ⟨nd, rfl⟩⟩; refine ⟨_, rfl, ?_⟩))
                                go_meet
                                case rel => exact ⟨_, H', ⟨by have := HJ6.out; have := HJ10.out; have := HJ24.out; have := HJ34.out; first | omega | exact Nat.le_refl _⟩, ⟨by repeat (first | (with_reducible first | exact HB.out | apply below_alloc | apply pw_below_drewN | apply below_drew1) | exact HB.out)⟩⟩
                              · rw [if_neg c44] at H
                                have c44b0 : (t199 == t187) = false := beq_eq_false_iff_ne.mpr c44
                                have c44b1 : (t199 != t187) = true := bne_iff_ne.mpr c44
                                (first | rw [c44b0] | (simp only [i64_w, i32_w]; rw [c44b0]) | skip)
                                exact absurd H (by simp)
                            · replace c43 := Bool.eq_false_iff.mpr c43
                              subst c43
                              have H1 : (some false) = some true := by rw [if_neg (show ¬ (false = true) by decide)] at H; exact H
                              clear H
                              have H := H1
                              clear H1
                              exact absurd H (by simp)
                          · replace c41 := Bool.eq_false_iff.mpr c41
                            subst c41
                            have H1 : (laws_FnTags.j4 kj34 l1 t187) = some true := by rw [if_neg (show ¬ (false = true) by decide)] at H; exact H
                            clear H
                            have H := H1
                            clear H1
                            have H' := Aside0.mk H
                            clear H
                            go_wp2
                            go_meet
                            case rel => exact ⟨_, H', ⟨by have := HJ6.out; have := HJ10.out; have := HJ24.out; have := HJ34.out; first | omega | exact Nat.le_refl _⟩, ⟨by repeat (first | (with_reducible first | exact HB.out | apply below_alloc | apply pw_below_drewN | apply below_drew1) | exact HB.out)⟩⟩
                        case rest => as_aux_lemma =>
                          clear HC40
                          try clear c1
                          try clear c2
                          try clear p2
                          try clear c3
                          try clear c3b0
                          try clear c4
                          try clear c5
                          try clear c6
                          try clear p6
                          try clear c7
                          try clear c8
                          try clear c9
                          try clear c9b0
                          try clear c9b1
                          try clear c9b2
                          try clear c10
                          try clear c11
                          try clear c12
                          try clear c13
                          try clear c15
                          try clear c16
                          try clear c16b0
                          try clear c16b1
                          try clear c17
                          try clear c19
                          try clear c27
                          try clear c27b0
                          try clear c27b1
                          try clear c27b2
                          try clear c28
                          try clear c28b0
                          try clear c28b1
                          try clear c29
                          try clear c29b0
                          try clear c29b1
                          try clear c29b2
                          try clear c30
                          try clear c30b0
                          try clear c30b1
                          try clear c32
                          try clear c32b0
                          try clear c32b1
                          try clear c32b2
                          try clear c33
                          try clear c34
                          try clear c36
                          try clear c38
                          try clear c39
                          try clear c39b0
                          try clear c39b1
                          try clear c41
                          try clear c43
                          try clear c44
                          try clear c44b0
                          try clear c44b1
                          try clear p2
                          try clear p6
                          obtain ⟨kq, HA, HJ39, HB⟩ := hcut
                          cases kq with
                          | zero => exact absurd HA.out (by simp [laws_FnTags.j4])
                          | succ kj39 =>
                            have H := HA.out
                            clear HA
                            simp only [laws_FnTags.j4] at H
                            replace H := Option.bind_eq_some_iff.mp H
                            obtain ⟨⟨t201, t202⟩, A450, H⟩ := H
                            replace H : ((spec_CountOnes.f kj39 t187).bind fun bt203 => ((impl_LowestOne.f t187).bind fun bt205 => ((spec_LowestOne.f kj39 t187).bind fun bt207 => (if (t202 != bt203.2) = true then (laws_FnTags.j5 kj39 l1 t187 t201 bt205.1 bt205.2 true) else (if t201 = bt203.1 then (if (bt205.2 != bt207.2) = true then (laws_FnTags.j5 kj39 l1 t187 t201 bt205.1 bt205.2 true) else (laws_FnTags.j5 kj39 l1 t187 t201 bt205.1 bt205.2 (bt205.1 != bt207.1))) else (laws_FnTags.j5 kj39 l1 t187 t201 bt205.1 bt205.2 true)))))) = some true := H
                            have A45 := Aside0.mk A450
                            clear A450
                            replace H := Option.bind_eq_some_iff.mp H
                            obtain ⟨⟨t203, t204⟩, A460, H⟩ := H
                            replace H : ((impl_LowestOne.f t187).bind fun bt205 => ((spec_LowestOne.f kj39 t187).bind fun bt207 => (if (t202 != t204) = true then (laws_FnTags.j5 kj39 l1 t187 t201 bt205.1 bt205.2 true) else (if t201 = t203 then (if (bt205.2 != bt207.2) = true then (laws_FnTags.j5 kj39 l1 t187 t201 bt205.1 bt205.2 true) else (laws_FnTags.j5 kj39 l1 t187 t201 bt205.1 bt205.2 (bt205.1 != bt207.1))) else (laws_FnTags.j5 kj39 l1 t187 t201 bt205.1 bt205.2 true))))) = some true := H
                            have A46 := Aside0.mk A460
                            clear A460
                            replace H := Option.bind_eq_some_iff.mp H
                            obtain ⟨⟨t205, t206⟩, A470, H⟩ := H
                            replace H : ((spec_LowestOne.f kj39 t187).bind fun bt207 => (if (t202 != t204) = true then (laws_FnTags.j5 kj39 l1 t187 t201 t205 t206 true) else (if t201 = t203 then (if (t206 != bt207.2) = true then (laws_FnTags.j5 kj39 l1 t187 t201 t205 t206 true) else (laws_FnTags.j5 kj39 l1 t187 t201 t205 t206 (t205 != bt207.1))) else (laws_FnTags.j5 kj39 l1 t187 t201 t205 t206 true)))) = some true := H
                            have A47 := Aside0.mk A470
                            clear A470
                            replace H := Option.bind_eq_some_iff.mp H
                            obtain ⟨⟨t207, t208⟩, A480, H⟩ := H
                            replace H : (if (t202 != t204) = true then (laws_FnTags.j5 kj39 l1 t187 t201 t205 t206 true) else (if t201 = t203 then (if (t206 != t208) = true then (laws_FnTags.j5 kj39 l1 t187 t201 t205 t206 true) else (laws_FnTags.j5 kj39 l1 t187 t201 t205 t206 (t205 != t207))) else (laws_FnTags.j5 kj39 l1 t187 t201 t205 t206 true))) = some true := H
                            have A48 := Aside0.mk A480
                            clear A480
                            have HC49 := Aside0.mk H
                            clear H
                            go_upto_region 32 with (first | ((with_reducible refine gate_callee (f := 14) rfl ?_); refine goesL_ (some 174) rfl rfl Tryd.func14 (by kernel_rfl) rfl #[.int .i64 t187] rfl (by (try simp only [List.map_toArray, List.map_cons, List.map_nil]); first | done | rfl | (simp only [List.length_drop, List.length_take]; rfl)) ?_; (with_reducible refine (impl_CountOnes.calls t187 t201 t202 _ A45.out).mono ?_); rintro e w' ⟨rfl, ⟨nd, rfl⟩⟩; refine ⟨_, rfl, ?_⟩) | ((with_reducible refine gate_callee (f := 15) rfl ?_); refine goesL_ (some 179) rfl rfl Tryd.func15 (by kernel_rfl) rfl #[.int .i64 t187] rfl (by (try simp only [List.map_toArray, List.map_cons, List.map_nil]); first | done | rfl | (simp only [List.length_drop, List.length_take]; rfl)) ?_; (with_reducible refine (spec_CountOnes.calls kj39 t187 t203 t204 _ A46.out).mono ?_); rintro e w' ⟨rfl, ⟨nd, rfl⟩⟩; refine ⟨_, rfl, ?_⟩) | ((with_reducible refine gate_callee (f := 16) rfl ?_); refine goesL_ (some 184) rfl rfl Tryd.func16 (by kernel_rfl) rfl #[.int .i64 t187] rfl (by (try simp only [List.map_toArray, List.map_cons, List.map_nil]); first | done | rfl | (simp only [List.length_drop, List.length_take]; rfl)) ?_; (with_reducible refine (impl_LowestOne.calls t187 t205 t206 _ (HT.out.below (by repeat (first | (with_reducible first | exact HB.out | apply below_alloc | apply pw_below_drewN | apply below_drew1) | exact HB.out))) A47.out).mono ?_); rintro e w' ⟨rfl, ⟨nd, rfl⟩⟩; refine ⟨_, rfl, ?_⟩) | ((with_reducible refine gate_callee (f := 17) rfl ?_); refine goesL_ (some 189) rfl rfl Tryd.func17 (by kernel_rfl) rfl #[.int .i64 t187] rfl (by (try simp only [List.map_toArray, List.map_cons, List.map_nil]); first | done | rfl | (simp only [List.length_drop, List.length_take]; rfl)) ?_; (with_reducible refine (spec_LowestOne.calls kj39 t187 t207 t208 _ A48.out).mono ?_); rintro e w' ⟨rfl, ⟨nd, rfl⟩⟩; refine ⟨_, rfl, ?_⟩))
                            (try simp only [Act.put, List.setIfInBounds_toArray, List.set_cons_zero, List.set_cons_succ])
                            go_cut [209] (fun v209 wc => ∃ (kq : Nat) (x209_48 : Bool), v209 = .bool x209_48 ∧ Aside0 (laws_FnTags.j5 kq l1 t187 t201 t205 t206 x209_48 = some true) ∧ Aside0 (kq ≤ kj39) ∧ Aside0 (Below w.heap.size w wc))
                            case first => as_aux_lemma =>
                              have H := HC49.out
                              clear HC49
                              by_cases c50 : (t202 != t204) = true
                              · rw [if_pos c50] at H
                                have c50b0 : (t202 != t204) = true := c50
                                (try (have c50b1 : decide (t202 = t204) = false := by simpa using c50))
                                (try (have c50b2 : (t202 == t204) = false := by simpa using c50))
                                (try (have c50b3 : ¬ (t202 = t204) := by simpa using c50))
                                clear c50
                                (first | rw [c50b0] | (simp only [i64_w, i32_w]; rw [c50b0]) | skip)
                                exact absurd H (by cases kj39 <;> simp [laws_FnTags.j5])
                              · rw [if_neg c50] at H
                                have c50b0 : (t202 != t204) = false := by simpa using c50
                                (try (have c50b1 : decide (t202 = t204) = true := by simpa using c50))
                                (try (have c50b2 : (t202 == t204) = true := by simpa using c50))
                                clear c50
                                (first | rw [c50b0] | (simp only [i64_w, i32_w]; rw [c50b0]) | skip)
                                by_cases c51 : t201 = t203
                                · rw [if_pos c51] at H
                                  have c51b0 : (t201 == t203) = true := beq_iff_eq.mpr c51
                                  have c51b1 : (t201 != t203) = false := bne_eq_false_iff_eq.mpr c51
                                  clear c51
                                  by_cases c52 : (t206 != t208) = true
                                  · rw [if_pos c52] at H
                                    have c52b0 : (t206 != t208) = true := c52
                                    (try (have c52b1 : decide (t206 = t208) = false := by simpa using c52))
                                    (try (have c52b2 : (t206 == t208) = false := by simpa using c52))
                                    (try (have c52b3 : ¬ (t206 = t208) := by simpa using c52))
                                    clear c52
                                    exact absurd H (by cases kj39 <;> simp [laws_FnTags.j5])
                                  · rw [if_neg c52] at H
                                    have c52b0 : (t206 != t208) = false := by simpa using c52
                                    (try (have c52b1 : decide (t206 = t208) = true := by simpa using c52))
                                    (try (have c52b2 : (t206 == t208) = true := by simpa using c52))
                                    clear c52
                                    have H' := Aside0.mk H
                                    clear H
                                    go_wp2
                                    go_meet
                                    case rel => exact ⟨_, ((t205 != t207)), (by first | rfl | (simp; done) | (simp [*]; done)), H', ⟨by have := HJ6.out; have := HJ10.out; have := HJ24.out; have := HJ34.out; have := HJ39.out; first | omega | exact Nat.le_refl _⟩, ⟨by repeat (first | (with_reducible first | exact HB.out | apply below_alloc | apply pw_below_drewN | apply below_drew1) | exact HB.out)⟩⟩
                                · rw [if_neg c51] at H
                                  have c51b0 : (t201 == t203) = false := beq_eq_false_iff_ne.mpr c51
                                  have c51b1 : (t201 != t203) = true := bne_iff_ne.mpr c51
                                  exact absurd H (by cases kj39 <;> simp [laws_FnTags.j5])
                            case rest => as_aux_lemma =>
                              clear HC49
                              try clear c1
                              try clear c2
                              try clear p2
                              try clear c3
                              try clear c3b0
                              try clear c4
                              try clear c5
                              try clear c6
                              try clear p6
                              try clear c7
                              try clear c8
                              try clear c9
                              try clear c9b0
                              try clear c9b1
                              try clear c9b2
                              try clear c10
                              try clear c11
                              try clear c12
                              try clear c13
                              try clear c14
                              try clear c15
                              try clear c16
                              try clear c16b0
                              try clear c16b1
                              try clear c17
                              try clear c19
                              try clear c27
                              try clear c27b0
                              try clear c27b1
                              try clear c27b2
                              try clear c28
                              try clear c28b0
                              try clear c28b1
                              try clear c29
                              try clear c29b0
                              try clear c29b1
                              try clear c29b2
                              try clear c30
                              try clear c30b0
                              try clear c30b1
                              try clear c32
                              try clear c32b0
                              try clear c32b1
                              try clear c32b2
                              try clear c33
                              try clear c34
                              try clear c36
                              try clear c38
                              try clear c39
                              try clear c39b0
                              try clear c39b1
                              try clear c41
                              try clear c43
                              try clear c44
                              try clear c44b0
                              try clear c44b1
                              try clear c50
                              try clear c50b0
                              try clear c50b1
                              try clear c50b2
                              try clear c51
                              try clear c51b0
                              try clear c51b1
                              try clear c52
                              try clear c52b0
                              try clear c52b1
                              try clear c52b2
                              try clear p2
                              try clear p6
                              obtain ⟨kq, x209_48, rfl, HA, HJ48, HB⟩ := hcut
                              cases kq with
                              | zero => exact absurd HA.out (by simp [laws_FnTags.j5])
                              | succ kj48 =>
                                have H := HA.out
                                clear HA
                                simp only [laws_FnTags.j5] at H
                                by_cases c53 : x209_48 = true
                                · subst c53
                                  have H1 : (some false) = some true := by rw [if_pos rfl] at H; exact H
                                  clear H
                                  have H := H1
                                  clear H1
                                  exact absurd H (by simp)
                                · replace c53 := Bool.eq_false_iff.mpr c53
                                  subst c53
                                  have H1 : (if t206 = true then (if 0 ≤ (IntKind.u64.wrap (t205)) then ((impl_CountOnes.f (wrap64 (t187 - (shl .i64 1 (IntKind.u64.wrap (t205)))))).bind fun bt209 => (if bt209.2 = true then (if bt209.1 = (wrap64 (t201 - 1)) then (laws_FnTags.j6 kj48 l1 ((Go.bits .and .i64 (shr .i64 t187 (IntKind.u64.wrap (t205))) 1) != 1)) else (laws_FnTags.j6 kj48 l1 true)) else (laws_FnTags.j6 kj48 l1 true))) else (none)) else ((spec_DrawTagAddr.f l1).bind fun t216 => ((impl_TagAddr.f t216).bind fun bt217 => ((spec_TagAddr.f t216).bind fun bt219 => (if (bt217.2 == bt219.2) = true then (some (bt217.1 == bt219.1)) else (some false)))))) = some true := by rw [if_neg (show ¬ (false = true) by decide)] at H; exact H
                                  clear H
                                  have H := H1
                                  clear H1
                                  by_cases c54 : t206 = true
                                  · subst c54
                                    have H1 : (if 0 ≤ (IntKind.u64.wrap (t205)) then ((impl_CountOnes.f (wrap64 (t187 - (shl .i64 1 (IntKind.u64.wrap (t205)))))).bind fun bt209 => (if bt209.2 = true then (if bt209.1 = (wrap64 (t201 - 1)) then (laws_FnTags.j6 kj48 l1 ((Go.bits .and .i64 (shr .i64 t187 (IntKind.u64.wrap (t205))) 1) != 1)) else (laws_FnTags.j6 kj48 l1 true)) else (laws_FnTags.j6 kj48 l1 true))) else (none)) = some true := by rw [if_pos rfl] at H; exact H
                                    clear H
                                    have H := H1
                                    clear H1
                                    obtain ⟨ji55, hji55⟩ : ∃ j_ : Int, (IntKind.u64.wrap (t205)) = j_ := ⟨_, rfl⟩
                                    replace H : (if 0 ≤ (ji55) then ((impl_CountOnes.f (wrap64 (t187 - (shl .i64 1 (ji55))))).bind fun bt209 => (if bt209.2 = true then (if bt209.1 = (wrap64 (t201 - 1)) then (laws_FnTags.j6 kj48 l1 ((Go.bits .and .i64 (shr .i64 t187 (ji55)) 1) != 1)) else (laws_FnTags.j6 kj48 l1 true)) else (laws_FnTags.j6 kj48 l1 true))) else (none)) = some true := by first | (rw [hji55] at H; exact H) | (simp only [hji55] at H ⊢; exact H)
                                    by_cases c56 : 0 ≤ (ji55)
                                    · rw [if_pos c56] at H
                                      have c56b0 := eq_true c56
                                      have c56b1 : decide (0 ≤ (ji55)) = true := decide_eq_true c56
                                      clear c56
                                      obtain ⟨ji57, hji57⟩ : ∃ j_ : Int, (shl .i64 1 (ji55)) = j_ := ⟨_, rfl⟩
                                      replace H : ((impl_CountOnes.f (wrap64 (t187 - (ji57)))).bind fun bt209 => (if bt209.2 = true then (if bt209.1 = (wrap64 (t201 - 1)) then (laws_FnTags.j6 kj48 l1 ((Go.bits .and .i64 (shr .i64 t187 (ji55)) 1) != 1)) else (laws_FnTags.j6 kj48 l1 true)) else (laws_FnTags.j6 kj48 l1 true))) = some true := by first | (rw [hji57] at H; exact H) | (simp only [hji57] at H ⊢; exact H)
                                      have hji57_ : (IntKind.i64.wrap (1 * 2 ^ min (ji55).toNat 64)) = ji57 := hji57
                                      have hji57z : (ji55) ≤ 64 → (IntKind.i64.wrap (1 * 2 ^ (ji55).toNat)) = ji57 := shl_small hji57
                                      have hji57u : (IntKind.i64.wrap (2 ^ min (ji55).toNat 64)) = ji57 := by have h_ := hji57_; rw [Int.one_mul] at h_; exact h_
                                      have hji57v : (ji55) ≤ 64 → (IntKind.i64.wrap (2 ^ (ji55).toNat)) = ji57 := fun hle_ => by have h_ := hji57z hle_; rw [Int.one_mul] at h_; exact h_
                                      have hji57y : (wrap64 (1 * 2 ^ min (ji55).toNat 64)) = ji57 := (i64_w _).symm.trans hji57_
                                      have hji57x : (ji55) ≤ 64 → (wrap64 (1 * 2 ^ (ji55).toNat)) = ji57 := fun h_ => (i64_w _).symm.trans (hji57z h_)
                                      replace H := Option.bind_eq_some_iff.mp H
                                      obtain ⟨⟨t209, t210⟩, A580, H⟩ := H
                                      replace H : (if t210 = true then (if t209 = (wrap64 (t201 - 1)) then (laws_FnTags.j6 kj48 l1 ((Go.bits .and .i64 (shr .i64 t187 (ji55)) 1) != 1)) else (laws_FnTags.j6 kj48 l1 true)) else (laws_FnTags.j6 kj48 l1 true)) = some true := H
                                      have A58 := Aside0.mk A580
                                      clear A580
                                      have HC59 := Aside0.mk H
                                      clear H
                                      go_upto_region 36 with (first | ((with_reducible refine gate_callee (f := 14) rfl ?_); refine goesL_ (some 217) rfl rfl Tryd.func14 (by kernel_rfl) rfl #[.int .i64 (wrap64 (t187 - (ji57)))] rfl (by (try simp only [List.map_toArray, List.map_cons, List.map_nil]); first | done | (simp only [hji57]; rfl) | rfl | (simp only [List.length_drop, List.length_take]; rfl)) ?_; (with_reducible refine (impl_CountOnes.calls (wrap64 (t187 - (ji57))) t209 t210 _ A58.out).mono ?_); rintro e w' ⟨rfl, ⟨nd, rfl⟩⟩; refine ⟨_, rfl, ?_⟩))
                                      (try simp only [Act.put, List.setIfInBounds_toArray, List.set_cons_zero, List.set_cons_succ])
                                      go_cut [235] (fun v235 wc => ∃ (kq : Nat) (x235_58 : Bool), v235 = .bool x235_58 ∧ Aside0 (laws_FnTags.j6 kq l1 x235_58 = some true) ∧ Aside0 (kq ≤ kj48) ∧ Aside0 (Below w.heap.size w wc))
                                      case first => as_aux_lemma =>
                                        have H := HC59.out
                                        clear HC59
                                        by_cases c60 : t210 = true
                                        · subst c60
                                          have H1 : (if t209 = (wrap64 (t201 - 1)) then (laws_FnTags.j6 kj48 l1 ((Go.bits .and .i64 (shr .i64 t187 (ji55)) 1) != 1)) else (laws_FnTags.j6 kj48 l1 true)) = some true := by rw [if_pos rfl] at H; exact H
                                          clear H
                                          have H := H1
                                          clear H1
                                          by_cases c61 : t209 = (wrap64 (t201 - 1))
                                          · rw [if_pos c61] at H
                                            have c61b0 : (t209 == (wrap64 (t201 - 1))) = true := beq_iff_eq.mpr c61
                                            have c61b1 : (t209 != (wrap64 (t201 - 1))) = false := bne_eq_false_iff_eq.mpr c61
                                            clear c61
                                            (first | rw [c61b0] | (simp only [i64_w, i32_w]; rw [c61b0]) | skip)
                                            have c62b0 := eq_true (of_decide_eq_true (by first | (with_reducible assumption) | assumption) : 0 ≤ (ji55))
                                            obtain ⟨ji63, hji63⟩ : ∃ j_ : Int, (shr .i64 t187 (ji55)) = j_ := ⟨_, rfl⟩
                                            replace H : (laws_FnTags.j6 kj48 l1 ((Go.bits .and .i64 (ji63) 1) != 1)) = some true := by first | (rw [hji63] at H; exact H) | (simp only [hji63] at H ⊢; exact H)
                                            have hji63_ : (t187 / 2 ^ min (ji55).toNat 64) = ji63 := hji63
                                            have hji63z : (ji55) ≤ 64 → (t187 / 2 ^ (ji55).toNat) = ji63 := shr_small hji63
                                            have H' := Aside0.mk H
                                            clear H
                                            go_wp2
                                            go_meet
                                            case rel => exact ⟨_, (((Go.bits .and .i64 (ji63) 1) != 1)), (by first | rfl | (simp; done) | (simp only [← hji63] <;> (first | rfl | simp)) | (simp [*]; done)), H', ⟨by have := HJ6.out; have := HJ10.out; have := HJ24.out; have := HJ34.out; have := HJ39.out; have := HJ48.out; first | omega | exact Nat.le_refl _⟩, ⟨by repeat (first | (with_reducible first | exact HB.out | apply below_alloc | apply pw_below_drewN | apply below_drew1) | exact HB.out)⟩⟩
                                          · rw [if_neg c61] at H
                                            have c61b0 : (t209 == (wrap64 (t201 - 1))) = false := beq_eq_false_iff_ne.mpr c61
                                            have c61b1 : (t209 != (wrap64 (t201 - 1))) = true := bne_iff_ne.mpr c61
                                            (first | rw [c61b0] | (simp only [i64_w, i32_w]; rw [c61b0]) | skip)
                                            exact absurd H (by cases kj48 <;> simp [laws_FnTags.j6])
                                        · replace c60 := Bool.eq_false_iff.mpr c60
                                          subst c60
                                          have H1 : (laws_FnTags.j6 kj48 l1 true) = some true := by rw [if_neg (show ¬ (false = true) by decide)] at H; exact H
                                          clear H
                                          have H := H1
                                          clear H1
                                          exact absurd H (by cases kj48 <;> simp [laws_FnTags.j6])
                                      case rest => as_aux_lemma =>
                                        clear HC59
                                        try clear c1
                                        try clear c2
                                        try clear p2
                                        try clear c3
                                        try clear c3b0
                                        try clear c4
                                        try clear c5
                                        try clear c6
                                        try clear p6
                                        try clear c7
                                        try clear c8
                                        try clear c9
                                        try clear c9b0
                                        try clear c9b1
                                        try clear c9b2
                                        try clear c10
                                        try clear c11
                                        try clear c12
                                        try clear c13
                                        try clear c14
                                        try clear c15
                                        try clear c16
                                        try clear c16b0
                                        try clear c16b1
                                        try clear c17
                                        try clear c19
                                        try clear c27
                                        try clear c27b0
                                        try clear c27b1
                                        try clear c27b2
                                        try clear c28
                                        try clear c28b0
                                        try clear c28b1
                                        try clear c29
                                        try clear c29b0
                                        try clear c29b1
                                        try clear c29b2
                                        try clear c30
                                        try clear c30b0
                                        try clear c30b1
                                        try clear c32
                                        try clear c32b0
                                        try clear c32b1
                                        try clear c32b2
                                        try clear c33
                                        try clear c34
                                        try clear c36
                                        try clear c38
                                        try clear c39
                                        try clear c39b0
                                        try clear c39b1
                                        try clear c41
                                        try clear c43
                                        try clear c44
                                        try clear c44b0
                                        try clear c44b1
                                        try clear c50
                                        try clear c50b0
                                        try clear c50b1
                                        try clear c50b2
                                        try clear c51
                                        try clear c51b0
                                        try clear c51b1
                                        try clear c52
                                        try clear c52b0
                                        try clear c52b1
                                        try clear c52b2
                                        try clear c53
                                        try clear c54
                                        try clear c56
                                        try clear c56b0
                                        try clear c56b1
                                        try clear c60
                                        try clear c61
                                        try clear c61b0
                                        try clear c61b1
                                        try clear c62
                                        try clear c62b0
                                        try clear p2
                                        try clear p6
                                        obtain ⟨kq, x235_58, rfl, HA, HJ58, HB⟩ := hcut
                                        cases kq with
                                        | zero => exact absurd HA.out (by simp [laws_FnTags.j6])
                                        | succ kj58 =>
                                          have H := HA.out
                                          clear HA
                                          simp only [laws_FnTags.j6] at H
                                          by_cases c64 : x235_58 = true
                                          · subst c64
                                            have H1 : (some false) = some true := by rw [if_pos rfl] at H; exact H
                                            clear H
                                            have H := H1
                                            clear H1
                                            exact absurd H (by simp)
                                          · replace c64 := Bool.eq_false_iff.mpr c64
                                            subst c64
                                            have H1 : ((spec_DrawTagAddr.f l1).bind fun t211 => ((impl_TagAddr.f t211).bind fun bt212 => ((spec_TagAddr.f t211).bind fun bt214 => (if (bt212.2 == bt214.2) = true then (some (bt212.1 == bt214.1)) else (some false))))) = some true := by rw [if_neg (show ¬ (false = true) by decide)] at H; exact H
                                            clear H
                                            have H := H1
                                            clear H1
                                            replace H := Option.bind_eq_some_iff.mp H
                                            obtain ⟨t211, A650, H⟩ := H
                                            replace H : ((impl_TagAddr.f t211).bind fun bt212 => ((spec_TagAddr.f t211).bind fun bt214 => (if (bt212.2 == bt214.2) = true then (some (bt212.1 == bt214.1)) else (some false)))) = some true := H
                                            have A65 := Aside0.mk A650
                                            clear A650
                                            replace H := Option.bind_eq_some_iff.mp H
                                            obtain ⟨⟨t212, t213⟩, A660, H⟩ := H
                                            replace H : ((spec_TagAddr.f t211).bind fun bt214 => (if (t213 == bt214.2) = true then (some (t212 == bt214.1)) else (some false))) = some true := H
                                            have A66 := Aside0.mk A660
                                            clear A660
                                            replace H := Option.bind_eq_some_iff.mp H
                                            obtain ⟨⟨t214, t215⟩, A670, H⟩ := H
                                            replace H : (if (t213 == t215) = true then (some (t212 == t214)) else (some false)) = some true := H
                                            have A67 := Aside0.mk A670
                                            clear A670
                                            by_cases c68 : (t213 == t215) = true
                                            · rw [if_pos c68] at H
                                              have c68b0 : (t213 == t215) = true := c68
                                              (try (have c68b1 : decide (t213 = t215) = true := by simpa using c68))
                                              (try (have c68b2 : (t213 == t215) = true := by simpa using c68))
                                              clear c68
                                              have HV := Aside0.mk (Option.some.inj H)
                                              clear H
                                              go_wp2_with (first | ((with_reducible refine gate_callee (f := 18) rfl ?_); refine goesL_ (some 237) rfl rfl Tryd.func18 (by kernel_rfl) rfl #[.slice A1 l1.length c1] rfl (by (try simp only [List.map_toArray, List.map_cons, List.map_nil]); first | done | rfl | (simp only [List.length_drop, List.length_take]; rfl)) ?_; (with_reducible refine (spec_DrawTagAddr.calls _ _ l1 t211 _ ?side1 ?side2 A65.out).mono ?_); (case side1 => repeat (first | exact (Kd.C_below HR1.out HB.out) | (with_reducible refine Kd.C_alloc ?_ _) | (with_reducible refine Kd.C_drewN ?_ _) | (with_reducible refine Kd.C_drew ?_))); (case side2 => exact HC1.out); rintro e w69 ⟨rfl, hb⟩; refine ⟨_, rfl, ?_⟩; have n0_ := Aside0.mk (below_step (by repeat (first | (with_reducible first | exact HB.out | apply below_alloc | apply pw_below_drewN | apply below_drew1) | exact HB.out)) hb); clear HB; have HB := n0_; clear n0_; (try clear hb); (try clear hb2); (try clear hk); (try clear hi)) | ((with_reducible refine gate_callee (f := 13) rfl ?_); refine goesL_ (some 240) rfl rfl Tryd.func13 (by kernel_rfl) rfl #[.int .i64 t211] rfl (by (try simp only [List.map_toArray, List.map_cons, List.map_nil]); first | done | rfl | (simp only [List.length_drop, List.length_take]; rfl)) ?_; (with_reducible refine (impl_TagAddr.calls t211 t212 t213 _ A66.out).mono ?_); rintro e w' ⟨rfl, ⟨nd, rfl⟩⟩; refine ⟨_, rfl, ?_⟩) | ((with_reducible refine gate_callee (f := 19) rfl ?_); refine goesL_ (some 245) rfl rfl Tryd.func19 (by kernel_rfl) rfl #[.int .i64 t211] rfl (by (try simp only [List.map_toArray, List.map_cons, List.map_nil]); first | done | rfl | (simp only [List.length_drop, List.length_take]; rfl)) ?_; (with_reducible refine (spec_TagAddr.calls t211 t214 t215 _ A67.out).mono ?_); rintro e w' ⟨rfl, ⟨nd, rfl⟩⟩; refine ⟨_, rfl, ?_⟩))
                                              go_ret
                                              exact ⟨by first | (exact congrArg (fun b_ => Ending.returned (Value.bool b_)) HV.out) | (have hv_ := HV.out; rw [hv_]) | (have hv_ := HV.out; simp [hv_]; done) | rfl | (simp [errW_none, errW_some] <;> rfl) | (simp only [← hji55, ← hji57]; first | rfl | (simp [errW_none, errW_some] <;> rfl)) | (simp [*, errW_none, errW_some] <;> rfl), by repeat (first | (with_reducible first | exact HB.out | apply below_alloc | apply pw_below_drewN | apply below_drew1) | exact HB.out)⟩
                                            · rw [if_neg c68] at H
                                              have c68b0 : (t213 == t215) = false := by simpa using c68
                                              (try (have c68b1 : decide (t213 = t215) = false := by simpa using c68))
                                              (try (have c68b2 : (t213 == t215) = false := by simpa using c68))
                                              (try (have c68b3 : ¬ (t213 = t215) := by simpa using c68))
                                              clear c68
                                              exact absurd H (by simp)
                                    · rw [if_neg c56] at H
                                      exact absurd H (by simp)
                                  · replace c54 := Bool.eq_false_iff.mpr c54
                                    subst c54
                                    have H1 : ((spec_DrawTagAddr.f l1).bind fun t216 => ((impl_TagAddr.f t216).bind fun bt217 => ((spec_TagAddr.f t216).bind fun bt219 => (if (bt217.2 == bt219.2) = true then (some (bt217.1 == bt219.1)) else (some false))))) = some true := by rw [if_neg (show ¬ (false = true) by decide)] at H; exact H
                                    clear H
                                    have H := H1
                                    clear H1
                                    replace H := Option.bind_eq_some_iff.mp H
                                    obtain ⟨t216, A700, H⟩ := H
                                    replace H : ((impl_TagAddr.f t216).bind fun bt217 => ((spec_TagAddr.f t216).bind fun bt219 => (if (bt217.2 == bt219.2) = true then (some (bt217.1 == bt219.1)) else (some false)))) = some true := H
                                    have A70 := Aside0.mk A700
                                    clear A700
                                    replace H := Option.bind_eq_some_iff.mp H
                                    obtain ⟨⟨t217, t218⟩, A710, H⟩ := H
                                    replace H : ((spec_TagAddr.f t216).bind fun bt219 => (if (t218 == bt219.2) = true then (some (t217 == bt219.1)) else (some false))) = some true := H
                                    have A71 := Aside0.mk A710
                                    clear A710
                                    replace H := Option.bind_eq_some_iff.mp H
                                    obtain ⟨⟨t219, t220⟩, A720, H⟩ := H
                                    replace H : (if (t218 == t220) = true then (some (t217 == t219)) else (some false)) = some true := H
                                    have A72 := Aside0.mk A720
                                    clear A720
                                    by_cases c73 : (t218 == t220) = true
                                    · rw [if_pos c73] at H
                                      have c73b0 : (t218 == t220) = true := c73
                                      (try (have c73b1 : decide (t218 = t220) = true := by simpa using c73))
                                      (try (have c73b2 : (t218 == t220) = true := by simpa using c73))
                                      clear c73
                                      have HV := Aside0.mk (Option.some.inj H)
                                      clear H
                                      go_wp2_with (first | ((with_reducible refine gate_callee (f := 18) rfl ?_); refine goesL_ (some 237) rfl rfl Tryd.func18 (by kernel_rfl) rfl #[.slice A1 l1.length c1] rfl (by (try simp only [List.map_toArray, List.map_cons, List.map_nil]); first | done | rfl | (simp only [List.length_drop, List.length_take]; rfl)) ?_; (with_reducible refine (spec_DrawTagAddr.calls _ _ l1 t216 _ ?side1 ?side2 A70.out).mono ?_); (case side1 => repeat (first | exact (Kd.C_below HR1.out HB.out) | (with_reducible refine Kd.C_alloc ?_ _) | (with_reducible refine Kd.C_drewN ?_ _) | (with_reducible refine Kd.C_drew ?_))); (case side2 => exact HC1.out); rintro e w74 ⟨rfl, hb⟩; refine ⟨_, rfl, ?_⟩; have n0_ := Aside0.mk (below_step (by repeat (first | (with_reducible first | exact HB.out | apply below_alloc | apply pw_below_drewN | apply below_drew1) | exact HB.out)) hb); clear HB; have HB := n0_; clear n0_; (try clear hb); (try clear hb2); (try clear hk); (try clear hi)) | ((with_reducible refine gate_callee (f := 13) rfl ?_); refine goesL_ (some 240) rfl rfl Tryd.func13 (by kernel_rfl) rfl #[.int .i64 t216] rfl (by (try simp only [List.map_toArray, List.map_cons, List.map_nil]); first | done | rfl | (simp only [List.length_drop, List.length_take]; rfl)) ?_; (with_reducible refine (impl_TagAddr.calls t216 t217 t218 _ A71.out).mono ?_); rintro e w' ⟨rfl, ⟨nd, rfl⟩⟩; refine ⟨_, rfl, ?_⟩) | ((with_reducible refine gate_callee (f := 19) rfl ?_); refine goesL_ (some 245) rfl rfl Tryd.func19 (by kernel_rfl) rfl #[.int .i64 t216] rfl (by (try simp only [List.map_toArray, List.map_cons, List.map_nil]); first | done | rfl | (simp only [List.length_drop, List.length_take]; rfl)) ?_; (with_reducible refine (spec_TagAddr.calls t216 t219 t220 _ A72.out).mono ?_); rintro e w' ⟨rfl, ⟨nd, rfl⟩⟩; refine ⟨_, rfl, ?_⟩))
                                      go_ret
                                      exact ⟨by first | (exact congrArg (fun b_ => Ending.returned (Value.bool b_)) HV.out) | (have hv_ := HV.out; rw [hv_]) | (have hv_ := HV.out; simp [hv_]; done) | rfl | (simp [errW_none, errW_some] <;> rfl) | (simp [*, errW_none, errW_some] <;> rfl), by repeat (first | (with_reducible first | exact HB.out | apply below_alloc | apply pw_below_drewN | apply below_drew1) | exact HB.out)⟩
                                    · rw [if_neg c73] at H
                                      have c73b0 : (t218 == t220) = false := by simpa using c73
                                      (try (have c73b1 : decide (t218 = t220) = false := by simpa using c73))
                                      (try (have c73b2 : (t218 == t220) = false := by simpa using c73))
                                      (try (have c73b3 : ¬ (t218 = t220) := by simpa using c73))
                                      clear c73
                                      exact absurd H (by simp)

/-- THE ONE PURE STATEMENT of laws_FnTags: yours. -/
def laws_FnTags.Pure : Prop := ∀ (l0 : List Int) (l1 : List Int), l0.length ≤ maxLen → l0.length * 1 ≤ 140737488351232 → (∀ x ∈ l0, (Lit.int .u8 x).wf = true) → l1.length ≤ maxLen → l1.length * 1 ≤ 140737488351232 → (∀ x ∈ l1, (Lit.int .u8 x).wf = true) → ∃ k, laws_FnTags.f k l0 l1 = some true
theorem laws_FnTags.walk (P : laws_FnTags.Pure) (a0 : Option Addr) (len0 cap0 : Nat) (z0 : List Int) (a1 : Option Addr) (len1 cap1 : Nat) (z1 : List Int) (w : World) (hT : TabAt w) (w0 : (a0 = none ∧ len0 = 0 ∧ cap0 = 0 ∧ z0 = []) ∨ ∃ x, a0 = some x ∧ len0 ≤ cap0 ∧ cap0 ≤ maxLen ∧ z0.length = cap0 ∧ (∀ i, i < z0.length → w.cell? (x.add i) = some (.int .u8 (z0.getD i 0))) ∧ ∀ n ∈ z0, (Lit.int .u8 n).wf = true) (y0 : len0 * 1 ≤ 140737488351232) (w1 : (a1 = none ∧ len1 = 0 ∧ cap1 = 0 ∧ z1 = []) ∨ ∃ x, a1 = some x ∧ len1 ≤ cap1 ∧ cap1 ≤ maxLen ∧ z1.length = cap1 ∧ (∀ i, i < z1.length → w.cell? (x.add i) = some (.int .u8 (z1.getD i 0))) ∧ ∀ n ∈ z1, (Lit.int .u8 n).wf = true) (y1 : len1 * 1 ≤ 140737488351232) :
    Calls Tryd.prog 3 #[.slice a0 len0 cap0, .slice a1 len1 cap1] w fun e w' => e = .returned (.bool true) ∧ Below w.heap.size w w' := by
  obtain ⟨l0, rfl, hr0, hm0, hw0, hc0⟩ := ReadsInt.ofRowC w0
  obtain ⟨l1, rfl, hr1, hm1, hw1, hc1⟩ := ReadsInt.ofRowC w1
  obtain ⟨k, h⟩ := P l0 l1 hm0 y0 hw0 hm1 y1 hw1
  refine (laws_FnTags.calls k _ _ l0 _ _ l1 w hT (Kd.C_of_reads (d := (0 : Int)) (h1 := fun _ => rfl) hr0) hc0 (Kd.C_of_reads (d := (0 : Int)) (h1 := fun _ => rfl) hr1) hc1 h).mono ?_
  rintro e w' ⟨rfl, hd⟩
  exact ⟨rfl, hd⟩

end Go.Proofs.YtoilboodndgeeaaDoor.PFnTags
