/- The program's MulTagged returns what the reference's returns: for all words a, b. No condition. -/
import Derived.Test.YtipiablfoddmmaaPFnExactMulTaggedx1
import Derived.Test.YtipiablfoddmmaaPlain
namespace Go.Proofs.Ytipiablfoddmmaa.Pure
open Go.RowKit Go.Proofs.Ytipiablfoddmmaa.PFnExactMulTagged Go.Proofs.YtipiablfoddmmaaW.PrintWords Go.Proofs.YtipiablfoddmmaaW.PrintLast Go.Proofs.Ytipiablfoddmmaa.Plain

namespace FnExactMulTagged
def tg (a : Int) : Bool := decide (0 ≤ a ∧ a ≤ 65535 ∧ a % 2 = 1)
def num (a : Int) : Int := (if a > 32767 then a - 65536 else a) / 2
def tw (n : Int) : Int × Bool := if -16384 ≤ n ∧ n ≤ 16383 then ((2 * n + 1) % 65536, true) else (0, false)

theorem tg_iff {a : Int} : tg a = true ↔ 0 ≤ a ∧ a ≤ 65535 ∧ a % 2 = 1 := by simp [tg]
theorem tg_not {a : Int} : tg a = false ↔ ¬ (0 ≤ a ∧ a ≤ 65535 ∧ a % 2 = 1) := by simp [tg]

theorem s_in (a l h : Int) : spec_l1In.f a l h = some (decide (l ≤ a ∧ a ≤ h)) := by
  unfold spec_l1In.f
  by_cases c : a ≥ l
  · rw [if_pos c]; simp [show l ≤ a from c]
  · rw [if_neg c]; simp; omega
theorem i_in (a l h : Int) : impl_in.f a l h = some (decide (l ≤ a ∧ a ≤ h)) := by
  unfold impl_in.f
  by_cases c : a ≥ l
  · rw [if_pos c]; simp [show l ≤ a from c]
  · rw [if_neg c]; simp; omega

theorem s_small (a : Int) : spec_IsSmall.f a = some (tg a) := by
  unfold spec_IsSmall.f spec_l1Word.f
  rw [s_in]; simp only [Option.bind_some]
  by_cases c : 0 ≤ a ∧ a ≤ 65535
  · rw [if_pos (by simpa using c), and1]
    congr 1
    rw [Bool.eq_iff_iff, tg_iff]; simp; omega
  · rw [if_neg (by simpa using c), (tg_not (a := a)).2 (by omega)]

theorem num_lo {a : Int} (h : tg a = true) : -16384 ≤ num a := by
  have := tg_iff.1 h; unfold num; split <;> omega
theorem num_hi {a : Int} (h : tg a = true) : num a ≤ 16383 := by
  have := tg_iff.1 h; unfold num; split <;> omega

theorem s_untag (a : Int) : spec_UntagSmall.f a = some (if tg a = true then (num a, true) else (0, false)) := by
  unfold spec_UntagSmall.f
  rw [s_small]; simp only [Option.bind_some]
  by_cases c : tg a = true
  · have b := tg_iff.1 c
    rw [if_pos c, if_pos c]
    unfold spec_l1Signed.f num
    by_cases d : a ≥ 32768
    · rw [if_pos d, if_pos (by omega), w64 (by omega) (by omega)]; rfl
    · rw [if_neg d, if_neg (by omega)]; rfl
  · rw [if_neg c, if_neg c]

theorem i_tagged (a : Int) : impl_isTagged.f a = some (tg a) := by
  unfold impl_isTagged.f impl_isWord.f
  rw [i_in]; simp only [Option.bind_some]
  by_cases c : 0 ≤ a ∧ a ≤ 65535
  · rw [if_pos (by simpa using c), Int.tmod_eq_emod_of_nonneg c.1]
    congr 1
    rw [Bool.eq_iff_iff, tg_iff]; simp; omega
  · rw [if_neg (by simpa using c), (tg_not (a := a)).2 (by omega)]

theorem tdiv2 (x : Int) (h : x % 2 = 0) : Int.tdiv x 2 = x / 2 := by
  rw [Int.tdiv_eq_ediv]
  have : (2 : Int) ∣ x := Int.dvd_of_emod_eq_zero h
  simp [this]

theorem i_untag {a : Int} (h : tg a = true) : impl_untag.f a = some (num a) := by
  have b := tg_iff.1 h
  unfold impl_untag.f num
  by_cases d : a > 32767
  · rw [if_pos d, if_pos d, w64 (n := a - 65536) (by omega) (by omega), w64 (n := a - 65536 - 1) (by omega) (by omega), tdiv2 _ (by omega), w64 (by omega) (by omega)]
    congr 1; omega
  · rw [if_neg d, if_neg d, w64 (n := a - 1) (by omega) (by omega), tdiv2 _ (by omega), w64 (by omega) (by omega)]
    congr 1; omega

theorem s_tag (n : Int) (h0 : -1000000000 ≤ n) (h1 : n ≤ 1000000000) : spec_TagSmall.f n = some (tw n) := by
  unfold spec_TagSmall.f spec_l1Small.f tw
  rw [s_in]; simp only [Option.bind_some]
  by_cases c : -16384 ≤ n ∧ n ≤ 16383
  · rw [if_pos (by simpa using c), if_pos c, and65535, w64 (n := 2 * n) (by omega) (by omega), w64 (by omega) (by omega)]
  · rw [if_neg (by simpa using c), if_neg c]

theorem i_told (n : Int) (h0 : -1000000000 ≤ n) (h1 : n ≤ 1000000000) : impl_told.f n = some ((tw n).1, (tw n).2, true) := by
  unfold impl_told.f impl_isSmall.f impl_tag.f tw
  rw [i_in]; simp only [Option.bind_some]
  by_cases c : -16384 ≤ n ∧ n ≤ 16383
  · rw [if_pos (by simpa using c), if_pos c, and65535, w64 (n := 2 * n) (by omega) (by omega), w64 (by omega) (by omega)]
  · rw [if_neg (by simpa using c), if_neg c]

theorem op_bound {a b : Int} (ha : tg a = true) (hb : tg b = true) : -1000000000 ≤ num a * num b ∧ num a * num b ≤ 1000000000 := by
  have a0 := num_lo ha; have a1 := num_hi ha; have b0 := num_lo hb; have b1 := num_hi hb
  generalize num a = x at *
  generalize num b = y at *
  have h1 : (x + 16384) * (y + 16384) ≥ 0 := Int.mul_nonneg (by omega) (by omega)
  have h2 : (16384 - x) * (16384 - y) ≥ 0 := Int.mul_nonneg (by omega) (by omega)
  have h3 : (x + 16384) * (16384 - y) ≥ 0 := Int.mul_nonneg (by omega) (by omega)
  have h4 : (16384 - x) * (y + 16384) ≥ 0 := Int.mul_nonneg (by omega) (by omega)
  simp only [Int.add_mul, Int.mul_add, Int.sub_mul, Int.mul_sub] at h1 h2 h3 h4
  generalize x * y = z at *
  omega
def ans (a b : Int) : Int × Bool × Bool := if tg a = true ∧ tg b = true then ((tw (num a * num b)).1, (tw (num a * num b)).2, true) else (0, false, false)

theorem s_ans (a b : Int) : spec_MulTagged.f a b = some (ans a b) := by
  unfold spec_MulTagged.f spec_l1Two.f ans
  rw [s_untag, s_untag]; simp only [Option.bind_some]
  by_cases ha : tg a = true <;> by_cases hb : tg b = true
  · have g := op_bound ha hb
    rw [if_pos ha, if_pos hb]
    simp only [Option.bind_some, if_true]
    rw [w64 (by omega) (by omega)]
    unfold spec_l1Tagged.f
    rw [s_tag _ (by omega) (by omega)]; simp [ha, hb]
  · simp [ha, hb]
  · simp [ha, hb]
  · simp [ha, hb]

theorem i_ans (k : Nat) (a b : Int) : impl_MulTagged.f (k + 1) a b = some (ans a b) := by
  unfold impl_MulTagged.f ans
  rw [i_tagged, i_tagged]; simp only [Option.bind_some]
  by_cases ha : tg a = true <;> by_cases hb : tg b = true
  · have g := op_bound ha hb
    rw [if_pos ha, if_pos ⟨ha, hb⟩]
    simp only [impl_MulTagged.j0]
    rw [if_neg (by simp [hb]), i_untag ha, i_untag hb]; simp only [Option.bind_some]
    rw [w64 (by omega) (by omega), i_told _ (by omega) (by omega)]; rfl
  · rw [if_pos ha, if_neg (by simp [hb])]
    simp only [impl_MulTagged.j0]
    rw [if_pos (by simp [hb])]
  · rw [if_neg ha, if_neg (by simp [ha])]
    simp only [impl_MulTagged.j0, if_true]
  · rw [if_neg ha, if_neg (by simp [ha])]
    simp only [impl_MulTagged.j0, if_true]
end FnExactMulTagged

theorem FnExactMulTagged : laws_FnExactMulTagged.Pure := by
  intro a b _ _
  refine ⟨1, ?_⟩
  unfold laws_FnExactMulTagged.f
  rw [FnExactMulTagged.s_ans, FnExactMulTagged.i_ans 0]; simp

end Go.Proofs.Ytipiablfoddmmaa.Pure
