/- The program's JoinRanges returns what the reference's returns: for all ranges. No condition. -/
import Derived.Test.YtipiablfoddmmaaPFnExactJoinRangesx2
import Derived.Test.YtipiablfoddmmaaPlain
namespace Go.Proofs.Ytipiablfoddmmaa.Pure
open Go.RowKit Go.Proofs.Ytipiablfoddmmaa.PFnExactJoinRanges Go.Proofs.YtipiablfoddmmaaW.PrintWords Go.Proofs.YtipiablfoddmmaaW.PrintLast Go.Proofs.Ytipiablfoddmmaa.Plain Go.Proofs.YtipiablfoddmmaaW.PrintMore

namespace FnExactJoinRanges
theorem s_in (a l h : Int) : spec_l1In.f a l h = some (decide (l ≤ a ∧ a ≤ h)) := by
  unfold spec_l1In.f
  by_cases c : a ≥ l
  · rw [if_pos c]; simp [show l ≤ a from c]
  · rw [if_neg c]; simp; omega
theorem i_in (a l h : Int) : impl_in.f a l h = some (decide (l ≤ a ∧ a ≤ h)) := by
  unfold impl_in.f
  by_cases c : a ≥ l
  · rw [if_pos c]; simp [show l ≤ a from c]
  · rw [if_neg c]; simp; omega
def good (e : Bool) (l h : Int) : Bool := if e = true then (l == 0 && h == 0) else decide (0 ≤ l ∧ l ≤ h ∧ h ≤ 65535)
theorem s_good (e : Bool) (l h : Int) : spec_GoodRange.f e l h = some (good e l h) := by
  unfold spec_GoodRange.f spec_l1Word.f good
  rw [s_in, s_in]; simp only [Option.bind_some]
  cases e
  · by_cases d : 0 ≤ l ∧ l ≤ 65535 <;> simp [d] <;> omega
  · by_cases c : l = 0 <;> simp [c]
theorem i_good (e : Bool) (l h : Int) : impl_isSpan.f e l h = some (good e l h) := by
  unfold impl_isSpan.f impl_isWord.f good
  rw [i_in, i_in]; simp only [Option.bind_some]
  cases e
  · by_cases d : 0 ≤ l ∧ l ≤ 65535 <;> by_cases f : 0 ≤ h ∧ h ≤ 65535 <;> simp [d, f] <;> omega
  · by_cases c : l = 0 <;> simp [c]
theorem meets (e0 : Bool) (l0 h0 : Int) (e1 : Bool) (l1 h1 : Int) : ∃ r, spec_l6Join.f e0 l0 h0 e1 l1 h1 = some r ∧ impl_joinRanges.f e0 l0 h0 e1 l1 h1 = some r := by
  unfold spec_l6Join.f impl_joinRanges.f
  have x1 : ∀ a b : Int, spec_l6Most.f a b = some (mx a b) := by
    intro a b; unfold spec_l6Most.f mx
    by_cases c : a > b
    · rw [if_pos c, if_neg (by omega)]
    · rw [if_neg c]; by_cases d : a < b
      · rw [if_pos d]
      · rw [if_neg d]; congr 1; omega
  have x2 : ∀ a b : Int, spec_l6Least.f a b = some (mn a b) := by
    intro a b; unfold spec_l6Least.f mn
    by_cases c : a < b
    · rw [if_pos c, if_neg (by omega)]
    · rw [if_neg c]; by_cases d : b < a
      · rw [if_pos d]
      · rw [if_neg d]; congr 1; omega
  rw [x1, x2]; simp only [Option.bind_some]
  (repeat' split) <;> exact ⟨_, rfl, rfl⟩
theorem same (e0 : Bool) (l0 h0 : Int) (e1 : Bool) (l1 h1 : Int) : ∃ r, spec_JoinRanges.f e0 l0 h0 e1 l1 h1 = some r ∧ impl_JoinRanges.f e0 l0 h0 e1 l1 h1 = some r := by
  unfold spec_JoinRanges.f impl_JoinRanges.f
  rw [s_good, s_good, i_good, i_good]; simp only [Option.bind_some]
  obtain ⟨q, hq, hr⟩ := meets e0 l0 h0 e1 l1 h1
  rw [hq, hr]
  by_cases a : good e0 l0 h0 = true <;> by_cases b : good e1 l1 h1 = true <;> simp [a, b]
end FnExactJoinRanges
open FnExactJoinRanges in
theorem FnExactJoinRanges : laws_FnExactJoinRanges.Pure := by
  intro s0 s1 _ _
  obtain ⟨⟨r0, r1, r2, r3⟩, h1, h2⟩ := same s0.f0 s0.f1 s0.f2 s1.f0 s1.f1 s1.f2
  unfold laws_FnExactJoinRanges.f laws_toRange.f
  simp only [Option.bind_some]
  rw [h1, h2]; simp only [Option.bind_some]
  unfold laws_eqRange.f
  simp

end Go.Proofs.Ytipiablfoddmmaa.Pure
