/- The program's JoinFacts returns what the reference's returns: for all facts. No condition. -/
import Derived.Test.YtipiablfoddmmaaPFnExactJoinFactsx3
import Derived.Test.YtipiablfoddmmaaPlain
namespace Go.Proofs.Ytipiablfoddmmaa.Pure
open Go.RowKit Go.Proofs.Ytipiablfoddmmaa.PFnExactJoinFacts Go.Proofs.YtipiablfoddmmaaW.PrintWords Go.Proofs.YtipiablfoddmmaaW.PrintLast Go.Proofs.Ytipiablfoddmmaa.Plain

namespace FnExactJoinFacts
theorem s_in (a l h : Int) : spec_l1In.f a l h = some (decide (l ≤ a ∧ a ≤ h)) := by
  unfold spec_l1In.f
  by_cases c : a ≥ l
  · rw [if_pos c]; simp [show l ≤ a from c]
  · rw [if_neg c]; simp; omega
theorem i_in (a l h : Int) : impl_in.f a l h = some (decide (l ≤ a ∧ a ≤ h)) := by
  unfold impl_in.f
  by_cases c : a ≥ l
  · rw [if_pos c]; simp [show l ≤ a from c]
  · rw [if_neg c]; simp; omega
def good (t k : Bool) (n : Int) : Bool := if t = true then (n == 0 && !k) else if k = true then decide (0 ≤ n ∧ n ≤ 65535) else (n == 0)
theorem s_good (t k : Bool) (n : Int) : spec_GoodFact.f t k n = some (good t k n) := by
  unfold spec_GoodFact.f spec_l1Word.f good
  rw [s_in]; simp only [Option.bind_some]
  cases t <;> cases k <;> by_cases c : n = 0 <;> simp [c]
theorem i_good (t k : Bool) (n : Int) : impl_isFact.f t k n = some (good t k n) := by
  unfold impl_isFact.f impl_isWord.f good
  rw [i_in]; simp only [Option.bind_some]
  cases t <;> cases k <;> by_cases c : n = 0 <;> by_cases d : 0 ≤ n ∧ n ≤ 65535 <;> simp [c, d] <;> (try omega)
theorem same (t0 k0 : Bool) (n0 : Int) (t1 k1 : Bool) (n1 : Int) : ∃ r, spec_JoinFacts.f t0 k0 n0 t1 k1 n1 = some r ∧ impl_JoinFacts.f t0 k0 n0 t1 k1 n1 = some r := by
  unfold spec_JoinFacts.f impl_JoinFacts.f
  rw [s_good, s_good, i_good, i_good]; simp only [Option.bind_some]
  have h : spec_l5Join.f t0 k0 n0 t1 k1 n1 = impl_joinFacts.f t0 k0 n0 t1 k1 n1 := rfl
  rw [h]
  have hs : ∃ q, impl_joinFacts.f t0 k0 n0 t1 k1 n1 = some q := by unfold impl_joinFacts.f; (repeat' split) <;> exact ⟨_, rfl⟩
  obtain ⟨q, hq⟩ := hs
  rw [hq]
  by_cases a : good t0 k0 n0 = true <;> by_cases b : good t1 k1 n1 = true <;> simp [a, b]
end FnExactJoinFacts
open FnExactJoinFacts in
theorem FnExactJoinFacts : laws_FnExactJoinFacts.Pure := by
  intro s0 s1 _ _
  obtain ⟨⟨r0, r1, r2, r3⟩, h1, h2⟩ := same s0.f0 s0.f1 s0.f2 s1.f0 s1.f1 s1.f2
  unfold laws_FnExactJoinFacts.f laws_toFact.f
  simp only [Option.bind_some]
  rw [h1, h2]; simp only [Option.bind_some]
  unfold laws_eqFact.f
  simp

end Go.Proofs.Ytipiablfoddmmaa.Pure
