/- The program's PlanMul returns what the reference's returns, and its list is its own: for all numbers. No condition. -/
import Derived.Test.YtipiablfoddmmaaPFnExactPlanMulx2
import Derived.Test.YtipiablfoddmmaaPlain
namespace Go.Proofs.Ytipiablfoddmmaa.Pure
open Go.RowKit Go.Proofs.Ytipiablfoddmmaa.PFnExactPlanMul Go.Proofs.YtipiablfoddmmaaW.PrintWords Go.Proofs.YtipiablfoddmmaaW.PrintLast Go.Proofs.Ytipiablfoddmmaa.Plain

namespace FnExactPlanMul
theorem eq_loop (d : Nat) : ∀ (k : Nat) (xs : List Int) (i : Int), 0 ≤ i → i ≤ xs.length → (xs.length : Int) - i = d → d < k → xs.length ≤ 140737488351232 →
    laws_eqIntS.l0 k xs xs i = some true := by
  induction d with
  | zero =>
    intro k xs i h0 h1 hd hk hn
    obtain ⟨k, rfl⟩ : ∃ m, k = m + 1 := ⟨k - 1, by omega⟩
    simp only [laws_eqIntS.l0]; rw [if_neg (by omega)]
  | succ d ih =>
    intro k xs i h0 h1 hd hk hn
    obtain ⟨k, rfl⟩ : ∃ m, k = m + 1 := ⟨k - 1, by omega⟩
    simp only [laws_eqIntS.l0]
    rw [if_pos (by omega), if_pos h0, if_pos (by omega), if_pos trivial, w64 (by omega) (by omega)]
    exact ih k xs (i + 1) (by omega) (by omega) (by omega) (by omega) hn
theorem eq_self (k : Nat) (xs : List Int) (hk : xs.length < k) (hn : xs.length ≤ 140737488351232) : laws_eqIntS.f k xs xs = some true := by
  unfold laws_eqIntS.f
  rw [if_pos rfl]; exact eq_loop xs.length k xs 0 (by omega) (by omega) (by omega) hk hn

theorem mark_loop (d : Nat) : ∀ (k : Nat) (xs : List Int) (m i : Int), 0 ≤ i → i ≤ xs.length → (xs.length : Int) - i = d → d < k → xs.length ≤ 140737488351232 → -100 ≤ m → m + d ≤ 1407374883512320 →
    ∃ ys : List Int, ys.length = xs.length ∧ laws_markIntS.l0 k xs m i = some (m + d, ys) ∧ (∀ j : Int, 0 ≤ j → j < i → rd ys j = rd xs j) ∧ ∀ j : Int, i ≤ j → j < xs.length → rd ys j = m + (j - i) := by
  induction d with
  | zero =>
    intro k xs m i h0 h1 hd hk hn hm hm2
    obtain ⟨k, rfl⟩ : ∃ m, k = m + 1 := ⟨k - 1, by omega⟩
    refine ⟨xs, rfl, ?_, fun _ _ _ => rfl, fun j h h' => by omega⟩
    simp only [laws_markIntS.l0]; rw [if_neg (by omega)]; simp
  | succ d ih =>
    intro k xs m i h0 h1 hd hk hn hm hm2
    obtain ⟨k, rfl⟩ : ∃ m, k = m + 1 := ⟨k - 1, by omega⟩
    obtain ⟨ys, hl, he, hlo, hhi⟩ := ih k (xs.set i.toNat m) (m + 1) (i + 1) (by omega) (by simp; omega) (by simp; omega) (by omega) (by simp; omega) (by omega) (by omega)
    simp only [List.length_set] at hl hhi
    refine ⟨ys, hl, ?_, ?_, ?_⟩
    · simp only [laws_markIntS.l0]
      rw [if_pos (by omega), if_pos h0, w64 (n := m + 1) (by omega) (by omega), w64 (n := i + 1) (by omega) (by omega), he]
      congr 2; omega
    · intro j j0 j1
      rw [hlo j j0 (by omega)]
      unfold rd
      rw [List.getD_eq_getElem?_getD, List.getD_eq_getElem?_getD, List.getElem?_set_ne (by omega)]
    · intro j j0 j1
      by_cases e : j = i
      · subst e
        rw [hlo j (by omega) (by omega)]
        unfold rd
        rw [List.getD_eq_getElem?_getD, List.getElem?_set_self (by omega)]; simp
      · rw [hhi j (by omega) (by omega)]; omega
theorem marked (k : Nat) (xs : List Int) (m : Int) (hk : xs.length < k) (hn : xs.length ≤ 140737488351232) (h0 : -100 ≤ m) (h1 : m ≤ 703687441776640) :
    ∃ ys : List Int, ys.length = xs.length ∧ laws_markIntS.f k xs m = some (m + xs.length, ys) ∧ ∀ j : Int, 0 ≤ j → j < xs.length → rd ys j = m + j := by
  obtain ⟨ys, hl, he, _, h⟩ := mark_loop xs.length k xs m 0 (by omega) (by omega) (by omega) hk hn h0 (by omega)
  exact ⟨ys, hl, he, fun j j0 j1 => by rw [h j j0 j1]; omega⟩

theorem held_loop (d : Nat) : ∀ (k : Nat) (xs : List Int) (m i : Int), 0 ≤ i → i ≤ xs.length → (xs.length : Int) - i = d → d < k → xs.length ≤ 140737488351232 → -100 ≤ m → m + d ≤ 1407374883512320 →
    (∀ j : Int, i ≤ j → j < xs.length → rd xs j = m + (j - i)) → laws_heldIntS.l0 k xs m i = some (m + d) := by
  induction d with
  | zero =>
    intro k xs m i h0 h1 hd hk hn hm hm2 h
    obtain ⟨k, rfl⟩ : ∃ m, k = m + 1 := ⟨k - 1, by omega⟩
    simp only [laws_heldIntS.l0]; rw [if_neg (by omega)]; simp
  | succ d ih =>
    intro k xs m i h0 h1 hd hk hn hm hm2 h
    obtain ⟨k, rfl⟩ : ∃ m, k = m + 1 := ⟨k - 1, by omega⟩
    simp only [laws_heldIntS.l0]
    rw [if_pos (by omega), if_pos h0, if_pos (by rw [h i (by omega) (by omega)]; omega), w64 (n := m + 1) (by omega) (by omega), w64 (n := i + 1) (by omega) (by omega)]
    rw [ih k xs (m + 1) (i + 1) (by omega) (by omega) (by omega) (by omega) hn (by omega) (by omega) (fun j j0 j1 => by rw [h j (by omega) j1]; omega)]
    congr 1; omega
theorem held (k : Nat) (xs : List Int) (m : Int) (hk : xs.length < k) (hn : xs.length ≤ 140737488351232) (h0 : -100 ≤ m) (h1 : m ≤ 703687441776640)
    (h : ∀ j : Int, 0 ≤ j → j < xs.length → rd xs j = m + j) : laws_heldIntS.f k xs m = some (m + xs.length) :=
  held_loop xs.length k xs m 0 (by omega) (by omega) (by omega) hk hn h0 (by omega) (fun j j0 j1 => by rw [h j j0 j1]; omega)
theorem s_in (a l h : Int) : spec_l1In.f a l h = some (decide (l ≤ a ∧ a ≤ h)) := by
  unfold spec_l1In.f
  by_cases c : a ≥ l
  · rw [if_pos c]; simp [show l ≤ a from c]
  · rw [if_neg c]; simp; omega
theorem i_in (a l h : Int) : impl_in.f a l h = some (decide (l ≤ a ∧ a ≤ h)) := by
  unfold impl_in.f
  by_cases c : a ≥ l
  · rw [if_pos c]; simp [show l ≤ a from c]
  · rw [if_neg c]; simp; omega

theorem tdivE {x y : Int} (h : x % 2 = 0) (hy : x / 2 = y) : Int.tdiv x 2 = y := by
  rw [Int.tdiv_eq_ediv]
  have : (2 : Int) ∣ x := Int.dvd_of_emod_eq_zero h
  simp [this, hy]

theorem both (d : Nat) : ∀ (k : Nat) (b : Int) (out : List Int) (p : Int), 0 ≤ b → b ≤ d → d < k → 1 ≤ p → p + d ≤ 70000 → out.length + d ≤ 70000 →
    ∃ r : List Int, r.length ≤ 70000 ∧ spec_PlanMul.l0 k b out p = some (r, true) ∧ impl_PlanMul.l0 k b out p = some (r, true) := by
  induction d with
  | zero =>
    intro k b out p h0 h1 hk hp1 hp2 hl
    obtain ⟨k, rfl⟩ : ∃ m, k = m + 1 := ⟨k - 1, by omega⟩
    refine ⟨out, by omega, ?_, ?_⟩
    · simp only [spec_PlanMul.l0]; rw [if_neg (by omega)]
    · simp only [impl_PlanMul.l0]; rw [if_neg (by omega)]
  | succ d ih =>
    intro k b out p h0 h1 hk hp1 hp2 hl
    obtain ⟨k, rfl⟩ : ∃ m, k = m + 1 := ⟨k - 1, by omega⟩
    by_cases hb : b > 0
    · have wp : wrap64 (p + 1) = p + 1 := w64 (by omega) (by omega)
      have m4 : Int.tmod b 4 = b % 4 := Int.tmod_eq_emod_of_nonneg h0
      simp only [spec_PlanMul.l0, impl_PlanMul.l0]
      rw [if_pos hb, if_pos hb, and1, and3, m4, wp]
      by_cases c1 : b % 4 = 1
      · obtain ⟨r, hr, hs, hi⟩ := ih k ((b - 1) / 2) (out ++ [p]) (p + 1) (by omega) (by omega) (by omega) (by omega) (by omega) (by simp; omega)
        refine ⟨r, hr, ?_, ?_⟩
        · have e1 : wrap64 (b - wrap64 (2 - b % 4)) / 2 = (b - 1) / 2 := by rw [c1, w64 (n := 2 - 1) (by omega) (by omega), w64 (by omega) (by omega)]; omega
          have e2 : wrap64 (wrap64 (2 - b % 4) * p) = p := by rw [c1, w64 (n := 2 - 1) (by omega) (by omega), w64 (by omega) (by omega)]; omega
          rw [if_pos (by omega), if_pos (by omega), e1, e2]; exact hs
        · have e1 : wrap64 (Int.tdiv (wrap64 (b - 1)) 2) = (b - 1) / 2 := by rw [w64 (n := b - 1) (by omega) (by omega), tdivE (by omega) rfl, w64 (by omega) (by omega)]
          rw [if_pos c1, if_pos (by omega), e1]; exact hi
      · by_cases c3 : b % 4 = 3
        · obtain ⟨r, hr, hs, hi⟩ := ih k ((b + 1) / 2) (out ++ [-p]) (p + 1) (by omega) (by omega) (by omega) (by omega) (by omega) (by simp; omega)
          refine ⟨r, hr, ?_, ?_⟩
          · have e1 : wrap64 (b - wrap64 (2 - b % 4)) / 2 = (b + 1) / 2 := by rw [c3, w64 (n := 2 - 3) (by omega) (by omega), w64 (by omega) (by omega)]; omega
            have e2 : wrap64 (wrap64 (2 - b % 4) * p) = -p := by rw [c3, w64 (n := 2 - 3) (by omega) (by omega), w64 (by omega) (by omega)]; omega
            rw [if_pos (by omega), if_pos (by omega), e1, e2]; exact hs
          · have e1 : wrap64 (Int.tdiv (wrap64 (b + 1)) 2) = (b + 1) / 2 := by rw [w64 (n := b + 1) (by omega) (by omega), tdivE (by omega) rfl, w64 (by omega) (by omega)]
            have e2 : wrap64 (-p) = -p := w64 (by omega) (by omega)
            rw [if_neg c1, if_pos c3, if_pos (by omega), e1, e2]; exact hi
        · obtain ⟨r, hr, hs, hi⟩ := ih k (b / 2) out (p + 1) (by omega) (by omega) (by omega) (by omega) (by omega) (by omega)
          refine ⟨r, hr, ?_, ?_⟩
          · rw [if_neg (by omega)]; exact hs
          · have e1 : wrap64 (Int.tdiv b 2) = b / 2 := by rw [tdivE (by omega) rfl, w64 (by omega) (by omega)]
            rw [if_neg c1, if_neg c3, e1]; exact hi
    · refine ⟨out, by omega, ?_, ?_⟩
      · simp only [spec_PlanMul.l0]; rw [if_neg hb]
      · simp only [impl_PlanMul.l0]; rw [if_neg hb]

theorem plans (k : Nat) (hk : 70000 < k) (a : Int) : ∃ (r : List Int) (ok : Bool), r.length ≤ 70000 ∧ spec_PlanMul.f k a = some (r, ok) ∧ impl_PlanMul.f k a = some (r, ok) := by
  unfold spec_PlanMul.f impl_PlanMul.f
  rw [s_in, i_in]; simp only [Option.bind_some]
  by_cases c : 0 ≤ a ∧ a ≤ 65535
  · obtain ⟨r, hr, hs, hi⟩ := both 65535 k a [] 1 (by omega) (by omega) (by omega) (by omega) (by omega) (by simp)
    refine ⟨r, true, hr, ?_, ?_⟩
    · rw [if_pos (by simpa using c)]; exact hs
    · rw [if_pos (by simpa using c)]; exact hi
  · refine ⟨[], false, by simp, ?_, ?_⟩ <;> rw [if_neg (by simpa using c)]
end FnExactPlanMul
open FnExactPlanMul in
theorem FnExactPlanMul : laws_FnExactPlanMul.Pure := by
  intro a _
  obtain ⟨r, ok, hr, hs, hi⟩ := plans 80002 (by omega) a
  obtain ⟨r', ok', hr', hs', hi'⟩ := plans 80001 (by omega) a
  obtain ⟨rfl, rfl⟩ : r' = r ∧ ok' = ok := by
    have := at_rounds (g := fun k => impl_PlanMul.f k a) (fun k => impl_PlanMul.mono a k) (by omega : 80001 ≤ 80002) hi'
    simp only [hi, Option.some.injEq, Prod.mk.injEq] at this
    exact ⟨this.1.symm, this.2.symm⟩
  obtain ⟨ys, hl, hm, hat⟩ := marked 80001 r' 1 (by omega) (by omega) (by omega) (by omega)
  refine ⟨80002, ?_⟩
  unfold laws_FnExactPlanMul.f
  rw [hs, hi]; simp only [Option.bind_some]
  rw [eq_self 80002 r' (by omega) (by omega)]; simp only [Option.bind_some, if_true, bne_self_eq_false]
  simp only [laws_FnExactPlanMul.j0]
  rw [if_neg (by decide), hm]; simp only [Option.bind_some]
  rw [held 80001 ys 1 (by omega) (by omega) (by omega) (by omega) (fun j h0 h1 => hat j h0 (by omega))]; simp only [Option.bind_some]
  rw [if_neg (by omega), if_pos (by rw [hl]), hi']; simp only [Option.bind_some]
  rw [eq_self 80001 r' (by omega) (by omega)]; simp only [Option.bind_some, if_true, bne_self_eq_false]
  simp only [laws_FnExactPlanMul.j1]
  rw [if_neg (by decide), held 80000 ys 1 (by omega) (by omega) (by omega) (by omega) (fun j h0 h1 => hat j h0 (by omega))]; simp only [Option.bind_some]
  rw [if_neg (by omega), if_pos (by rw [hl])]

end Go.Proofs.Ytipiablfoddmmaa.Pure
