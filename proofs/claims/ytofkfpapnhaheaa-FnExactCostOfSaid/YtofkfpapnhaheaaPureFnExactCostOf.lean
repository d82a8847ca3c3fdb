/- The program's CostOf returns what the reference's returns, and leaves its argument as it was: for all code. No condition. -/
import Derived.Test.YtofkfpapnhaheaaPFnExactCostOfx4
import Derived.Test.YtofkfpapnhaheaaPlain
namespace Go.Proofs.Ytofkfpapnhaheaa.Pure
open Go.RowKit Go.Proofs.Ytofkfpapnhaheaa.PFnExactCostOf Go.Proofs.YtofkfpapnhaheaaW.PrintWords Go.Proofs.YtofkfpapnhaheaaW.PrintLast Go.Proofs.Ytofkfpapnhaheaa.Plain

namespace FnExactCostOf
theorem s_in (a l h : Int) : spec_l1In.f a l h = some (decide (l ≤ a ∧ a ≤ h)) := by
  unfold spec_l1In.f
  by_cases c : a ≥ l
  · rw [if_pos c]; simp [show l ≤ a from c]
  · rw [if_neg c]; simp; omega
theorem i_in (a l h : Int) : impl_in.f a l h = some (decide (l ≤ a ∧ a ≤ h)) := by
  unfold impl_in.f
  by_cases c : a ≥ l
  · rw [if_pos c]; simp [show l ≤ a from c]
  · rw [if_neg c]; simp; omega
/-! Code: steps and what makes them good. -/
abbrev I := S68
def cv (x : S71) : I := ⟨x.f0, x.f1, x.f2, x.f3, x.f4⟩
def nm (v : Int) : Bool := decide (0 ≤ v ∧ v ≤ 7)
def wd (v : Int) : Bool := decide (0 ≤ v ∧ v ≤ 65535)
def gi (o d a b n : Int) : Bool :=
  if o = 1 then nm d && (a == 0 && (b == 0 && wd n)) else if o = 2 then nm d && (nm a && (b == 0 && n == 0)) else if o = 8 then d == 0 && (nm a && (b == 0 && n == 0)) else decide (3 ≤ o ∧ o ≤ 7) && (nm d && (nm a && (nm b && n == 0)))
def gI (x : I) : Bool := gi x.f0 x.f1 x.f2 x.f3 x.f4
def gC (l : List I) : Bool := l.all gI && decide (l.length ≤ 30)

theorem s_name (v : Int) : spec_l3Name.f v = some (nm v) := by unfold spec_l3Name.f nm; rw [s_in]; rfl
theorem s_word (v : Int) : spec_l1Word.f v = some (wd v) := by unfold spec_l1Word.f wd; rw [s_in]; rfl
theorem s_two (v : Int) : spec_l3Two.f v = some (decide (3 ≤ v ∧ v ≤ 7)) := by unfold spec_l3Two.f; rw [s_in]; rfl
theorem i_name (v : Int) : impl_isName.f v = some (nm v) := by unfold impl_isName.f nm; rw [i_in]; rfl
theorem i_word (v : Int) : impl_isWord.f v = some (wd v) := by unfold impl_isWord.f wd; rw [i_in]; rfl
theorem nm0 : nm 0 = true := by decide
theorem wd0 : wd 0 = true := by decide

theorem s_good (o d a b n : Int) : spec_l3Good.f o d a b n = some (gi o d a b n) := by
  unfold spec_l3Good.f gi
  rw [s_name, s_name, s_name, s_word, s_two]; simp only [Option.bind_some]
  by_cases c1 : o = 1
  · rw [if_pos c1, if_pos c1]
    cases nm d
    · rfl
    · by_cases a0 : a = 0 <;> by_cases b0 : b = 0 <;> simp [a0, b0]
  · rw [if_neg c1, if_neg c1]
    by_cases c2 : o = 2
    · rw [if_pos c2, if_pos c2]
      cases nm d <;> cases nm a <;> by_cases b0 : b = 0 <;> simp [b0]
    · rw [if_neg c2, if_neg c2]
      by_cases c8 : o = 8
      · rw [if_pos c8, if_pos c8]
        by_cases d0 : d = 0 <;> cases nm a <;> by_cases b0 : b = 0 <;> simp [b0, d0]
      · rw [if_neg c8, if_neg c8]
        by_cases c3 : 3 ≤ o ∧ o ≤ 7
        · have h : decide (3 ≤ o ∧ o ≤ 7) = true := by simpa using c3
          rw [h]
          cases nm d <;> cases nm a <;> cases nm b <;> simp
        · have h : decide (3 ≤ o ∧ o ≤ 7) = false := by simpa using c3
          rw [h]; simp

theorem i_instr (k : Nat) (hk : 2 ≤ k) (o d a b n : Int) : impl_isInstr.f k o d a b n = some (gi o d a b n) := by
  obtain ⟨k, rfl⟩ : ∃ m, k = m + 2 := ⟨k - 2, by omega⟩
  unfold impl_isInstr.f gi
  rw [i_name, i_name, i_name, i_word]; simp only [Option.bind_some, impl_isInstr.j0, impl_isInstr.j1]
  by_cases c1 : o = 1
  · subst c1
    by_cases a0 : a = 0 <;> by_cases b0 : b = 0 <;> cases nm d <;> cases wd n <;> simp [a0, b0, nm0] <;> (try (cases nm a <;> cases nm b <;> simp))
  · by_cases c2 : o = 2
    · subst c2
      by_cases n0 : n = 0 <;> by_cases b0 : b = 0 <;> cases nm d <;> cases nm a <;> simp [n0, b0, nm0, wd0] <;> (try (cases nm b <;> cases wd n <;> simp))
    · by_cases c8 : o = 8
      · subst c8
        by_cases d0 : d = 0 <;> by_cases n0 : n = 0 <;> by_cases b0 : b = 0 <;> cases nm a <;> simp [d0, n0, b0, nm0, wd0] <;> (try (cases nm b <;> cases wd n <;> cases nm d <;> simp))
      · rw [if_neg c1, if_neg c2, if_neg c8]
        by_cases c3 : 3 ≤ o ∧ o ≤ 7
        · have h : decide (3 ≤ o ∧ o ≤ 7) = true := by simpa using c3
          rw [h]
          have ho : o = 3 ∨ o = 4 ∨ o = 5 ∨ o = 6 ∨ o = 7 := by omega
          by_cases n0 : n = 0
          · subst n0
            rcases ho with rfl | rfl | rfl | rfl | rfl <;> cases nm d <;> cases nm a <;> cases nm b <;> simp [wd0]
          · rcases ho with rfl | rfl | rfl | rfl | rfl <;> cases nm d <;> cases nm a <;> cases nm b <;> cases wd n <;> simp [n0]
        · have h : decide (3 ≤ o ∧ o ≤ 7) = false := by simpa using c3
          rw [h]
          have e3 : ¬ o = 3 := by omega
          have e4 : ¬ o = 4 := by omega
          have e5 : ¬ o = 5 := by omega
          have e6 : ¬ o = 6 := by omega
          have e7 : ¬ o = 7 := by omega
          cases nm d <;> cases nm a <;> cases nm b <;> cases wd n <;> simp [c1, c2, c8, e3, e4, e5, e6, e7]

theorem rdI_drop {l : List I} {i : Nat} (h : i < l.length) : l.drop i = rd_T68 l (i : Int) :: l.drop (i + 1) := by
  rw [List.drop_eq_getElem_cons h]
  unfold rd_T68
  rw [Int.toNat_natCast, List.getD_eq_getElem?_getD, List.getElem?_eq_getElem h]; rfl

theorem s_code_loop (m : Nat) : ∀ (k : Nat) (x0 l : List I) (i : Nat), i ≤ l.length → l.length - i = m → m < k → l.length ≤ 2000000 →
    spec_GoodCode.l0 k x0 l (l.length : Int) (i : Int) = some ((l.drop i).all gI && decide (x0.length ≤ 30)) := by
  induction m with
  | zero =>
    intro k x0 l i h1 hd hk hn
    obtain ⟨k, rfl⟩ : ∃ m, k = m + 1 := ⟨k - 1, by omega⟩
    simp only [spec_GoodCode.l0]
    rw [if_neg (by omega), List.drop_of_length_le (by omega)]
    have e : decide ((x0.length : Int) ≤ 30) = decide (x0.length ≤ 30) := by congr 1; apply propext; omega
    rw [e]; simp
  | succ m ih =>
    intro k x0 l i h1 hd hk hn
    obtain ⟨k, rfl⟩ : ∃ m, k = m + 1 := ⟨k - 1, by omega⟩
    simp only [spec_GoodCode.l0]
    have wi : wrap64 ((i : Int) + 1) = ((i + 1 : Nat) : Int) := by rw [w64 (by omega) (by omega)]; omega
    rw [if_pos (show (i : Int) < (l.length : Int) by omega), if_pos (show 0 ≤ (i : Int) by omega), if_pos (show (i : Int) < (l.length : Int) by omega), s_good, wi, rdI_drop (l := l) (i := i) (by omega)]
    simp only [Option.bind_some, List.all_cons]
    show (if gI (rd_T68 l (i : Int)) = true then _ else _) = _
    cases h : gI (rd_T68 l (i : Int))
    · simp
    · rw [if_pos rfl, ih k x0 l (i + 1) (by omega) (by omega) (by omega) hn]; simp
theorem s_code (k : Nat) (l : List I) (hk : l.length < k) (hn : l.length ≤ 2000000) : spec_GoodCode.f k l = some (gC l) := by
  unfold spec_GoodCode.f gC
  have h := s_code_loop l.length k l l 0 (by omega) (by omega) hk hn
  rw [List.drop_zero] at h
  exact h
theorem i_index_loop (m : Nat) : ∀ (k : Nat) (l : List I) (i : Nat), i ≤ l.length → l.length - i = m → m + 2 < k → l.length ≤ 2000000 →
    ∃ r, slices_IndexFunc_v81.l0 k l (l.length : Int) (i : Int) = some r ∧ decide (r ≥ 0) = !(l.drop i).all gI := by
  induction m with
  | zero =>
    intro k l i h1 hd hk hn
    obtain ⟨k, rfl⟩ : ∃ m, k = m + 1 := ⟨k - 1, by omega⟩
    simp only [slices_IndexFunc_v81.l0]
    rw [if_neg (by omega), List.drop_of_length_le (by omega)]
    exact ⟨_, rfl, by decide⟩
  | succ m ih =>
    intro k l i h1 hd hk hn
    obtain ⟨k, rfl⟩ : ∃ m, k = m + 1 := ⟨k - 1, by omega⟩
    simp only [slices_IndexFunc_v81.l0]
    have wi : wrap64 ((i : Int) + 1) = ((i + 1 : Nat) : Int) := by rw [w64 (by omega) (by omega)]; omega
    unfold impl_isCode_1.f
    rw [if_pos (show (i : Int) < (l.length : Int) by omega), if_pos (show 0 ≤ (i : Int) by omega), if_pos (show (i : Int) < (l.length : Int) by omega), i_instr k (by omega), wi, rdI_drop (l := l) (i := i) (by omega)]
    simp only [Option.bind_some, List.all_cons]
    show ∃ r, (if (!gI (rd_T68 l (i : Int))) = true then _ else _) = _ ∧ _
    cases h : gI (rd_T68 l (i : Int))
    · exact ⟨(i : Int), by simp, by simp⟩
    · obtain ⟨r, e1, e2⟩ := ih k l (i + 1) (by omega) (by omega) (by omega) hn
      exact ⟨r, by simpa using e1, by simpa using e2⟩
theorem i_code (k : Nat) (l : List I) (hk : l.length + 2 < k) (hn : l.length ≤ 2000000) : impl_isCode.f k l = some (gC l) := by
  unfold impl_isCode.f gC
  by_cases c : l.length ≤ 30
  · rw [if_pos (by omega)]
    unfold slices_ContainsFunc_v81.f slices_IndexFunc_v81.f
    obtain ⟨r, e1, e2⟩ := i_index_loop l.length k l 0 (by omega) (by omega) hk hn
    rw [show ((0 : Nat) : Int) = 0 from rfl] at e1
    rw [List.drop_zero] at e2
    rw [e1]; simp only [Option.bind_some]
    rw [e2]; simp [c]
  · rw [if_neg (by omega)]; simp [c]

/-! The law's own words. -/
theorem sz_code (l : List S71) (left : Int) (h0 : 0 ≤ left) (h1 : left ≤ 1048576) (hl : l.length ≤ 9223372036854775807) : ∃ r, laws_szInstrS.f l left = some r ∧ (r < 0 ∨ (l.length : Int) ≤ left ∧ r = left - l.length) := by
  unfold laws_szInstrS.f
  rw [w64 (by omega) (by omega)]
  by_cases c : left - (l.length : Int) < 0
  · rw [if_pos c]; exact ⟨_, rfl, .inl (by decide)⟩
  · rw [if_neg c]; exact ⟨_, rfl, .inr ⟨by omega, rfl⟩⟩
theorem to_loop (m : Nat) : ∀ (k : Nat) (x : List S71) (y : List I) (i : Nat), i ≤ x.length → x.length - i = m → m < k → x.length ≤ 2000000 → y.length = x.length →
    (∀ j, j < i → y[j]? = (x.map cv)[j]?) → laws_toInstrS.l0 k x y (i : Int) = some (x.map cv) := by
  induction m with
  | zero =>
    intro k x y i h1 hd hk hn hy hat
    obtain ⟨k, rfl⟩ : ∃ m, k = m + 1 := ⟨k - 1, by omega⟩
    simp only [laws_toInstrS.l0]
    rw [if_neg (by omega)]
    congr 1
    apply List.ext_getElem?
    intro j
    by_cases c : j < i
    · exact hat j c
    · rw [List.getElem?_eq_none (by omega), List.getElem?_eq_none (by rw [List.length_map]; omega)]
  | succ m ih =>
    intro k x y i h1 hd hk hn hy hat
    obtain ⟨k, rfl⟩ : ∃ m, k = m + 1 := ⟨k - 1, by omega⟩
    simp only [laws_toInstrS.l0]
    have wi : wrap64 ((i : Int) + 1) = ((i + 1 : Nat) : Int) := by rw [w64 (by omega) (by omega)]; omega
    rw [if_pos (show (i : Int) < (x.length : Int) by omega), if_pos (show 0 ≤ (i : Int) by omega)]
    unfold laws_toInstr.f
    simp only [Option.bind_some]
    rw [if_pos (show (i : Int) < (y.length : Int) by omega), wi]
    apply ih k x _ (i + 1) (by omega) (by omega) (by omega) hn (by simp [hy])
    intro j hj
    rw [Int.toNat_natCast]
    by_cases c : j = i
    · subst c
      rw [List.getElem?_set_self (by omega), List.getElem?_map]
      unfold rd_T71
      rw [Int.toNat_natCast, List.getD_eq_getElem?_getD, List.getElem?_eq_getElem (show j < x.length by omega)]
      rfl
    · rw [List.getElem?_set_ne (by omega)]; exact hat j (by omega)
theorem to_code (k : Nat) (x : List S71) (hk : x.length < k) (hn : x.length ≤ 2000000) : laws_toInstrS.f k x = some (x.map cv) := by
  unfold laws_toInstrS.f
  rw [if_pos (by omega), if_pos (by omega)]
  exact to_loop x.length k x _ 0 (by omega) (by omega) hk hn (by simp) (fun j hj => by omega)
theorem eq_code_loop (m : Nat) : ∀ (k : Nat) (l : List I) (i : Nat), i ≤ l.length → l.length - i = m → m < k → l.length ≤ 2000000 → laws_eqInstrS.l0 k l l (i : Int) = some true := by
  induction m with
  | zero =>
    intro k l i h1 hd hk hn
    obtain ⟨k, rfl⟩ : ∃ m, k = m + 1 := ⟨k - 1, by omega⟩
    simp only [laws_eqInstrS.l0]
    rw [if_neg (by omega)]
  | succ m ih =>
    intro k l i h1 hd hk hn
    obtain ⟨k, rfl⟩ : ∃ m, k = m + 1 := ⟨k - 1, by omega⟩
    have wi : wrap64 ((i : Int) + 1) = ((i + 1 : Nat) : Int) := by rw [w64 (by omega) (by omega)]; omega
    simp only [laws_eqInstrS.l0, laws_eqInstr.f]
    rw [if_pos (show (i : Int) < (l.length : Int) by omega), if_pos (show 0 ≤ (i : Int) by omega), if_pos (show (i : Int) < (l.length : Int) by omega), wi]
    simp only [if_true, Option.bind_some]
    exact ih k l (i + 1) (by omega) (by omega) (by omega) hn
theorem eq_code (k : Nat) (l : List I) (hk : l.length < k) (hn : l.length ≤ 2000000) : laws_eqInstrS.f k l l = some true := by
  unfold laws_eqInstrS.f
  rw [if_pos rfl]; exact eq_code_loop l.length k l 0 (by omega) (by omega) hk hn
theorem cost_loop (m : Nat) : ∀ (k : Nat) (s : Int) (l : List I) (i : Nat), i ≤ l.length → l.length - i = m → m < k → l.length ≤ 2000000 →
    ∃ r, spec_CostOf.l0 k s l (l.length : Int) (i : Int) = some r ∧ impl_CostOf.l0 k s l (l.length : Int) (i : Int) = some r := by
  induction m with
  | zero =>
    intro k s l i h1 hd hk hn
    obtain ⟨k, rfl⟩ : ∃ m, k = m + 1 := ⟨k - 1, by omega⟩
    simp only [spec_CostOf.l0, impl_CostOf.l0]
    rw [if_neg (by omega), if_neg (by omega)]; exact ⟨_, rfl, rfl⟩
  | succ m ih =>
    intro k s l i h1 hd hk hn
    obtain ⟨k, rfl⟩ : ∃ m, k = m + 1 := ⟨k - 1, by omega⟩
    simp only [spec_CostOf.l0, impl_CostOf.l0]
    have wi : wrap64 ((i : Int) + 1) = ((i + 1 : Nat) : Int) := by rw [w64 (by omega) (by omega)]; omega
    have hlt : (i : Int) < (l.length : Int) := by omega
    have h0 : 0 ≤ (i : Int) := by omega
    rw [if_pos hlt, if_pos hlt, if_pos h0, if_pos h0, if_pos hlt, if_pos hlt, wi, s_two]
    simp only [Option.bind_some]
    have ih' := fun s => ih k s l (i + 1) (by omega) (by omega) (by omega) hn
    generalize (rd_T68 l (i : Int)).f0 = o
    by_cases c5 : o = 5
    · rw [if_pos c5, if_pos c5]; exact ih' _
    · rw [if_neg c5, if_neg c5]
      by_cases c : 3 ≤ o ∧ o ≤ 7
      · have h : decide (3 ≤ o ∧ o ≤ 7) = true := by simpa using c
        rw [h]; simp only [if_true]
        have ho : o = 3 ∨ o = 4 ∨ o = 6 ∨ o = 7 := by omega
        rcases ho with rfl | rfl | rfl | rfl <;> simp only [Int.reduceEq, if_true, if_false] <;> exact ih' _
      · have h : decide (3 ≤ o ∧ o ≤ 7) = false := by simpa using c
        rw [h]; simp only [Bool.false_eq_true, if_false]
        rw [if_neg (show ¬ o = 3 by omega), if_neg (show ¬ o = 4 by omega), if_neg (show ¬ o = 6 by omega), if_neg (show ¬ o = 7 by omega)]
        exact ih' _
theorem cost (k : Nat) (l : List I) (hk : l.length + 2 < k) (hn : l.length ≤ 2000000) : ∃ r, spec_CostOf.f k l = some r ∧ impl_CostOf.f k l = some r := by
  unfold spec_CostOf.f impl_CostOf.f
  rw [s_code k l (by omega) hn, i_code k l hk hn]; simp only [Option.bind_some]
  by_cases c : gC l = true
  · rw [if_pos c, if_pos c]; exact cost_loop l.length k 0 l 0 (by omega) (by omega) (by omega) hn
  · rw [if_neg c, if_neg c]; exact ⟨_, rfl, rfl⟩
end FnExactCostOf
open FnExactCostOf in
theorem FnExactCostOf : laws_FnExactCostOf.Pure := by
  intro l hF
  refine ⟨1100001, ?_⟩
  unfold laws_FnExactCostOf.f
  obtain ⟨r, e, h⟩ := sz_code l 1048576 (by omega) (by omega) hF.1
  rw [e]; simp only [Option.bind_some]
  by_cases c : r < 0
  · rw [if_pos c]
  · rw [if_neg c]
    have hl : l.length ≤ 1048576 := by omega
    have hm : (l.map cv).length = l.length := List.length_map ..
    rw [to_code 1100001 l (by omega) (by omega)]; simp only [Option.bind_some]
    obtain ⟨q, e1, e2⟩ := cost 1100001 (l.map cv) (by omega) (by omega)
    rw [e1, e2]; simp only [Option.bind_some, if_true, bne_self_eq_false, laws_FnExactCostOf.j0, Bool.false_eq_true, if_false]
    rw [to_code 1100000 l (by omega) (by omega)]; simp only [Option.bind_some]
    rw [eq_code 1100000 (l.map cv) (by omega) (by omega)]; simp

end Go.Proofs.Ytofkfpapnhaheaa.Pure
