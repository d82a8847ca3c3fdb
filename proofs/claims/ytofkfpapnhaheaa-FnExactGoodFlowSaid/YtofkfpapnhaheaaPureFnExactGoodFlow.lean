/- The program's GoodFlow returns what the reference's returns, and leaves its argument as it was: for all flows. No condition. -/
import Derived.Test.YtofkfpapnhaheaaPFnExactGoodFlowx5
import Derived.Test.YtofkfpapnhaheaaPlain
namespace Go.Proofs.Ytofkfpapnhaheaa.Pure
open Go.RowKit Go.Proofs.Ytofkfpapnhaheaa.PFnExactGoodFlow Go.Proofs.YtofkfpapnhaheaaW.PrintWords Go.Proofs.YtofkfpapnhaheaaW.PrintLast Go.Proofs.Ytofkfpapnhaheaa.Plain

namespace FnExactGoodFlow
theorem s_in (a l h : Int) : spec_l1In.f a l h = some (decide (l ≤ a ∧ a ≤ h)) := by
  unfold spec_l1In.f
  by_cases c : a ≥ l
  · rw [if_pos c]; simp [show l ≤ a from c]
  · rw [if_neg c]; simp; omega
theorem i_in (a l h : Int) : impl_in.f a l h = some (decide (l ≤ a ∧ a ≤ h)) := by
  unfold impl_in.f
  by_cases c : a ≥ l
  · rw [if_pos c]; simp [show l ≤ a from c]
  · rw [if_neg c]; simp; omega
/-! Code: steps and what makes them good. -/
abbrev I := S68
def cv (x : S71) : I := ⟨x.f0, x.f1, x.f2, x.f3, x.f4⟩
def nm (v : Int) : Bool := decide (0 ≤ v ∧ v ≤ 7)
def wd (v : Int) : Bool := decide (0 ≤ v ∧ v ≤ 65535)
def gi (o d a b n : Int) : Bool :=
  if o = 1 then nm d && (a == 0 && (b == 0 && wd n)) else if o = 2 then nm d && (nm a && (b == 0 && n == 0)) else if o = 8 then d == 0 && (nm a && (b == 0 && n == 0)) else decide (3 ≤ o ∧ o ≤ 7) && (nm d && (nm a && (nm b && n == 0)))
def gI (x : I) : Bool := gi x.f0 x.f1 x.f2 x.f3 x.f4
def gC (l : List I) : Bool := l.all gI && decide (l.length ≤ 30)

theorem s_name (v : Int) : spec_l3Name.f v = some (nm v) := by unfold spec_l3Name.f nm; rw [s_in]; rfl
theorem s_word (v : Int) : spec_l1Word.f v = some (wd v) := by unfold spec_l1Word.f wd; rw [s_in]; rfl
theorem s_two (v : Int) : spec_l3Two.f v = some (decide (3 ≤ v ∧ v ≤ 7)) := by unfold spec_l3Two.f; rw [s_in]; rfl
theorem i_name (v : Int) : impl_isName.f v = some (nm v) := by unfold impl_isName.f nm; rw [i_in]; rfl
theorem i_word (v : Int) : impl_isWord.f v = some (wd v) := by unfold impl_isWord.f wd; rw [i_in]; rfl
theorem nm0 : nm 0 = true := by decide
theorem wd0 : wd 0 = true := by decide

theorem s_good (o d a b n : Int) : spec_l3Good.f o d a b n = some (gi o d a b n) := by
  unfold spec_l3Good.f gi
  rw [s_name, s_name, s_name, s_word, s_two]; simp only [Option.bind_some]
  by_cases c1 : o = 1
  · rw [if_pos c1, if_pos c1]
    cases nm d
    · rfl
    · by_cases a0 : a = 0 <;> by_cases b0 : b = 0 <;> simp [a0, b0]
  · rw [if_neg c1, if_neg c1]
    by_cases c2 : o = 2
    · rw [if_pos c2, if_pos c2]
      cases nm d <;> cases nm a <;> by_cases b0 : b = 0 <;> simp [b0]
    · rw [if_neg c2, if_neg c2]
      by_cases c8 : o = 8
      · rw [if_pos c8, if_pos c8]
        by_cases d0 : d = 0 <;> cases nm a <;> by_cases b0 : b = 0 <;> simp [b0, d0]
      · rw [if_neg c8, if_neg c8]
        by_cases c3 : 3 ≤ o ∧ o ≤ 7
        · have h : decide (3 ≤ o ∧ o ≤ 7) = true := by simpa using c3
          rw [h]
          cases nm d <;> cases nm a <;> cases nm b <;> simp
        · have h : decide (3 ≤ o ∧ o ≤ 7) = false := by simpa using c3
          rw [h]; simp

theorem i_instr (k : Nat) (hk : 2 ≤ k) (o d a b n : Int) : impl_isInstr.f k o d a b n = some (gi o d a b n) := by
  obtain ⟨k, rfl⟩ : ∃ m, k = m + 2 := ⟨k - 2, by omega⟩
  unfold impl_isInstr.f gi
  rw [i_name, i_name, i_name, i_word]; simp only [Option.bind_some, impl_isInstr.j0, impl_isInstr.j1]
  by_cases c1 : o = 1
  · subst c1
    by_cases a0 : a = 0 <;> by_cases b0 : b = 0 <;> cases nm d <;> cases wd n <;> simp [a0, b0, nm0] <;> (try (cases nm a <;> cases nm b <;> simp))
  · by_cases c2 : o = 2
    · subst c2
      by_cases n0 : n = 0 <;> by_cases b0 : b = 0 <;> cases nm d <;> cases nm a <;> simp [n0, b0, nm0, wd0] <;> (try (cases nm b <;> cases wd n <;> simp))
    · by_cases c8 : o = 8
      · subst c8
        by_cases d0 : d = 0 <;> by_cases n0 : n = 0 <;> by_cases b0 : b = 0 <;> cases nm a <;> simp [d0, n0, b0, nm0, wd0] <;> (try (cases nm b <;> cases wd n <;> cases nm d <;> simp))
      · rw [if_neg c1, if_neg c2, if_neg c8]
        by_cases c3 : 3 ≤ o ∧ o ≤ 7
        · have h : decide (3 ≤ o ∧ o ≤ 7) = true := by simpa using c3
          rw [h]
          have ho : o = 3 ∨ o = 4 ∨ o = 5 ∨ o = 6 ∨ o = 7 := by omega
          by_cases n0 : n = 0
          · subst n0
            rcases ho with rfl | rfl | rfl | rfl | rfl <;> cases nm d <;> cases nm a <;> cases nm b <;> simp [wd0]
          · rcases ho with rfl | rfl | rfl | rfl | rfl <;> cases nm d <;> cases nm a <;> cases nm b <;> cases wd n <;> simp [n0]
        · have h : decide (3 ≤ o ∧ o ≤ 7) = false := by simpa using c3
          rw [h]
          have e3 : ¬ o = 3 := by omega
          have e4 : ¬ o = 4 := by omega
          have e5 : ¬ o = 5 := by omega
          have e6 : ¬ o = 6 := by omega
          have e7 : ¬ o = 7 := by omega
          cases nm d <;> cases nm a <;> cases nm b <;> cases wd n <;> simp [c1, c2, c8, e3, e4, e5, e6, e7]

theorem rdI_drop {l : List I} {i : Nat} (h : i < l.length) : l.drop i = rd_T68 l (i : Int) :: l.drop (i + 1) := by
  rw [List.drop_eq_getElem_cons h]
  unfold rd_T68
  rw [Int.toNat_natCast, List.getD_eq_getElem?_getD, List.getElem?_eq_getElem h]; rfl

theorem s_code_loop (m : Nat) : ∀ (k : Nat) (x0 l : List I) (i : Nat), i ≤ l.length → l.length - i = m → m < k → l.length ≤ 2000000 →
    spec_GoodCode.l0 k x0 l (l.length : Int) (i : Int) = some ((l.drop i).all gI && decide (x0.length ≤ 30)) := by
  induction m with
  | zero =>
    intro k x0 l i h1 hd hk hn
    obtain ⟨k, rfl⟩ : ∃ m, k = m + 1 := ⟨k - 1, by omega⟩
    simp only [spec_GoodCode.l0]
    rw [if_neg (by omega), List.drop_of_length_le (by omega)]
    have e : decide ((x0.length : Int) ≤ 30) = decide (x0.length ≤ 30) := by congr 1; apply propext; omega
    rw [e]; simp
  | succ m ih =>
    intro k x0 l i h1 hd hk hn
    obtain ⟨k, rfl⟩ : ∃ m, k = m + 1 := ⟨k - 1, by omega⟩
    simp only [spec_GoodCode.l0]
    have wi : wrap64 ((i : Int) + 1) = ((i + 1 : Nat) : Int) := by rw [w64 (by omega) (by omega)]; omega
    rw [if_pos (show (i : Int) < (l.length : Int) by omega), if_pos (show 0 ≤ (i : Int) by omega), if_pos (show (i : Int) < (l.length : Int) by omega), s_good, wi, rdI_drop (l := l) (i := i) (by omega)]
    simp only [Option.bind_some, List.all_cons]
    show (if gI (rd_T68 l (i : Int)) = true then _ else _) = _
    cases h : gI (rd_T68 l (i : Int))
    · simp
    · rw [if_pos rfl, ih k x0 l (i + 1) (by omega) (by omega) (by omega) hn]; simp
theorem s_code (k : Nat) (l : List I) (hk : l.length < k) (hn : l.length ≤ 2000000) : spec_GoodCode.f k l = some (gC l) := by
  unfold spec_GoodCode.f gC
  have h := s_code_loop l.length k l l 0 (by omega) (by omega) hk hn
  rw [List.drop_zero] at h
  exact h
theorem i_index_loop (m : Nat) : ∀ (k : Nat) (l : List I) (i : Nat), i ≤ l.length → l.length - i = m → m + 2 < k → l.length ≤ 2000000 →
    ∃ r, slices_IndexFunc_v81.l0 k l (l.length : Int) (i : Int) = some r ∧ decide (r ≥ 0) = !(l.drop i).all gI := by
  induction m with
  | zero =>
    intro k l i h1 hd hk hn
    obtain ⟨k, rfl⟩ : ∃ m, k = m + 1 := ⟨k - 1, by omega⟩
    simp only [slices_IndexFunc_v81.l0]
    rw [if_neg (by omega), List.drop_of_length_le (by omega)]
    exact ⟨_, rfl, by decide⟩
  | succ m ih =>
    intro k l i h1 hd hk hn
    obtain ⟨k, rfl⟩ : ∃ m, k = m + 1 := ⟨k - 1, by omega⟩
    simp only [slices_IndexFunc_v81.l0]
    have wi : wrap64 ((i : Int) + 1) = ((i + 1 : Nat) : Int) := by rw [w64 (by omega) (by omega)]; omega
    unfold impl_isCode_1.f
    rw [if_pos (show (i : Int) < (l.length : Int) by omega), if_pos (show 0 ≤ (i : Int) by omega), if_pos (show (i : Int) < (l.length : Int) by omega), i_instr k (by omega), wi, rdI_drop (l := l) (i := i) (by omega)]
    simp only [Option.bind_some, List.all_cons]
    show ∃ r, (if (!gI (rd_T68 l (i : Int))) = true then _ else _) = _ ∧ _
    cases h : gI (rd_T68 l (i : Int))
    · exact ⟨(i : Int), by simp, by simp⟩
    · obtain ⟨r, e1, e2⟩ := ih k l (i + 1) (by omega) (by omega) (by omega) hn
      exact ⟨r, by simpa using e1, by simpa using e2⟩
theorem i_code (k : Nat) (l : List I) (hk : l.length + 2 < k) (hn : l.length ≤ 2000000) : impl_isCode.f k l = some (gC l) := by
  unfold impl_isCode.f gC
  by_cases c : l.length ≤ 30
  · rw [if_pos (by omega)]
    unfold slices_ContainsFunc_v81.f slices_IndexFunc_v81.f
    obtain ⟨r, e1, e2⟩ := i_index_loop l.length k l 0 (by omega) (by omega) hk hn
    rw [show ((0 : Nat) : Int) = 0 from rfl] at e1
    rw [List.drop_zero] at e2
    rw [e1]; simp only [Option.bind_some]
    rw [e2]; simp [c]
  · rw [if_neg (by omega)]; simp [c]

/-! The law's own words. -/
theorem sz_code (l : List S71) (left : Int) (h0 : 0 ≤ left) (h1 : left ≤ 1048576) (hl : l.length ≤ 9223372036854775807) : ∃ r, laws_szInstrS.f l left = some r ∧ (r < 0 ∨ (l.length : Int) ≤ left ∧ r = left - l.length) := by
  unfold laws_szInstrS.f
  rw [w64 (by omega) (by omega)]
  by_cases c : left - (l.length : Int) < 0
  · rw [if_pos c]; exact ⟨_, rfl, .inl (by decide)⟩
  · rw [if_neg c]; exact ⟨_, rfl, .inr ⟨by omega, rfl⟩⟩
theorem to_loop (m : Nat) : ∀ (k : Nat) (x : List S71) (y : List I) (i : Nat), i ≤ x.length → x.length - i = m → m < k → x.length ≤ 2000000 → y.length = x.length →
    (∀ j, j < i → y[j]? = (x.map cv)[j]?) → laws_toInstrS.l0 k x y (i : Int) = some (x.map cv) := by
  induction m with
  | zero =>
    intro k x y i h1 hd hk hn hy hat
    obtain ⟨k, rfl⟩ : ∃ m, k = m + 1 := ⟨k - 1, by omega⟩
    simp only [laws_toInstrS.l0]
    rw [if_neg (by omega)]
    congr 1
    apply List.ext_getElem?
    intro j
    by_cases c : j < i
    · exact hat j c
    · rw [List.getElem?_eq_none (by omega), List.getElem?_eq_none (by rw [List.length_map]; omega)]
  | succ m ih =>
    intro k x y i h1 hd hk hn hy hat
    obtain ⟨k, rfl⟩ : ∃ m, k = m + 1 := ⟨k - 1, by omega⟩
    simp only [laws_toInstrS.l0]
    have wi : wrap64 ((i : Int) + 1) = ((i + 1 : Nat) : Int) := by rw [w64 (by omega) (by omega)]; omega
    rw [if_pos (show (i : Int) < (x.length : Int) by omega), if_pos (show 0 ≤ (i : Int) by omega)]
    unfold laws_toInstr.f
    simp only [Option.bind_some]
    rw [if_pos (show (i : Int) < (y.length : Int) by omega), wi]
    apply ih k x _ (i + 1) (by omega) (by omega) (by omega) hn (by simp [hy])
    intro j hj
    rw [Int.toNat_natCast]
    by_cases c : j = i
    · subst c
      rw [List.getElem?_set_self (by omega), List.getElem?_map]
      unfold rd_T71
      rw [Int.toNat_natCast, List.getD_eq_getElem?_getD, List.getElem?_eq_getElem (show j < x.length by omega)]
      rfl
    · rw [List.getElem?_set_ne (by omega)]; exact hat j (by omega)
theorem to_code (k : Nat) (x : List S71) (hk : x.length < k) (hn : x.length ≤ 2000000) : laws_toInstrS.f k x = some (x.map cv) := by
  unfold laws_toInstrS.f
  rw [if_pos (by omega), if_pos (by omega)]
  exact to_loop x.length k x _ 0 (by omega) (by omega) hk hn (by simp) (fun j hj => by omega)
theorem eq_code_loop (m : Nat) : ∀ (k : Nat) (l : List I) (i : Nat), i ≤ l.length → l.length - i = m → m < k → l.length ≤ 2000000 → laws_eqInstrS.l0 k l l (i : Int) = some true := by
  induction m with
  | zero =>
    intro k l i h1 hd hk hn
    obtain ⟨k, rfl⟩ : ∃ m, k = m + 1 := ⟨k - 1, by omega⟩
    simp only [laws_eqInstrS.l0]
    rw [if_neg (by omega)]
  | succ m ih =>
    intro k l i h1 hd hk hn
    obtain ⟨k, rfl⟩ : ∃ m, k = m + 1 := ⟨k - 1, by omega⟩
    have wi : wrap64 ((i : Int) + 1) = ((i + 1 : Nat) : Int) := by rw [w64 (by omega) (by omega)]; omega
    simp only [laws_eqInstrS.l0, laws_eqInstr.f]
    rw [if_pos (show (i : Int) < (l.length : Int) by omega), if_pos (show 0 ≤ (i : Int) by omega), if_pos (show (i : Int) < (l.length : Int) by omega), wi]
    simp only [if_true, Option.bind_some]
    exact ih k l (i + 1) (by omega) (by omega) (by omega) hn
theorem eq_code (k : Nat) (l : List I) (hk : l.length < k) (hn : l.length ≤ 2000000) : laws_eqInstrS.f k l l = some true := by
  unfold laws_eqInstrS.f
  rw [if_pos rfl]; exact eq_code_loop l.length k l 0 (by omega) (by omega) hk hn
/-! Flows: blocks of code and what makes them good. -/
abbrev L := S76
abbrev B := S78
def cb (x : L) : B := ⟨x.f0.map cv, x.f1, x.f2, x.f3⟩
def ib (n v : Int) : Bool := decide (-1 ≤ v ∧ v ≤ wrap64 (n - 1))
def gB (n : Int) (b : B) : Bool := gC b.f0 && (nm b.f1 && (ib n b.f2 && ib n b.f3))
def gF (l : List B) : Bool := l.all (gB (l.length : Int)) && decide (1 ≤ (l.length : Int) ∧ (l.length : Int) ≤ 8)

theorem rdB_drop {l : List B} {i : Nat} (h : i < l.length) : l.drop i = rd_T78 l (i : Int) :: l.drop (i + 1) := by
  rw [List.drop_eq_getElem_cons h]
  unfold rd_T78
  rw [Int.toNat_natCast, List.getD_eq_getElem?_getD, List.getElem?_eq_getElem h]; rfl
theorem rdB_mem {l : List B} {i : Nat} (h : i < l.length) : rd_T78 l (i : Int) ∈ l := by
  unfold rd_T78
  rw [Int.toNat_natCast, List.getD_eq_getElem?_getD, List.getElem?_eq_getElem h]; exact List.getElem_mem h
theorem rdL_mem {l : List L} {i : Nat} (h : i < l.length) : rd_T76 l (i : Int) ∈ l := by
  unfold rd_T76
  rw [Int.toNat_natCast, List.getD_eq_getElem?_getD, List.getElem?_eq_getElem h]; exact List.getElem_mem h

theorem s_flow_loop (m : Nat) : ∀ (k : Nat) (x0 l : List B) (i : Nat), i ≤ l.length → l.length - i = m → m + 1100000 < k → l.length ≤ 1100000 → (∀ b ∈ l, b.f0.length ≤ 1048576) →
    spec_GoodFlow.l0 k x0 l (l.length : Int) (i : Int) = some ((l.drop i).all (gB (x0.length : Int)) && decide (1 ≤ (x0.length : Int) ∧ (x0.length : Int) ≤ 8)) := by
  induction m with
  | zero =>
    intro k x0 l i h1 hd hk hn hb
    obtain ⟨k, rfl⟩ : ∃ m, k = m + 1 := ⟨k - 1, by omega⟩
    simp only [spec_GoodFlow.l0]
    rw [if_neg (by omega), List.drop_of_length_le (by omega), s_in]
    simp
  | succ m ih =>
    intro k x0 l i h1 hd hk hn hb
    obtain ⟨k, rfl⟩ : ∃ m, k = m + 1 := ⟨k - 1, by omega⟩
    simp only [spec_GoodFlow.l0]
    have wi : wrap64 ((i : Int) + 1) = ((i + 1 : Nat) : Int) := by rw [w64 (by omega) (by omega)]; omega
    have hm := hb _ (rdB_mem (l := l) (i := i) (by omega))
    rw [if_pos (show (i : Int) < (l.length : Int) by omega), if_pos (show 0 ≤ (i : Int) by omega), if_pos (show (i : Int) < (l.length : Int) by omega), s_code k _ (by omega) (by omega), s_name, s_in, s_in, wi, rdB_drop (l := l) (i := i) (by omega)]
    simp only [Option.bind_some, List.all_cons]
    have hI := ih k x0 l (i + 1) (by omega) (by omega) (by omega) hn hb
    rw [hI]
    unfold gB
    change (if gC (rd_T78 l (i : Int)).f0 = true then (if nm (rd_T78 l (i : Int)).f1 = true then (if ib (x0.length : Int) (rd_T78 l (i : Int)).f2 = true then (if ib (x0.length : Int) (rd_T78 l (i : Int)).f3 = true then _ else _) else _) else _) else _) = _
    cases gC (rd_T78 l (i : Int)).f0 <;> cases nm (rd_T78 l (i : Int)).f1 <;> cases ib (x0.length : Int) (rd_T78 l (i : Int)).f2 <;> cases ib (x0.length : Int) (rd_T78 l (i : Int)).f3 <;> simp
theorem s_flow (k : Nat) (l : List B) (hk : l.length + 1100000 < k) (hn : l.length ≤ 1100000) (hb : ∀ b ∈ l, b.f0.length ≤ 1048576) : spec_GoodFlow.f k l = some (gF l) := by
  unfold spec_GoodFlow.f gF
  have h := s_flow_loop l.length k l l 0 (by omega) (by omega) hk hn hb
  rw [List.drop_zero] at h
  exact h
theorem i_flow_1 (k : Nat) (n : Int) (l : List I) (a1 a2 a3 : Int) (hk : l.length + 2 < k) (hn : l.length ≤ 2000000) : impl_isFlow_1.f k n l a1 a2 a3 = some (!(gC l && (nm a1 && (ib n a2 && ib n a3)))) := by
  unfold impl_isFlow_1.f
  rw [i_code k l hk hn, i_name, i_in, i_in]
  simp only [Option.bind_some]
  change (if gC l = true then (if nm a1 = true then (if ib n a2 = true then (some (!(ib n a3))) else _) else _) else _) = _
  cases gC l <;> cases nm a1 <;> cases ib n a2 <;> cases ib n a3 <;> rfl
theorem i_flow_loop (m : Nat) : ∀ (k : Nat) (n : Int) (l : List B) (i : Nat), i ≤ l.length → l.length - i = m → m + 1100000 < k → l.length ≤ 1100000 → (∀ b ∈ l, b.f0.length ≤ 1048576) →
    ∃ r, slices_IndexFunc_vF.l0 k n l (i : Int) = some r ∧ decide (r ≥ 0) = !(l.drop i).all (gB n) := by
  induction m with
  | zero =>
    intro k n l i h1 hd hk hn hb
    obtain ⟨k, rfl⟩ : ∃ m, k = m + 1 := ⟨k - 1, by omega⟩
    simp only [slices_IndexFunc_vF.l0]
    rw [if_neg (by omega), List.drop_of_length_le (by omega)]
    exact ⟨_, rfl, by simp⟩
  | succ m ih =>
    intro k n l i h1 hd hk hn hb
    obtain ⟨k, rfl⟩ : ∃ m, k = m + 1 := ⟨k - 1, by omega⟩
    simp only [slices_IndexFunc_vF.l0]
    have wi : wrap64 ((i : Int) + 1) = ((i + 1 : Nat) : Int) := by rw [w64 (by omega) (by omega)]; omega
    have hm := hb _ (rdB_mem (l := l) (i := i) (by omega))
    rw [if_pos (show (i : Int) < (l.length : Int) by omega), if_pos (show 0 ≤ (i : Int) by omega), i_flow_1 k _ _ _ _ _ (by omega) (by omega), wi, rdB_drop (l := l) (i := i) (by omega)]
    simp only [Option.bind_some, List.all_cons]
    change ∃ r, (if (!gB n (rd_T78 l (i : Int))) = true then _ else _) = _ ∧ _
    cases h : gB n (rd_T78 l (i : Int))
    · exact ⟨(i : Int), by simp, by simp⟩
    · obtain ⟨r, e1, e2⟩ := ih k n l (i + 1) (by omega) (by omega) (by omega) hn hb
      exact ⟨r, by simpa using e1, by simpa using e2⟩
theorem i_flow (k : Nat) (l : List B) (hk : l.length + 1100000 < k) (hn : l.length ≤ 1100000) (hb : ∀ b ∈ l, b.f0.length ≤ 1048576) : impl_isFlow.f k l = some (gF l) := by
  unfold impl_isFlow.f gF slices_ContainsFunc_vF.f slices_IndexFunc_vF.f
  obtain ⟨r, e1, e2⟩ := i_flow_loop l.length k (l.length : Int) l 0 (by omega) (by omega) hk hn hb
  rw [show ((0 : Nat) : Int) = 0 from rfl] at e1
  rw [List.drop_zero] at e2
  rw [i_in, e1]; simp only [Option.bind_some]
  rw [e2]
  cases decide (1 ≤ (l.length : Int) ∧ (l.length : Int) ≤ 8) <;> simp

theorem sz_flow_loop (m : Nat) : ∀ (k : Nat) (x : List L) (left : Int) (i : Nat), i ≤ x.length → x.length - i = m → m < k → x.length ≤ 1100000 → 0 ≤ left → left ≤ 1048576 → (∀ b ∈ x, b.f0.length ≤ 9223372036854775807) →
    ∃ r, laws_szBlockS.l0 k x left (i : Int) = some r ∧ (r < 0 ∨ ∀ b ∈ x.drop i, b.f0.length ≤ 1048576) := by
  induction m with
  | zero =>
    intro k x left i h1 hd hk hn h0 hl hb
    obtain ⟨k, rfl⟩ : ∃ m, k = m + 1 := ⟨k - 1, by omega⟩
    simp only [laws_szBlockS.l0]
    rw [if_neg (by omega), List.drop_of_length_le (by omega)]
    exact ⟨_, rfl, .inr (by simp)⟩
  | succ m ih =>
    intro k x left i h1 hd hk hn h0 hl hb
    obtain ⟨k, rfl⟩ : ∃ m, k = m + 1 := ⟨k - 1, by omega⟩
    simp only [laws_szBlockS.l0, laws_szBlock.f]
    have wi : wrap64 ((i : Int) + 1) = ((i + 1 : Nat) : Int) := by rw [w64 (by omega) (by omega)]; omega
    rw [if_pos (show (i : Int) < (x.length : Int) by omega), if_pos (show 0 ≤ (i : Int) by omega), wi]
    obtain ⟨r, e, h⟩ := sz_code (rd_T76 x (i : Int)).f0 left h0 hl (hb _ (rdL_mem (by omega)))
    rw [e]; simp only [Option.bind_some]
    by_cases c : r < 0
    · rw [if_pos c]; simp only [Option.bind_some]
      rw [if_pos (by decide)]; exact ⟨_, rfl, .inl (by decide)⟩
    · rw [if_neg c]; simp only [Option.bind_some]
      rw [if_neg c]
      obtain ⟨q, e2, h2⟩ := ih k x r (i + 1) (by omega) (by omega) (by omega) hn (by omega) (by omega) hb
      refine ⟨q, e2, ?_⟩
      rcases h2 with h2 | h2
      · exact .inl h2
      · refine .inr ?_
        have hd2 : x.drop i = rd_T76 x (i : Int) :: x.drop (i + 1) := by
          rw [List.drop_eq_getElem_cons (show i < x.length by omega)]
          unfold rd_T76
          rw [Int.toNat_natCast, List.getD_eq_getElem?_getD, List.getElem?_eq_getElem (show i < x.length by omega)]; rfl
        rw [hd2]
        intro b hbm
        rcases List.mem_cons.1 hbm with rfl | hbm
        · omega
        · exact h2 b hbm
theorem sz_flow (k : Nat) (x : List L) (hk : 1100000 < k) (hl : x.length ≤ 9223372036854775807) (hb : ∀ b ∈ x, b.f0.length ≤ 9223372036854775807) :
    ∃ r, laws_szBlockS.f k x 1048576 = some r ∧ (r < 0 ∨ (x.length ≤ 1048576 ∧ ∀ b ∈ x, b.f0.length ≤ 1048576)) := by
  unfold laws_szBlockS.f
  rw [w64 (by omega) (by omega)]
  by_cases c : (1048576 : Int) - (x.length : Int) < 0
  · rw [if_pos c]; exact ⟨_, rfl, .inl (by decide)⟩
  · rw [if_neg c]
    obtain ⟨r, e, h⟩ := sz_flow_loop x.length k x (1048576 - (x.length : Int)) 0 (by omega) (by omega) (by omega) (by omega) (by omega) (by omega) hb
    rw [List.drop_zero] at h
    refine ⟨r, e, ?_⟩
    rcases h with h | h
    · exact .inl h
    · exact .inr ⟨by omega, h⟩
theorem to_flow_loop (m : Nat) : ∀ (k : Nat) (x : List L) (y : List B) (i : Nat), i ≤ x.length → x.length - i = m → m + 1100000 < k → x.length ≤ 1100000 → (∀ b ∈ x, b.f0.length ≤ 1048576) → y.length = x.length →
    (∀ j, j < i → y[j]? = (x.map cb)[j]?) → laws_toBlockS.l0 k x y (i : Int) = some (x.map cb) := by
  induction m with
  | zero =>
    intro k x y i h1 hd hk hn hb hy hat
    obtain ⟨k, rfl⟩ : ∃ m, k = m + 1 := ⟨k - 1, by omega⟩
    simp only [laws_toBlockS.l0]
    rw [if_neg (by omega)]
    congr 1
    apply List.ext_getElem?
    intro j
    by_cases c : j < i
    · exact hat j c
    · rw [List.getElem?_eq_none (by omega), List.getElem?_eq_none (by rw [List.length_map]; omega)]
  | succ m ih =>
    intro k x y i h1 hd hk hn hb hy hat
    obtain ⟨k, rfl⟩ : ∃ m, k = m + 1 := ⟨k - 1, by omega⟩
    simp only [laws_toBlockS.l0]
    have wi : wrap64 ((i : Int) + 1) = ((i + 1 : Nat) : Int) := by rw [w64 (by omega) (by omega)]; omega
    have hm := hb _ (rdL_mem (l := x) (i := i) (by omega))
    rw [if_pos (show (i : Int) < (x.length : Int) by omega), if_pos (show 0 ≤ (i : Int) by omega)]
    unfold laws_toBlock.f
    rw [to_code k _ (by omega) (by omega)]
    simp only [Option.bind_some]
    rw [if_pos (show (i : Int) < (y.length : Int) by omega), wi]
    apply ih k x _ (i + 1) (by omega) (by omega) (by omega) hn hb (by simp [hy])
    intro j hj
    rw [Int.toNat_natCast]
    by_cases c : j = i
    · subst c
      rw [List.getElem?_set_self (by omega), List.getElem?_map]
      unfold rd_T76
      rw [Int.toNat_natCast, List.getD_eq_getElem?_getD, List.getElem?_eq_getElem (show j < x.length by omega)]
      rfl
    · rw [List.getElem?_set_ne (by omega)]; exact hat j (by omega)
theorem to_flow (k : Nat) (x : List L) (hk : x.length + 1100000 < k) (hn : x.length ≤ 1100000) (hb : ∀ b ∈ x, b.f0.length ≤ 1048576) : laws_toBlockS.f k x = some (x.map cb) := by
  unfold laws_toBlockS.f
  rw [if_pos (by omega), if_pos (by omega)]
  exact to_flow_loop x.length k x _ 0 (by omega) (by omega) hk hn hb (by simp) (fun j hj => by omega)
theorem eq_flow_loop (m : Nat) : ∀ (k : Nat) (l : List B) (i : Nat), i ≤ l.length → l.length - i = m → m + 1100000 < k → l.length ≤ 1100000 → (∀ b ∈ l, b.f0.length ≤ 1048576) → laws_eqBlockS.l0 k l l (i : Int) = some true := by
  induction m with
  | zero =>
    intro k l i h1 hd hk hn hb
    obtain ⟨k, rfl⟩ : ∃ m, k = m + 1 := ⟨k - 1, by omega⟩
    simp only [laws_eqBlockS.l0]
    rw [if_neg (by omega)]
  | succ m ih =>
    intro k l i h1 hd hk hn hb
    obtain ⟨k, rfl⟩ : ∃ m, k = m + 1 := ⟨k - 1, by omega⟩
    have wi : wrap64 ((i : Int) + 1) = ((i + 1 : Nat) : Int) := by rw [w64 (by omega) (by omega)]; omega
    have hm := hb _ (rdB_mem (l := l) (i := i) (by omega))
    simp only [laws_eqBlockS.l0, laws_eqBlock.f]
    rw [if_pos (show (i : Int) < (l.length : Int) by omega), if_pos (show 0 ≤ (i : Int) by omega), if_pos (show (i : Int) < (l.length : Int) by omega), wi, eq_code k _ (by omega) (by omega)]
    simp only [if_true, Option.bind_some]
    exact ih k l (i + 1) (by omega) (by omega) (by omega) hn hb
theorem eq_flow (k : Nat) (l : List B) (hk : l.length + 1100000 < k) (hn : l.length ≤ 1100000) (hb : ∀ b ∈ l, b.f0.length ≤ 1048576) : laws_eqBlockS.f k l l = some true := by
  unfold laws_eqBlockS.f
  rw [if_pos rfl]; exact eq_flow_loop l.length k l 0 (by omega) (by omega) hk hn hb
theorem cb_len {x : List L} (hb : ∀ b ∈ x, b.f0.length ≤ 1048576) : ∀ b ∈ x.map cb, b.f0.length ≤ 1048576 := by
  intro b h
  obtain ⟨a, ha, rfl⟩ := List.mem_map.1 h
  show (a.f0.map cv).length ≤ _
  rw [List.length_map]; exact hb a ha
end FnExactGoodFlow
open FnExactGoodFlow in
theorem FnExactGoodFlow : laws_FnExactGoodFlow.Pure := by
  intro l hF
  refine ⟨3000000, ?_⟩
  unfold laws_FnExactGoodFlow.f
  obtain ⟨r, e, h⟩ := sz_flow 3000000 l (by omega) hF.1 (fun b hb => (hF.2 b hb).1.1)
  rw [e]; simp only [Option.bind_some]
  by_cases c : r < 0
  · rw [if_pos c]
  · rw [if_neg c]
    obtain ⟨hl, hb⟩ : l.length ≤ 1048576 ∧ ∀ b ∈ l, b.f0.length ≤ 1048576 := by
      rcases h with h | h
      · exact absurd h c
      · exact h
    have hm : (l.map cb).length = l.length := List.length_map ..
    rw [to_flow 3000000 l (by omega) (by omega) hb]; simp only [Option.bind_some]
    unfold impl_GoodFlow.f
    rw [s_flow 3000000 (l.map cb) (by omega) (by omega) (cb_len hb), i_flow 3000000 (l.map cb) (by omega) (by omega) (cb_len hb)]
    simp only [Option.bind_some, bne_self_eq_false, Bool.false_eq_true, if_false]
    rw [eq_flow 3000000 (l.map cb) (by omega) (by omega) (cb_len hb)]; simp

end Go.Proofs.Ytofkfpapnhaheaa.Pure
