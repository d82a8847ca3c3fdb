/- The program's RunFlow returns what the reference's returns, leaves its arguments as they were, and hands back memory of its own: for all flows, words and fuel. No condition. -/
import Derived.Test.YtofkfpapnhaheaaPFnExactRunFlowx12
import Derived.Test.YtofkfpapnhaheaaPlain
namespace Go.Proofs.Ytofkfpapnhaheaa.Pure
open Go.RowKit Go.Proofs.Ytofkfpapnhaheaa.PFnExactRunFlow Go.Proofs.YtofkfpapnhaheaaW.PrintWords Go.Proofs.YtofkfpapnhaheaaW.PrintLast Go.Proofs.Ytofkfpapnhaheaa.Plain

namespace FnExactRunFlow
theorem eq_loop (d : Nat) : ∀ (k : Nat) (xs : List Int) (i : Int), 0 ≤ i → i ≤ xs.length → (xs.length : Int) - i = d → d < k → xs.length ≤ 140737488351232 →
    laws_eqIntS.l0 k xs xs i = some true := by
  induction d with
  | zero =>
    intro k xs i h0 h1 hd hk hn
    obtain ⟨k, rfl⟩ : ∃ m, k = m + 1 := ⟨k - 1, by omega⟩
    simp only [laws_eqIntS.l0]; rw [if_neg (by omega)]
  | succ d ih =>
    intro k xs i h0 h1 hd hk hn
    obtain ⟨k, rfl⟩ : ∃ m, k = m + 1 := ⟨k - 1, by omega⟩
    simp only [laws_eqIntS.l0]
    rw [if_pos (by omega), if_pos h0, if_pos (by omega), if_pos trivial, w64 (by omega) (by omega)]
    exact ih k xs (i + 1) (by omega) (by omega) (by omega) (by omega) hn
theorem eq_self (k : Nat) (xs : List Int) (hk : xs.length < k) (hn : xs.length ≤ 140737488351232) : laws_eqIntS.f k xs xs = some true := by
  unfold laws_eqIntS.f
  rw [if_pos rfl]; exact eq_loop xs.length k xs 0 (by omega) (by omega) (by omega) hk hn

theorem mark_loop (d : Nat) : ∀ (k : Nat) (xs : List Int) (m i : Int), 0 ≤ i → i ≤ xs.length → (xs.length : Int) - i = d → d < k → xs.length ≤ 140737488351232 → -100 ≤ m → m + d ≤ 1407374883512320 →
    ∃ ys : List Int, ys.length = xs.length ∧ laws_markIntS.l0 k xs m i = some (m + d, ys) ∧ (∀ j : Int, 0 ≤ j → j < i → rd ys j = rd xs j) ∧ ∀ j : Int, i ≤ j → j < xs.length → rd ys j = m + (j - i) := by
  induction d with
  | zero =>
    intro k xs m i h0 h1 hd hk hn hm hm2
    obtain ⟨k, rfl⟩ : ∃ m, k = m + 1 := ⟨k - 1, by omega⟩
    refine ⟨xs, rfl, ?_, fun _ _ _ => rfl, fun j h h' => by omega⟩
    simp only [laws_markIntS.l0]; rw [if_neg (by omega)]; simp
  | succ d ih =>
    intro k xs m i h0 h1 hd hk hn hm hm2
    obtain ⟨k, rfl⟩ : ∃ m, k = m + 1 := ⟨k - 1, by omega⟩
    obtain ⟨ys, hl, he, hlo, hhi⟩ := ih k (xs.set i.toNat m) (m + 1) (i + 1) (by omega) (by simp; omega) (by simp; omega) (by omega) (by simp; omega) (by omega) (by omega)
    simp only [List.length_set] at hl hhi
    refine ⟨ys, hl, ?_, ?_, ?_⟩
    · simp only [laws_markIntS.l0]
      rw [if_pos (by omega), if_pos h0, w64 (n := m + 1) (by omega) (by omega), w64 (n := i + 1) (by omega) (by omega), he]
      congr 2; omega
    · intro j j0 j1
      rw [hlo j j0 (by omega)]
      unfold rd
      rw [List.getD_eq_getElem?_getD, List.getD_eq_getElem?_getD, List.getElem?_set_ne (by omega)]
    · intro j j0 j1
      by_cases e : j = i
      · subst e
        rw [hlo j (by omega) (by omega)]
        unfold rd
        rw [List.getD_eq_getElem?_getD, List.getElem?_set_self (by omega)]; simp
      · rw [hhi j (by omega) (by omega)]; omega
theorem marked (k : Nat) (xs : List Int) (m : Int) (hk : xs.length < k) (hn : xs.length ≤ 140737488351232) (h0 : -100 ≤ m) (h1 : m ≤ 703687441776640) :
    ∃ ys : List Int, ys.length = xs.length ∧ laws_markIntS.f k xs m = some (m + xs.length, ys) ∧ ∀ j : Int, 0 ≤ j → j < xs.length → rd ys j = m + j := by
  obtain ⟨ys, hl, he, _, h⟩ := mark_loop xs.length k xs m 0 (by omega) (by omega) (by omega) hk hn h0 (by omega)
  exact ⟨ys, hl, he, fun j j0 j1 => by rw [h j j0 j1]; omega⟩

theorem held_loop (d : Nat) : ∀ (k : Nat) (xs : List Int) (m i : Int), 0 ≤ i → i ≤ xs.length → (xs.length : Int) - i = d → d < k → xs.length ≤ 140737488351232 → -100 ≤ m → m + d ≤ 1407374883512320 →
    (∀ j : Int, i ≤ j → j < xs.length → rd xs j = m + (j - i)) → laws_heldIntS.l0 k xs m i = some (m + d) := by
  induction d with
  | zero =>
    intro k xs m i h0 h1 hd hk hn hm hm2 h
    obtain ⟨k, rfl⟩ : ∃ m, k = m + 1 := ⟨k - 1, by omega⟩
    simp only [laws_heldIntS.l0]; rw [if_neg (by omega)]; simp
  | succ d ih =>
    intro k xs m i h0 h1 hd hk hn hm hm2 h
    obtain ⟨k, rfl⟩ : ∃ m, k = m + 1 := ⟨k - 1, by omega⟩
    simp only [laws_heldIntS.l0]
    rw [if_pos (by omega), if_pos h0, if_pos (by rw [h i (by omega) (by omega)]; omega), w64 (n := m + 1) (by omega) (by omega), w64 (n := i + 1) (by omega) (by omega)]
    rw [ih k xs (m + 1) (i + 1) (by omega) (by omega) (by omega) (by omega) hn (by omega) (by omega) (fun j j0 j1 => by rw [h j (by omega) j1]; omega)]
    congr 1; omega
theorem held (k : Nat) (xs : List Int) (m : Int) (hk : xs.length < k) (hn : xs.length ≤ 140737488351232) (h0 : -100 ≤ m) (h1 : m ≤ 703687441776640)
    (h : ∀ j : Int, 0 ≤ j → j < xs.length → rd xs j = m + j) : laws_heldIntS.f k xs m = some (m + xs.length) :=
  held_loop xs.length k xs m 0 (by omega) (by omega) (by omega) hk hn h0 (by omega) (fun j j0 j1 => by rw [h j j0 j1]; omega)
theorem s_in (a l h : Int) : spec_l1In.f a l h = some (decide (l ≤ a ∧ a ≤ h)) := by
  unfold spec_l1In.f
  by_cases c : a ≥ l
  · rw [if_pos c]; simp [show l ≤ a from c]
  · rw [if_neg c]; simp; omega
theorem i_in (a l h : Int) : impl_in.f a l h = some (decide (l ≤ a ∧ a ≤ h)) := by
  unfold impl_in.f
  by_cases c : a ≥ l
  · rw [if_pos c]; simp [show l ≤ a from c]
  · rw [if_neg c]; simp; omega
/-! Code: steps and what makes them good. -/
abbrev I := S68
def cv (x : S71) : I := ⟨x.f0, x.f1, x.f2, x.f3, x.f4⟩
def nm (v : Int) : Bool := decide (0 ≤ v ∧ v ≤ 7)
def wd (v : Int) : Bool := decide (0 ≤ v ∧ v ≤ 65535)
def gi (o d a b n : Int) : Bool :=
  if o = 1 then nm d && (a == 0 && (b == 0 && wd n)) else if o = 2 then nm d && (nm a && (b == 0 && n == 0)) else if o = 8 then d == 0 && (nm a && (b == 0 && n == 0)) else decide (3 ≤ o ∧ o ≤ 7) && (nm d && (nm a && (nm b && n == 0)))
def gI (x : I) : Bool := gi x.f0 x.f1 x.f2 x.f3 x.f4
def gC (l : List I) : Bool := l.all gI && decide (l.length ≤ 30)

theorem s_name (v : Int) : spec_l3Name.f v = some (nm v) := by unfold spec_l3Name.f nm; rw [s_in]; rfl
theorem s_word (v : Int) : spec_l1Word.f v = some (wd v) := by unfold spec_l1Word.f wd; rw [s_in]; rfl
theorem s_two (v : Int) : spec_l3Two.f v = some (decide (3 ≤ v ∧ v ≤ 7)) := by unfold spec_l3Two.f; rw [s_in]; rfl
theorem i_name (v : Int) : impl_isName.f v = some (nm v) := by unfold impl_isName.f nm; rw [i_in]; rfl
theorem i_word (v : Int) : impl_isWord.f v = some (wd v) := by unfold impl_isWord.f wd; rw [i_in]; rfl
theorem nm0 : nm 0 = true := by decide
theorem wd0 : wd 0 = true := by decide

theorem s_good (o d a b n : Int) : spec_l3Good.f o d a b n = some (gi o d a b n) := by
  unfold spec_l3Good.f gi
  rw [s_name, s_name, s_name, s_word, s_two]; simp only [Option.bind_some]
  by_cases c1 : o = 1
  · rw [if_pos c1, if_pos c1]
    cases nm d
    · rfl
    · by_cases a0 : a = 0 <;> by_cases b0 : b = 0 <;> simp [a0, b0]
  · rw [if_neg c1, if_neg c1]
    by_cases c2 : o = 2
    · rw [if_pos c2, if_pos c2]
      cases nm d <;> cases nm a <;> by_cases b0 : b = 0 <;> simp [b0]
    · rw [if_neg c2, if_neg c2]
      by_cases c8 : o = 8
      · rw [if_pos c8, if_pos c8]
        by_cases d0 : d = 0 <;> cases nm a <;> by_cases b0 : b = 0 <;> simp [b0, d0]
      · rw [if_neg c8, if_neg c8]
        by_cases c3 : 3 ≤ o ∧ o ≤ 7
        · have h : decide (3 ≤ o ∧ o ≤ 7) = true := by simpa using c3
          rw [h]
          cases nm d <;> cases nm a <;> cases nm b <;> simp
        · have h : decide (3 ≤ o ∧ o ≤ 7) = false := by simpa using c3
          rw [h]; simp

theorem i_instr (k : Nat) (hk : 2 ≤ k) (o d a b n : Int) : impl_isInstr.f k o d a b n = some (gi o d a b n) := by
  obtain ⟨k, rfl⟩ : ∃ m, k = m + 2 := ⟨k - 2, by omega⟩
  unfold impl_isInstr.f gi
  rw [i_name, i_name, i_name, i_word]; simp only [Option.bind_some, impl_isInstr.j0, impl_isInstr.j1]
  by_cases c1 : o = 1
  · subst c1
    by_cases a0 : a = 0 <;> by_cases b0 : b = 0 <;> cases nm d <;> cases wd n <;> simp [a0, b0, nm0] <;> (try (cases nm a <;> cases nm b <;> simp))
  · by_cases c2 : o = 2
    · subst c2
      by_cases n0 : n = 0 <;> by_cases b0 : b = 0 <;> cases nm d <;> cases nm a <;> simp [n0, b0, nm0, wd0] <;> (try (cases nm b <;> cases wd n <;> simp))
    · by_cases c8 : o = 8
      · subst c8
        by_cases d0 : d = 0 <;> by_cases n0 : n = 0 <;> by_cases b0 : b = 0 <;> cases nm a <;> simp [d0, n0, b0, nm0, wd0] <;> (try (cases nm b <;> cases wd n <;> cases nm d <;> simp))
      · rw [if_neg c1, if_neg c2, if_neg c8]
        by_cases c3 : 3 ≤ o ∧ o ≤ 7
        · have h : decide (3 ≤ o ∧ o ≤ 7) = true := by simpa using c3
          rw [h]
          have ho : o = 3 ∨ o = 4 ∨ o = 5 ∨ o = 6 ∨ o = 7 := by omega
          by_cases n0 : n = 0
          · subst n0
            rcases ho with rfl | rfl | rfl | rfl | rfl <;> cases nm d <;> cases nm a <;> cases nm b <;> simp [wd0]
          · rcases ho with rfl | rfl | rfl | rfl | rfl <;> cases nm d <;> cases nm a <;> cases nm b <;> cases wd n <;> simp [n0]
        · have h : decide (3 ≤ o ∧ o ≤ 7) = false := by simpa using c3
          rw [h]
          have e3 : ¬ o = 3 := by omega
          have e4 : ¬ o = 4 := by omega
          have e5 : ¬ o = 5 := by omega
          have e6 : ¬ o = 6 := by omega
          have e7 : ¬ o = 7 := by omega
          cases nm d <;> cases nm a <;> cases nm b <;> cases wd n <;> simp [c1, c2, c8, e3, e4, e5, e6, e7]

theorem rdI_drop {l : List I} {i : Nat} (h : i < l.length) : l.drop i = rd_T68 l (i : Int) :: l.drop (i + 1) := by
  rw [List.drop_eq_getElem_cons h]
  unfold rd_T68
  rw [Int.toNat_natCast, List.getD_eq_getElem?_getD, List.getElem?_eq_getElem h]; rfl

theorem s_code_loop (m : Nat) : ∀ (k : Nat) (x0 l : List I) (i : Nat), i ≤ l.length → l.length - i = m → m < k → l.length ≤ 2000000 →
    spec_GoodCode.l0 k x0 l (l.length : Int) (i : Int) = some ((l.drop i).all gI && decide (x0.length ≤ 30)) := by
  induction m with
  | zero =>
    intro k x0 l i h1 hd hk hn
    obtain ⟨k, rfl⟩ : ∃ m, k = m + 1 := ⟨k - 1, by omega⟩
    simp only [spec_GoodCode.l0]
    rw [if_neg (by omega), List.drop_of_length_le (by omega)]
    have e : decide ((x0.length : Int) ≤ 30) = decide (x0.length ≤ 30) := by congr 1; apply propext; omega
    rw [e]; simp
  | succ m ih =>
    intro k x0 l i h1 hd hk hn
    obtain ⟨k, rfl⟩ : ∃ m, k = m + 1 := ⟨k - 1, by omega⟩
    simp only [spec_GoodCode.l0]
    have wi : wrap64 ((i : Int) + 1) = ((i + 1 : Nat) : Int) := by rw [w64 (by omega) (by omega)]; omega
    rw [if_pos (show (i : Int) < (l.length : Int) by omega), if_pos (show 0 ≤ (i : Int) by omega), if_pos (show (i : Int) < (l.length : Int) by omega), s_good, wi, rdI_drop (l := l) (i := i) (by omega)]
    simp only [Option.bind_some, List.all_cons]
    show (if gI (rd_T68 l (i : Int)) = true then _ else _) = _
    cases h : gI (rd_T68 l (i : Int))
    · simp
    · rw [if_pos rfl, ih k x0 l (i + 1) (by omega) (by omega) (by omega) hn]; simp
theorem s_code (k : Nat) (l : List I) (hk : l.length < k) (hn : l.length ≤ 2000000) : spec_GoodCode.f k l = some (gC l) := by
  unfold spec_GoodCode.f gC
  have h := s_code_loop l.length k l l 0 (by omega) (by omega) hk hn
  rw [List.drop_zero] at h
  exact h
theorem i_index_loop (m : Nat) : ∀ (k : Nat) (l : List I) (i : Nat), i ≤ l.length → l.length - i = m → m + 2 < k → l.length ≤ 2000000 →
    ∃ r, slices_IndexFunc_v81.l0 k l (l.length : Int) (i : Int) = some r ∧ decide (r ≥ 0) = !(l.drop i).all gI := by
  induction m with
  | zero =>
    intro k l i h1 hd hk hn
    obtain ⟨k, rfl⟩ : ∃ m, k = m + 1 := ⟨k - 1, by omega⟩
    simp only [slices_IndexFunc_v81.l0]
    rw [if_neg (by omega), List.drop_of_length_le (by omega)]
    exact ⟨_, rfl, by decide⟩
  | succ m ih =>
    intro k l i h1 hd hk hn
    obtain ⟨k, rfl⟩ : ∃ m, k = m + 1 := ⟨k - 1, by omega⟩
    simp only [slices_IndexFunc_v81.l0]
    have wi : wrap64 ((i : Int) + 1) = ((i + 1 : Nat) : Int) := by rw [w64 (by omega) (by omega)]; omega
    unfold impl_isCode_1.f
    rw [if_pos (show (i : Int) < (l.length : Int) by omega), if_pos (show 0 ≤ (i : Int) by omega), if_pos (show (i : Int) < (l.length : Int) by omega), i_instr k (by omega), wi, rdI_drop (l := l) (i := i) (by omega)]
    simp only [Option.bind_some, List.all_cons]
    show ∃ r, (if (!gI (rd_T68 l (i : Int))) = true then _ else _) = _ ∧ _
    cases h : gI (rd_T68 l (i : Int))
    · exact ⟨(i : Int), by simp, by simp⟩
    · obtain ⟨r, e1, e2⟩ := ih k l (i + 1) (by omega) (by omega) (by omega) hn
      exact ⟨r, by simpa using e1, by simpa using e2⟩
theorem i_code (k : Nat) (l : List I) (hk : l.length + 2 < k) (hn : l.length ≤ 2000000) : impl_isCode.f k l = some (gC l) := by
  unfold impl_isCode.f gC
  by_cases c : l.length ≤ 30
  · rw [if_pos (by omega)]
    unfold slices_ContainsFunc_v81.f slices_IndexFunc_v81.f
    obtain ⟨r, e1, e2⟩ := i_index_loop l.length k l 0 (by omega) (by omega) hk hn
    rw [show ((0 : Nat) : Int) = 0 from rfl] at e1
    rw [List.drop_zero] at e2
    rw [e1]; simp only [Option.bind_some]
    rw [e2]; simp [c]
  · rw [if_neg (by omega)]; simp [c]

/-! The law's own words. -/
theorem sz_code (l : List S71) (left : Int) (h0 : 0 ≤ left) (h1 : left ≤ 1048576) (hl : l.length ≤ 9223372036854775807) : ∃ r, laws_szInstrS.f l left = some r ∧ (r < 0 ∨ (l.length : Int) ≤ left ∧ r = left - l.length) := by
  unfold laws_szInstrS.f
  rw [w64 (by omega) (by omega)]
  by_cases c : left - (l.length : Int) < 0
  · rw [if_pos c]; exact ⟨_, rfl, .inl (by decide)⟩
  · rw [if_neg c]; exact ⟨_, rfl, .inr ⟨by omega, rfl⟩⟩
theorem to_loop (m : Nat) : ∀ (k : Nat) (x : List S71) (y : List I) (i : Nat), i ≤ x.length → x.length - i = m → m < k → x.length ≤ 2000000 → y.length = x.length →
    (∀ j, j < i → y[j]? = (x.map cv)[j]?) → laws_toInstrS.l0 k x y (i : Int) = some (x.map cv) := by
  induction m with
  | zero =>
    intro k x y i h1 hd hk hn hy hat
    obtain ⟨k, rfl⟩ : ∃ m, k = m + 1 := ⟨k - 1, by omega⟩
    simp only [laws_toInstrS.l0]
    rw [if_neg (by omega)]
    congr 1
    apply List.ext_getElem?
    intro j
    by_cases c : j < i
    · exact hat j c
    · rw [List.getElem?_eq_none (by omega), List.getElem?_eq_none (by rw [List.length_map]; omega)]
  | succ m ih =>
    intro k x y i h1 hd hk hn hy hat
    obtain ⟨k, rfl⟩ : ∃ m, k = m + 1 := ⟨k - 1, by omega⟩
    simp only [laws_toInstrS.l0]
    have wi : wrap64 ((i : Int) + 1) = ((i + 1 : Nat) : Int) := by rw [w64 (by omega) (by omega)]; omega
    rw [if_pos (show (i : Int) < (x.length : Int) by omega), if_pos (show 0 ≤ (i : Int) by omega)]
    unfold laws_toInstr.f
    simp only [Option.bind_some]
    rw [if_pos (show (i : Int) < (y.length : Int) by omega), wi]
    apply ih k x _ (i + 1) (by omega) (by omega) (by omega) hn (by simp [hy])
    intro j hj
    rw [Int.toNat_natCast]
    by_cases c : j = i
    · subst c
      rw [List.getElem?_set_self (by omega), List.getElem?_map]
      unfold rd_T71
      rw [Int.toNat_natCast, List.getD_eq_getElem?_getD, List.getElem?_eq_getElem (show j < x.length by omega)]
      rfl
    · rw [List.getElem?_set_ne (by omega)]; exact hat j (by omega)
theorem to_code (k : Nat) (x : List S71) (hk : x.length < k) (hn : x.length ≤ 2000000) : laws_toInstrS.f k x = some (x.map cv) := by
  unfold laws_toInstrS.f
  rw [if_pos (by omega), if_pos (by omega)]
  exact to_loop x.length k x _ 0 (by omega) (by omega) hk hn (by simp) (fun j hj => by omega)
theorem eq_code_loop (m : Nat) : ∀ (k : Nat) (l : List I) (i : Nat), i ≤ l.length → l.length - i = m → m < k → l.length ≤ 2000000 → laws_eqInstrS.l0 k l l (i : Int) = some true := by
  induction m with
  | zero =>
    intro k l i h1 hd hk hn
    obtain ⟨k, rfl⟩ : ∃ m, k = m + 1 := ⟨k - 1, by omega⟩
    simp only [laws_eqInstrS.l0]
    rw [if_neg (by omega)]
  | succ m ih =>
    intro k l i h1 hd hk hn
    obtain ⟨k, rfl⟩ : ∃ m, k = m + 1 := ⟨k - 1, by omega⟩
    have wi : wrap64 ((i : Int) + 1) = ((i + 1 : Nat) : Int) := by rw [w64 (by omega) (by omega)]; omega
    simp only [laws_eqInstrS.l0, laws_eqInstr.f]
    rw [if_pos (show (i : Int) < (l.length : Int) by omega), if_pos (show 0 ≤ (i : Int) by omega), if_pos (show (i : Int) < (l.length : Int) by omega), wi]
    simp only [if_true, Option.bind_some]
    exact ih k l (i + 1) (by omega) (by omega) (by omega) hn
theorem eq_code (k : Nat) (l : List I) (hk : l.length < k) (hn : l.length ≤ 2000000) : laws_eqInstrS.f k l l = some true := by
  unfold laws_eqInstrS.f
  rw [if_pos rfl]; exact eq_code_loop l.length k l 0 (by omega) (by omega) hk hn
/-! Flows: blocks of code and what makes them good. -/
abbrev L := S76
abbrev B := S78
def cb (x : L) : B := ⟨x.f0.map cv, x.f1, x.f2, x.f3⟩
def ib (n v : Int) : Bool := decide (-1 ≤ v ∧ v ≤ wrap64 (n - 1))
def gB (n : Int) (b : B) : Bool := gC b.f0 && (nm b.f1 && (ib n b.f2 && ib n b.f3))
def gF (l : List B) : Bool := l.all (gB (l.length : Int)) && decide (1 ≤ (l.length : Int) ∧ (l.length : Int) ≤ 8)

theorem rdB_drop {l : List B} {i : Nat} (h : i < l.length) : l.drop i = rd_T78 l (i : Int) :: l.drop (i + 1) := by
  rw [List.drop_eq_getElem_cons h]
  unfold rd_T78
  rw [Int.toNat_natCast, List.getD_eq_getElem?_getD, List.getElem?_eq_getElem h]; rfl
theorem rdB_mem {l : List B} {i : Nat} (h : i < l.length) : rd_T78 l (i : Int) ∈ l := by
  unfold rd_T78
  rw [Int.toNat_natCast, List.getD_eq_getElem?_getD, List.getElem?_eq_getElem h]; exact List.getElem_mem h
theorem rdL_mem {l : List L} {i : Nat} (h : i < l.length) : rd_T76 l (i : Int) ∈ l := by
  unfold rd_T76
  rw [Int.toNat_natCast, List.getD_eq_getElem?_getD, List.getElem?_eq_getElem h]; exact List.getElem_mem h

theorem s_flow_loop (m : Nat) : ∀ (k : Nat) (x0 l : List B) (i : Nat), i ≤ l.length → l.length - i = m → m + 1100000 < k → l.length ≤ 1100000 → (∀ b ∈ l, b.f0.length ≤ 1048576) →
    spec_GoodFlow.l0 k x0 l (l.length : Int) (i : Int) = some ((l.drop i).all (gB (x0.length : Int)) && decide (1 ≤ (x0.length : Int) ∧ (x0.length : Int) ≤ 8)) := by
  induction m with
  | zero =>
    intro k x0 l i h1 hd hk hn hb
    obtain ⟨k, rfl⟩ : ∃ m, k = m + 1 := ⟨k - 1, by omega⟩
    simp only [spec_GoodFlow.l0]
    rw [if_neg (by omega), List.drop_of_length_le (by omega), s_in]
    simp
  | succ m ih =>
    intro k x0 l i h1 hd hk hn hb
    obtain ⟨k, rfl⟩ : ∃ m, k = m + 1 := ⟨k - 1, by omega⟩
    simp only [spec_GoodFlow.l0]
    have wi : wrap64 ((i : Int) + 1) = ((i + 1 : Nat) : Int) := by rw [w64 (by omega) (by omega)]; omega
    have hm := hb _ (rdB_mem (l := l) (i := i) (by omega))
    rw [if_pos (show (i : Int) < (l.length : Int) by omega), if_pos (show 0 ≤ (i : Int) by omega), if_pos (show (i : Int) < (l.length : Int) by omega), s_code k _ (by omega) (by omega), s_name, s_in, s_in, wi, rdB_drop (l := l) (i := i) (by omega)]
    simp only [Option.bind_some, List.all_cons]
    have hI := ih k x0 l (i + 1) (by omega) (by omega) (by omega) hn hb
    rw [hI]
    unfold gB
    change (if gC (rd_T78 l (i : Int)).f0 = true then (if nm (rd_T78 l (i : Int)).f1 = true then (if ib (x0.length : Int) (rd_T78 l (i : Int)).f2 = true then (if ib (x0.length : Int) (rd_T78 l (i : Int)).f3 = true then _ else _) else _) else _) else _) = _
    cases gC (rd_T78 l (i : Int)).f0 <;> cases nm (rd_T78 l (i : Int)).f1 <;> cases ib (x0.length : Int) (rd_T78 l (i : Int)).f2 <;> cases ib (x0.length : Int) (rd_T78 l (i : Int)).f3 <;> simp
theorem s_flow (k : Nat) (l : List B) (hk : l.length + 1100000 < k) (hn : l.length ≤ 1100000) (hb : ∀ b ∈ l, b.f0.length ≤ 1048576) : spec_GoodFlow.f k l = some (gF l) := by
  unfold spec_GoodFlow.f gF
  have h := s_flow_loop l.length k l l 0 (by omega) (by omega) hk hn hb
  rw [List.drop_zero] at h
  exact h
theorem i_flow_1 (k : Nat) (n : Int) (l : List I) (a1 a2 a3 : Int) (hk : l.length + 2 < k) (hn : l.length ≤ 2000000) : impl_isFlow_1.f k n l a1 a2 a3 = some (!(gC l && (nm a1 && (ib n a2 && ib n a3)))) := by
  unfold impl_isFlow_1.f
  rw [i_code k l hk hn, i_name, i_in, i_in]
  simp only [Option.bind_some]
  change (if gC l = true then (if nm a1 = true then (if ib n a2 = true then (some (!(ib n a3))) else _) else _) else _) = _
  cases gC l <;> cases nm a1 <;> cases ib n a2 <;> cases ib n a3 <;> rfl
theorem i_flow_loop (m : Nat) : ∀ (k : Nat) (n : Int) (l : List B) (i : Nat), i ≤ l.length → l.length - i = m → m + 1100000 < k → l.length ≤ 1100000 → (∀ b ∈ l, b.f0.length ≤ 1048576) →
    ∃ r, slices_IndexFunc_vF.l0 k n l (i : Int) = some r ∧ decide (r ≥ 0) = !(l.drop i).all (gB n) := by
  induction m with
  | zero =>
    intro k n l i h1 hd hk hn hb
    obtain ⟨k, rfl⟩ : ∃ m, k = m + 1 := ⟨k - 1, by omega⟩
    simp only [slices_IndexFunc_vF.l0]
    rw [if_neg (by omega), List.drop_of_length_le (by omega)]
    exact ⟨_, rfl, by simp⟩
  | succ m ih =>
    intro k n l i h1 hd hk hn hb
    obtain ⟨k, rfl⟩ : ∃ m, k = m + 1 := ⟨k - 1, by omega⟩
    simp only [slices_IndexFunc_vF.l0]
    have wi : wrap64 ((i : Int) + 1) = ((i + 1 : Nat) : Int) := by rw [w64 (by omega) (by omega)]; omega
    have hm := hb _ (rdB_mem (l := l) (i := i) (by omega))
    rw [if_pos (show (i : Int) < (l.length : Int) by omega), if_pos (show 0 ≤ (i : Int) by omega), i_flow_1 k _ _ _ _ _ (by omega) (by omega), wi, rdB_drop (l := l) (i := i) (by omega)]
    simp only [Option.bind_some, List.all_cons]
    change ∃ r, (if (!gB n (rd_T78 l (i : Int))) = true then _ else _) = _ ∧ _
    cases h : gB n (rd_T78 l (i : Int))
    · exact ⟨(i : Int), by simp, by simp⟩
    · obtain ⟨r, e1, e2⟩ := ih k n l (i + 1) (by omega) (by omega) (by omega) hn hb
      exact ⟨r, by simpa using e1, by simpa using e2⟩
theorem i_flow (k : Nat) (l : List B) (hk : l.length + 1100000 < k) (hn : l.length ≤ 1100000) (hb : ∀ b ∈ l, b.f0.length ≤ 1048576) : impl_isFlow.f k l = some (gF l) := by
  unfold impl_isFlow.f gF slices_ContainsFunc_vF.f slices_IndexFunc_vF.f
  obtain ⟨r, e1, e2⟩ := i_flow_loop l.length k (l.length : Int) l 0 (by omega) (by omega) hk hn hb
  rw [show ((0 : Nat) : Int) = 0 from rfl] at e1
  rw [List.drop_zero] at e2
  rw [i_in, e1]; simp only [Option.bind_some]
  rw [e2]
  cases decide (1 ≤ (l.length : Int) ∧ (l.length : Int) ≤ 8) <;> simp

theorem sz_flow_loop (m : Nat) : ∀ (k : Nat) (x : List L) (left : Int) (i : Nat), i ≤ x.length → x.length - i = m → m < k → x.length ≤ 1100000 → 0 ≤ left → left ≤ 1048576 → (∀ b ∈ x, b.f0.length ≤ 9223372036854775807) →
    ∃ r, laws_szBlockS.l0 k x left (i : Int) = some r ∧ (r < 0 ∨ ∀ b ∈ x.drop i, b.f0.length ≤ 1048576) := by
  induction m with
  | zero =>
    intro k x left i h1 hd hk hn h0 hl hb
    obtain ⟨k, rfl⟩ : ∃ m, k = m + 1 := ⟨k - 1, by omega⟩
    simp only [laws_szBlockS.l0]
    rw [if_neg (by omega), List.drop_of_length_le (by omega)]
    exact ⟨_, rfl, .inr (by simp)⟩
  | succ m ih =>
    intro k x left i h1 hd hk hn h0 hl hb
    obtain ⟨k, rfl⟩ : ∃ m, k = m + 1 := ⟨k - 1, by omega⟩
    simp only [laws_szBlockS.l0, laws_szBlock.f]
    have wi : wrap64 ((i : Int) + 1) = ((i + 1 : Nat) : Int) := by rw [w64 (by omega) (by omega)]; omega
    rw [if_pos (show (i : Int) < (x.length : Int) by omega), if_pos (show 0 ≤ (i : Int) by omega), wi]
    obtain ⟨r, e, h⟩ := sz_code (rd_T76 x (i : Int)).f0 left h0 hl (hb _ (rdL_mem (by omega)))
    rw [e]; simp only [Option.bind_some]
    by_cases c : r < 0
    · rw [if_pos c]; simp only [Option.bind_some]
      rw [if_pos (by decide)]; exact ⟨_, rfl, .inl (by decide)⟩
    · rw [if_neg c]; simp only [Option.bind_some]
      rw [if_neg c]
      obtain ⟨q, e2, h2⟩ := ih k x r (i + 1) (by omega) (by omega) (by omega) hn (by omega) (by omega) hb
      refine ⟨q, e2, ?_⟩
      rcases h2 with h2 | h2
      · exact .inl h2
      · refine .inr ?_
        have hd2 : x.drop i = rd_T76 x (i : Int) :: x.drop (i + 1) := by
          rw [List.drop_eq_getElem_cons (show i < x.length by omega)]
          unfold rd_T76
          rw [Int.toNat_natCast, List.getD_eq_getElem?_getD, List.getElem?_eq_getElem (show i < x.length by omega)]; rfl
        rw [hd2]
        intro b hbm
        rcases List.mem_cons.1 hbm with rfl | hbm
        · omega
        · exact h2 b hbm
theorem sz_flow (k : Nat) (x : List L) (hk : 1100000 < k) (hl : x.length ≤ 9223372036854775807) (hb : ∀ b ∈ x, b.f0.length ≤ 9223372036854775807) :
    ∃ r, laws_szBlockS.f k x 1048576 = some r ∧ (r < 0 ∨ (x.length ≤ 1048576 ∧ ∀ b ∈ x, b.f0.length ≤ 1048576)) := by
  unfold laws_szBlockS.f
  rw [w64 (by omega) (by omega)]
  by_cases c : (1048576 : Int) - (x.length : Int) < 0
  · rw [if_pos c]; exact ⟨_, rfl, .inl (by decide)⟩
  · rw [if_neg c]
    obtain ⟨r, e, h⟩ := sz_flow_loop x.length k x (1048576 - (x.length : Int)) 0 (by omega) (by omega) (by omega) (by omega) (by omega) (by omega) hb
    rw [List.drop_zero] at h
    refine ⟨r, e, ?_⟩
    rcases h with h | h
    · exact .inl h
    · exact .inr ⟨by omega, h⟩
theorem to_flow_loop (m : Nat) : ∀ (k : Nat) (x : List L) (y : List B) (i : Nat), i ≤ x.length → x.length - i = m → m + 1100000 < k → x.length ≤ 1100000 → (∀ b ∈ x, b.f0.length ≤ 1048576) → y.length = x.length →
    (∀ j, j < i → y[j]? = (x.map cb)[j]?) → laws_toBlockS.l0 k x y (i : Int) = some (x.map cb) := by
  induction m with
  | zero =>
    intro k x y i h1 hd hk hn hb hy hat
    obtain ⟨k, rfl⟩ : ∃ m, k = m + 1 := ⟨k - 1, by omega⟩
    simp only [laws_toBlockS.l0]
    rw [if_neg (by omega)]
    congr 1
    apply List.ext_getElem?
    intro j
    by_cases c : j < i
    · exact hat j c
    · rw [List.getElem?_eq_none (by omega), List.getElem?_eq_none (by rw [List.length_map]; omega)]
  | succ m ih =>
    intro k x y i h1 hd hk hn hb hy hat
    obtain ⟨k, rfl⟩ : ∃ m, k = m + 1 := ⟨k - 1, by omega⟩
    simp only [laws_toBlockS.l0]
    have wi : wrap64 ((i : Int) + 1) = ((i + 1 : Nat) : Int) := by rw [w64 (by omega) (by omega)]; omega
    have hm := hb _ (rdL_mem (l := x) (i := i) (by omega))
    rw [if_pos (show (i : Int) < (x.length : Int) by omega), if_pos (show 0 ≤ (i : Int) by omega)]
    unfold laws_toBlock.f
    rw [to_code k _ (by omega) (by omega)]
    simp only [Option.bind_some]
    rw [if_pos (show (i : Int) < (y.length : Int) by omega), wi]
    apply ih k x _ (i + 1) (by omega) (by omega) (by omega) hn hb (by simp [hy])
    intro j hj
    rw [Int.toNat_natCast]
    by_cases c : j = i
    · subst c
      rw [List.getElem?_set_self (by omega), List.getElem?_map]
      unfold rd_T76
      rw [Int.toNat_natCast, List.getD_eq_getElem?_getD, List.getElem?_eq_getElem (show j < x.length by omega)]
      rfl
    · rw [List.getElem?_set_ne (by omega)]; exact hat j (by omega)
theorem to_flow (k : Nat) (x : List L) (hk : x.length + 1100000 < k) (hn : x.length ≤ 1100000) (hb : ∀ b ∈ x, b.f0.length ≤ 1048576) : laws_toBlockS.f k x = some (x.map cb) := by
  unfold laws_toBlockS.f
  rw [if_pos (by omega), if_pos (by omega)]
  exact to_flow_loop x.length k x _ 0 (by omega) (by omega) hk hn hb (by simp) (fun j hj => by omega)
theorem eq_flow_loop (m : Nat) : ∀ (k : Nat) (l : List B) (i : Nat), i ≤ l.length → l.length - i = m → m + 1100000 < k → l.length ≤ 1100000 → (∀ b ∈ l, b.f0.length ≤ 1048576) → laws_eqBlockS.l0 k l l (i : Int) = some true := by
  induction m with
  | zero =>
    intro k l i h1 hd hk hn hb
    obtain ⟨k, rfl⟩ : ∃ m, k = m + 1 := ⟨k - 1, by omega⟩
    simp only [laws_eqBlockS.l0]
    rw [if_neg (by omega)]
  | succ m ih =>
    intro k l i h1 hd hk hn hb
    obtain ⟨k, rfl⟩ : ∃ m, k = m + 1 := ⟨k - 1, by omega⟩
    have wi : wrap64 ((i : Int) + 1) = ((i + 1 : Nat) : Int) := by rw [w64 (by omega) (by omega)]; omega
    have hm := hb _ (rdB_mem (l := l) (i := i) (by omega))
    simp only [laws_eqBlockS.l0, laws_eqBlock.f]
    rw [if_pos (show (i : Int) < (l.length : Int) by omega), if_pos (show 0 ≤ (i : Int) by omega), if_pos (show (i : Int) < (l.length : Int) by omega), wi, eq_code k _ (by omega) (by omega)]
    simp only [if_true, Option.bind_some]
    exact ih k l (i + 1) (by omega) (by omega) (by omega) hn hb
theorem eq_flow (k : Nat) (l : List B) (hk : l.length + 1100000 < k) (hn : l.length ≤ 1100000) (hb : ∀ b ∈ l, b.f0.length ≤ 1048576) : laws_eqBlockS.f k l l = some true := by
  unfold laws_eqBlockS.f
  rw [if_pos rfl]; exact eq_flow_loop l.length k l 0 (by omega) (by omega) hk hn hb
theorem cb_len {x : List L} (hb : ∀ b ∈ x, b.f0.length ≤ 1048576) : ∀ b ∈ x.map cb, b.f0.length ≤ 1048576 := by
  intro b h
  obtain ⟨a, ha, rfl⟩ := List.mem_map.1 h
  show (a.f0.map cv).length ≤ _
  rw [List.length_map]; exact hb a ha
/-! Code that runs: what both compute. -/
def wV (v : List Int) : Bool := v.all wd && decide (v.length = 8)
def dv (o a b : Int) : Int := if o = 3 then Go.bits .and .i64 (wrap64 (a + b)) 65535 else if o = 4 then Go.bits .and .i64 (wrap64 (a - b)) 65535 else if o = 5 then Go.bits .and .i64 (wrap64 (a * b)) 65535 else if o = 6 then (if a < b then 1 else 0) else (if a = b then 1 else 0)
def stV (x : I) (v : List Int) : List Int := if x.f0 = 8 then v else if x.f0 = 1 then v.set x.f1.toNat x.f4 else if x.f0 = 2 then v.set x.f1.toNat (rd v x.f2) else v.set x.f1.toNat (dv x.f0 (rd v x.f2) (rd v x.f3))
def stT (x : I) (v t : List Int) : List Int := if x.f0 = 8 then t ++ [rd v x.f2] else t
def runL : List I → List Int → List Int → List Int × List Int
  | [], v, t => (t, v)
  | x :: l, v, t => runL l (stV x v) (stT x v t)
theorem stV_len (x : I) (v : List Int) : (stV x v).length = v.length := by
  unfold stV; (repeat' split) <;> simp
theorem stT_len (x : I) (v t : List Int) : (stT x v t).length ≤ t.length + 1 := by
  unfold stT; split <;> simp
theorem runL_len (l : List I) : ∀ v t, (runL l v t).1.length ≤ t.length + l.length ∧ (runL l v t).2.length = v.length := by
  induction l with
  | nil => intro v t; exact ⟨by simp [runL], rfl⟩
  | cons x l ih =>
    intro v t
    have h := ih (stV x v) (stT x v t)
    have h2 := stT_len x v t
    rw [stV_len] at h
    show (runL l (stV x v) (stT x v t)).1.length ≤ _ ∧ (runL l (stV x v) (stT x v t)).2.length = _
    rw [List.length_cons]
    exact ⟨by omega, h.2⟩
theorem s_do (o a b : Int) : spec_l3Do.f o a b = some (dv o a b) := by
  unfold spec_l3Do.f spec_l3Bit.f dv
  by_cases c3 : o = 3
  · rw [if_pos c3, if_pos c3]
  · by_cases c4 : o = 4
    · rw [if_neg c3, if_pos c4, if_neg c3, if_pos c4]
    · by_cases c5 : o = 5
      · rw [if_neg c3, if_neg c4, if_pos c5, if_neg c3, if_neg c4, if_pos c5]
      · by_cases c6 : o = 6
        · rw [if_neg c3, if_neg c4, if_neg c5, if_pos c6, if_neg c3, if_neg c4, if_neg c5, if_pos c6]
          by_cases c : a < b <;> simp [c]
        · rw [if_neg c3, if_neg c4, if_neg c5, if_neg c6, if_neg c3, if_neg c4, if_neg c5, if_neg c6]
          by_cases c : a = b <;> simp [c]
theorem i_do (o a b : Int) (h : 3 ≤ o ∧ o ≤ 7) : impl_reckon.f o a b = some (dv o a b) := by
  unfold impl_reckon.f dv
  have ho : o = 3 ∨ o = 4 ∨ o = 5 ∨ o = 6 ∨ o = 7 := by omega
  rcases ho with rfl | rfl | rfl | rfl | rfl
  · rfl
  · rfl
  · rfl
  · by_cases c : a < b <;> simp [c]
  · by_cases c : a = b <;> simp [c]
/-- What a good step is. -/
theorem good_step {x : I} (h : gI x = true) : (x.f0 = 1 ∧ 0 ≤ x.f1 ∧ x.f1 ≤ 7) ∨ (x.f0 = 2 ∧ 0 ≤ x.f1 ∧ x.f1 ≤ 7 ∧ 0 ≤ x.f2 ∧ x.f2 ≤ 7) ∨ (x.f0 = 8 ∧ 0 ≤ x.f2 ∧ x.f2 ≤ 7) ∨ ((3 ≤ x.f0 ∧ x.f0 ≤ 7) ∧ 0 ≤ x.f1 ∧ x.f1 ≤ 7 ∧ 0 ≤ x.f2 ∧ x.f2 ≤ 7 ∧ 0 ≤ x.f3 ∧ x.f3 ≤ 7) := by
  unfold gI gi nm at h
  by_cases c1 : x.f0 = 1
  · rw [if_pos c1] at h; simp only [Bool.and_eq_true, decide_eq_true_eq] at h; omega
  · by_cases c2 : x.f0 = 2
    · rw [if_neg c1, if_pos c2] at h; simp only [Bool.and_eq_true, decide_eq_true_eq] at h; omega
    · by_cases c8 : x.f0 = 8
      · rw [if_neg c1, if_neg c2, if_pos c8] at h; simp only [Bool.and_eq_true, decide_eq_true_eq] at h; omega
      · rw [if_neg c1, if_neg c2, if_neg c8] at h; simp only [Bool.and_eq_true, decide_eq_true_eq] at h; omega
theorem s_step (k : Nat) (l : List I) (i : Nat) (v t : List Int) (hi : i < l.length) (hn : l.length ≤ 2000000) (hv : v.length = 8) (ht : t.length ≤ 2000000) (hg : gI (rd_T68 l (i : Int)) = true) :
    spec_l3Run.l0 (k + 1) v t l (l.length : Int) (i : Int) = spec_l3Run.l0 k (stV (rd_T68 l (i : Int)) v) (stT (rd_T68 l (i : Int)) v t) l (l.length : Int) ((i + 1 : Nat) : Int) := by
  simp only [spec_l3Run.l0]
  have wi : wrap64 ((i : Int) + 1) = ((i + 1 : Nat) : Int) := by rw [w64 (by omega) (by omega)]; omega
  rw [if_pos (show (i : Int) < (l.length : Int) by omega), if_pos (show 0 ≤ (i : Int) by omega), if_pos (show (i : Int) < (l.length : Int) by omega), wi]
  generalize rd_T68 l (i : Int) = x at *
  unfold stV stT
  rcases good_step hg with ⟨o, h⟩ | ⟨o, h⟩ | ⟨o, h⟩ | ⟨o, h⟩
  · rw [if_pos o, if_pos (by omega), if_pos (by omega)]; simp [o]
  · rw [if_neg (by omega), if_pos o, if_pos (by omega), if_pos (by omega), if_pos (by omega), if_pos (by omega)]; simp [o]
  · rw [if_neg (by omega), if_neg (by omega), if_pos o, if_pos (by omega), if_pos (by omega), if_pos (by omega)]; simp [o]
  · have e1 : ¬ x.f0 = 1 := by omega
    have e2 : ¬ x.f0 = 2 := by omega
    have e8 : ¬ x.f0 = 8 := by omega
    rw [if_neg e1, if_neg e2, if_neg e8, if_pos (by omega), if_pos (by omega), if_pos (by omega), if_pos (by omega), s_do]
    simp only [Option.bind_some]
    rw [if_pos (by omega), if_pos (by omega), if_neg e8, if_neg e1, if_neg e2, if_neg e8]
theorem i_step (k : Nat) (l : List I) (i : Nat) (v t : List Int) (hi : i < l.length) (hn : l.length ≤ 2000000) (hv : v.length = 8) (ht : t.length ≤ 2000000) (hg : gI (rd_T68 l (i : Int)) = true) :
    impl_RunCode.l0 (k + 1) v t l (l.length : Int) (i : Int) = impl_RunCode.l0 k (stV (rd_T68 l (i : Int)) v) (stT (rd_T68 l (i : Int)) v t) l (l.length : Int) ((i + 1 : Nat) : Int) := by
  simp only [impl_RunCode.l0]
  have wi : wrap64 ((i : Int) + 1) = ((i + 1 : Nat) : Int) := by rw [w64 (by omega) (by omega)]; omega
  rw [if_pos (show (i : Int) < (l.length : Int) by omega), if_pos (show 0 ≤ (i : Int) by omega), if_pos (show (i : Int) < (l.length : Int) by omega), wi]
  generalize rd_T68 l (i : Int) = x at *
  unfold stV stT
  rcases good_step hg with ⟨o, h⟩ | ⟨o, h⟩ | ⟨o, h⟩ | ⟨o, h⟩
  · rw [if_neg (by omega), if_pos o, if_pos (by omega), if_pos (by omega)]; simp [o]
  · rw [if_neg (by omega), if_neg (by omega), if_pos o, if_pos (by omega), if_pos (by omega), if_pos (by omega), if_pos (by omega)]; simp [o]
  · rw [if_pos o, if_pos (by omega), if_pos (by omega), if_pos (by omega)]; simp [o]
  · have e1 : ¬ x.f0 = 1 := by omega
    have e2 : ¬ x.f0 = 2 := by omega
    have e8 : ¬ x.f0 = 8 := by omega
    rw [if_neg e8, if_neg e1, if_neg e2, if_pos (by omega), if_pos (by omega), if_pos (by omega), if_pos (by omega), i_do _ _ _ o]
    simp only [Option.bind_some]
    rw [if_pos (by omega), if_pos (by omega), if_neg e8, if_neg e1, if_neg e2, if_neg e8]
theorem s_run_loop (m : Nat) : ∀ (k : Nat) (l : List I) (i : Nat) (v t : List Int), i ≤ l.length → l.length - i = m → m < k → l.length ≤ 1000000 → v.length = 8 → t.length ≤ 900000 + i → (l.drop i).all gI = true →
    spec_l3Run.l0 k v t l (l.length : Int) (i : Int) = some (runL (l.drop i) v t) := by
  induction m with
  | zero =>
    intro k l i v t h1 hd hk hn hv ht hg
    obtain ⟨k, rfl⟩ : ∃ m, k = m + 1 := ⟨k - 1, by omega⟩
    simp only [spec_l3Run.l0]
    rw [if_neg (by omega), List.drop_of_length_le (by omega)]; rfl
  | succ m ih =>
    intro k l i v t h1 hd hk hn hv ht hg
    obtain ⟨k, rfl⟩ : ∃ m, k = m + 1 := ⟨k - 1, by omega⟩
    rw [rdI_drop (l := l) (i := i) (by omega), List.all_cons, Bool.and_eq_true] at hg
    have h2 := stT_len (rd_T68 l (i : Int)) v t
    rw [s_step k l i v t (by omega) (by omega) hv (by omega) hg.1, rdI_drop (l := l) (i := i) (by omega)]
    exact ih k l (i + 1) _ _ (by omega) (by omega) (by omega) hn (by rw [stV_len]; exact hv) (by omega) hg.2
theorem i_run_loop (m : Nat) : ∀ (k : Nat) (l : List I) (i : Nat) (v t : List Int), i ≤ l.length → l.length - i = m → m < k → l.length ≤ 1000000 → v.length = 8 → t.length ≤ 900000 + i → (l.drop i).all gI = true →
    impl_RunCode.l0 k v t l (l.length : Int) (i : Int) = some ((runL (l.drop i) v t).1, (runL (l.drop i) v t).2, true) := by
  induction m with
  | zero =>
    intro k l i v t h1 hd hk hn hv ht hg
    obtain ⟨k, rfl⟩ : ∃ m, k = m + 1 := ⟨k - 1, by omega⟩
    simp only [impl_RunCode.l0]
    rw [if_neg (by omega), List.drop_of_length_le (by omega)]; rfl
  | succ m ih =>
    intro k l i v t h1 hd hk hn hv ht hg
    obtain ⟨k, rfl⟩ : ∃ m, k = m + 1 := ⟨k - 1, by omega⟩
    rw [rdI_drop (l := l) (i := i) (by omega), List.all_cons, Bool.and_eq_true] at hg
    have h2 := stT_len (rd_T68 l (i : Int)) v t
    rw [i_step k l i v t (by omega) (by omega) hv (by omega) hg.1, rdI_drop (l := l) (i := i) (by omega)]
    exact ih k l (i + 1) _ _ (by omega) (by omega) (by omega) hn (by rw [stV_len]; exact hv) (by omega) hg.2
theorem rd_drop {l : List Int} {i : Nat} (h : i < l.length) : l.drop i = rd l (i : Int) :: l.drop (i + 1) := by
  rw [List.drop_eq_getElem_cons h]
  unfold rd
  rw [Int.toNat_natCast, List.getD_eq_getElem?_getD, List.getElem?_eq_getElem h]; rfl
theorem s_words_loop (m : Nat) : ∀ (k : Nat) (x0 l : List Int) (i : Nat), i ≤ l.length → l.length - i = m → m < k → l.length ≤ 2000000 →
    spec_l3Words.l0 k x0 l (l.length : Int) (i : Int) = some ((l.drop i).all wd && decide (x0.length = 8)) := by
  induction m with
  | zero =>
    intro k x0 l i h1 hd hk hn
    obtain ⟨k, rfl⟩ : ∃ m, k = m + 1 := ⟨k - 1, by omega⟩
    simp only [spec_l3Words.l0]
    rw [if_neg (by omega), List.drop_of_length_le (by omega)]
    by_cases c : x0.length = 8
    · simp [c]
    · have c' : ¬ (x0.length : Int) = 8 := by omega
      simp [c, c']
  | succ m ih =>
    intro k x0 l i h1 hd hk hn
    obtain ⟨k, rfl⟩ : ∃ m, k = m + 1 := ⟨k - 1, by omega⟩
    simp only [spec_l3Words.l0]
    have wi : wrap64 ((i : Int) + 1) = ((i + 1 : Nat) : Int) := by rw [w64 (by omega) (by omega)]; omega
    rw [if_pos (show (i : Int) < (l.length : Int) by omega), if_pos (show 0 ≤ (i : Int) by omega), if_pos (show (i : Int) < (l.length : Int) by omega), s_word, wi, rd_drop (l := l) (i := i) (by omega)]
    simp only [Option.bind_some, List.all_cons]
    cases h : wd (rd l (i : Int))
    · simp
    · rw [if_pos rfl, ih k x0 l (i + 1) (by omega) (by omega) (by omega) hn]; simp
theorem s_words (k : Nat) (l : List Int) (hk : l.length < k) (hn : l.length ≤ 2000000) : spec_l3Words.f k l = some (wV l) := by
  unfold spec_l3Words.f wV
  have h := s_words_loop l.length k l l 0 (by omega) (by omega) hk hn
  rw [List.drop_zero] at h
  exact h
theorem i_words_loop (m : Nat) : ∀ (k : Nat) (l : List Int) (i : Nat), i ≤ l.length → l.length - i = m → m < k → l.length ≤ 2000000 →
    ∃ r, slices_IndexFunc_v64.l0 k l (l.length : Int) (i : Int) = some r ∧ decide (r ≥ 0) = !(l.drop i).all wd := by
  induction m with
  | zero =>
    intro k l i h1 hd hk hn
    obtain ⟨k, rfl⟩ : ∃ m, k = m + 1 := ⟨k - 1, by omega⟩
    simp only [slices_IndexFunc_v64.l0]
    rw [if_neg (by omega), List.drop_of_length_le (by omega)]
    exact ⟨_, rfl, by decide⟩
  | succ m ih =>
    intro k l i h1 hd hk hn
    obtain ⟨k, rfl⟩ : ∃ m, k = m + 1 := ⟨k - 1, by omega⟩
    simp only [slices_IndexFunc_v64.l0]
    have wi : wrap64 ((i : Int) + 1) = ((i + 1 : Nat) : Int) := by rw [w64 (by omega) (by omega)]; omega
    unfold impl_RunCode_1.f
    rw [if_pos (show (i : Int) < (l.length : Int) by omega), if_pos (show 0 ≤ (i : Int) by omega), if_pos (show (i : Int) < (l.length : Int) by omega), i_word, wi, rd_drop (l := l) (i := i) (by omega)]
    simp only [Option.bind_some, List.all_cons]
    cases h : wd (rd l (i : Int))
    · exact ⟨(i : Int), by simp, by simp⟩
    · obtain ⟨r, e1, e2⟩ := ih k l (i + 1) (by omega) (by omega) (by omega) hn
      exact ⟨r, by simpa using e1, by simpa using e2⟩
theorem i_words (k : Nat) (l : List Int) (hk : l.length < k) (hn : l.length ≤ 2000000) : slices_ContainsFunc_v64.f k l = some (!l.all wd) := by
  unfold slices_ContainsFunc_v64.f slices_IndexFunc_v64.f
  obtain ⟨r, e1, e2⟩ := i_words_loop l.length k l 0 (by omega) (by omega) hk hn
  rw [show ((0 : Nat) : Int) = 0 from rfl] at e1
  rw [List.drop_zero] at e2
  rw [e1]; simp only [Option.bind_some]
  rw [e2]
def res (l : List I) (v : List Int) : List Int × List Int × Bool := if gC l = true then (if wV v = true then ((runL l v []).1, (runL l v []).2, true) else ([], [], false)) else ([], [], false)
theorem gC_len {l : List I} (h : gC l = true) : l.all gI = true ∧ l.length ≤ 30 := by
  unfold gC at h; rw [Bool.and_eq_true, decide_eq_true_eq] at h; exact h
theorem wV_len {v : List Int} (h : wV v = true) : v.all wd = true ∧ v.length = 8 := by
  unfold wV at h; rw [Bool.and_eq_true, decide_eq_true_eq] at h; exact h
theorem res_len (l : List I) (v : List Int) : (res l v).1.length ≤ 30 ∧ (res l v).2.1.length ≤ 8 := by
  unfold res
  by_cases c : gC l = true
  · rw [if_pos c]
    by_cases d : wV v = true
    · rw [if_pos d]
      have h := runL_len l v []
      have h2 := (gC_len c).2
      have h3 := (wV_len d).2
      simp only [List.length_nil] at h
      exact ⟨by show (runL l v []).1.length ≤ 30; omega, by show (runL l v []).2.length ≤ 8; omega⟩
    · rw [if_neg d]; simp
  · rw [if_neg c]; simp
theorem i_res (k : Nat) (l : List I) (v : List Int) (hk : 1500000 < k) (hl : l.length ≤ 1048576) (hv : v.length ≤ 1048576) : impl_RunCode.f k l v = some (res l v) := by
  obtain ⟨k, rfl⟩ : ∃ m, k = m + 1 := ⟨k - 1, by omega⟩
  unfold impl_RunCode.f res
  rw [i_code (k + 1) l (by omega) (by omega), i_words (k + 1) v (by omega) (by omega)]
  simp only [Option.bind_some, impl_RunCode.j0, List.length_nil, List.nil_append]
  by_cases c : gC l = true
  · rw [if_pos c, if_pos c]
    by_cases e : (v.length : Int) = 8
    · rw [if_pos e]
      cases a : v.all wd
      · rw [if_pos (show (!false) = true from rfl), if_neg (by unfold wV; rw [a]; simp)]
      · rw [if_neg (show ¬ (!true) = true by decide), if_pos (show wV v = true by unfold wV; rw [a]; simp; omega), if_pos (by omega)]
        have h := i_run_loop l.length k l 0 v [] (by omega) (by omega) (by omega) (by have := (gC_len c).2; omega) (by omega) (by simp) (by rw [List.drop_zero]; exact (gC_len c).1)
        rw [List.drop_zero] at h
        rw [show ((0 : Nat) : Int) = 0 from rfl] at h
        exact h
    · rw [if_neg e, if_pos trivial, if_neg (by intro d; have := (wV_len d).2; omega)]
  · rw [if_neg c, if_pos trivial, if_neg c]
theorem marki_loop (m : Nat) : ∀ (k : Nat) (x : List I) (a : Int) (i : Nat), i ≤ x.length → x.length - i = m → m < k → x.length ≤ 2000000 → 0 ≤ a → a ≤ 1000000000000000 + 5 * i →
    ∃ y, laws_markInstrS.l0 k x a (i : Int) = some (a + 5 * m, y) := by
  induction m with
  | zero =>
    intro k x a i h1 hd hk hn h0 h2
    obtain ⟨k, rfl⟩ : ∃ m, k = m + 1 := ⟨k - 1, by omega⟩
    simp only [laws_markInstrS.l0]
    rw [if_neg (by omega)]
    exact ⟨x, by simp⟩
  | succ m ih =>
    intro k x a i h1 hd hk hn h0 h2
    obtain ⟨k, rfl⟩ : ∃ m, k = m + 1 := ⟨k - 1, by omega⟩
    simp only [laws_markInstrS.l0, Option.bind_some]
    have wi : wrap64 ((i : Int) + 1) = ((i + 1 : Nat) : Int) := by rw [w64 (by omega) (by omega)]; omega
    have e1 : wrap64 (a + 1) = a + 1 := w64 (by omega) (by omega)
    have e2 : wrap64 (a + 1 + 1) = a + 2 := by rw [w64 (by omega) (by omega)]; omega
    have e3 : wrap64 (a + 2 + 1) = a + 3 := by rw [w64 (by omega) (by omega)]; omega
    have e4 : wrap64 (a + 3 + 1) = a + 4 := by rw [w64 (by omega) (by omega)]; omega
    have e5 : wrap64 (a + 4 + 1) = a + 5 := by rw [w64 (by omega) (by omega)]; omega
    rw [if_pos (show (i : Int) < (x.length : Int) by omega), if_pos (show 0 ≤ (i : Int) by omega), wi, e1, e2, e3, e4, e5]
    generalize hy : List.set _ _ _ = y
    have hl : y.length = x.length := by rw [← hy]; simp
    obtain ⟨z, e⟩ := ih k y (a + 5) (i + 1) (by omega) (by omega) (by omega) (by omega) (by omega) (by omega)
    exact ⟨z, by rw [e]; congr 2; omega⟩
theorem marki (k : Nat) (x : List I) (a : Int) (hk : x.length < k) (hn : x.length ≤ 2000000) (h0 : 0 ≤ a) (h1 : a ≤ 1000000000000000) : ∃ y, laws_markInstrS.f k x a = some (a + 5 * x.length, y) :=
  marki_loop x.length k x a 0 (by omega) (by omega) hk hn h0 (by omega)
/-! Flows that run: what both compute. -/
theorem bits_wd (n : Int) : wd (Go.bits .and .i64 n 65535) = true := by
  unfold wd; rw [and65535]; simp; omega
theorem dv_wd (o a b : Int) : wd (dv o a b) = true := by
  unfold dv
  (repeat' split) <;> first | exact bits_wd _ | decide
theorem rd_wd {v : List Int} (h : v.all wd = true) (i : Int) : wd (rd v i) = true := by
  unfold rd
  rw [List.getD_eq_getElem?_getD]
  cases e : v[i.toNat]? with
  | none => decide
  | some y => exact List.all_eq_true.1 h y (List.mem_of_getElem? e)
theorem set_wd {v : List Int} (h : v.all wd = true) (i : Nat) {y : Int} (hy : wd y = true) : (v.set i y).all wd = true := by
  rw [List.all_eq_true] at h ⊢
  intro z hz
  rcases List.mem_or_eq_of_mem_set hz with hz | rfl
  · exact h z hz
  · exact hy
theorem gI_word {x : I} (h : gI x = true) (h1 : x.f0 = 1) : wd x.f4 = true := by
  unfold gI gi at h
  rw [if_pos h1] at h
  simp only [Bool.and_eq_true] at h
  exact h.2.2.2
theorem stV_wd {x : I} {v : List Int} (hx : gI x = true) (h : v.all wd = true) : (stV x v).all wd = true := by
  unfold stV
  by_cases c8 : x.f0 = 8
  · rw [if_pos c8]; exact h
  · rw [if_neg c8]
    by_cases c1 : x.f0 = 1
    · rw [if_pos c1]; exact set_wd h _ (gI_word hx c1)
    · rw [if_neg c1]
      by_cases c2 : x.f0 = 2
      · rw [if_pos c2]; exact set_wd h _ (rd_wd h _)
      · rw [if_neg c2]; exact set_wd h _ (dv_wd _ _ _)
theorem runL_wd (l : List I) : ∀ v t, l.all gI = true → v.all wd = true → (runL l v t).2.all wd = true := by
  induction l with
  | nil => intro v t _ h; exact h
  | cons x l ih =>
    intro v t hl h
    rw [List.all_cons, Bool.and_eq_true] at hl
    exact ih (stV x v) (stT x v t) hl.2 (stV_wd hl.1 h)
theorem stT_app (x : I) (v t : List Int) : stT x v t = t ++ stT x v [] := by
  unfold stT; split <;> simp
theorem runL_app (l : List I) : ∀ v t, runL l v t = (t ++ (runL l v []).1, (runL l v []).2) := by
  induction l with
  | nil => intro v t; simp [runL]
  | cons x l ih =>
    intro v t
    show runL l (stV x v) (stT x v t) = (t ++ (runL l (stV x v) (stT x v [])).1, (runL l (stV x v) (stT x v [])).2)
    rw [ih (stV x v) (stT x v t), ih (stV x v) (stT x v []), stT_app x v t, List.append_assoc]
def flowR : Nat → List B → Int → List Int → List Int → List Int → Int → List Int × List Int × List Int × Bool
  | 0, _, _, v, s, p, _ => (s, v, p, false)
  | d + 1, f, fuel, v, s, p, at_ => if at_ ≥ 0 then (if (p.length : Int) = fuel then (s, v, p, false) else flowR d f fuel (runL (rd_T78 f at_).f0 v s).2 (runL (rd_T78 f at_).f0 v s).1 (p ++ [at_]) (if rd (runL (rd_T78 f at_).f0 v s).2 (rd_T78 f at_).f1 = 0 then (rd_T78 f at_).f3 else (rd_T78 f at_).f2)) else (s, v, p, true)
/-- What a good block is. -/
theorem good_block {n : Int} {b : B} (hn : 1 ≤ n ∧ n ≤ 8) (h : gB n b = true) : gC b.f0 = true ∧ (0 ≤ b.f1 ∧ b.f1 ≤ 7) ∧ (-1 ≤ b.f2 ∧ b.f2 ≤ n - 1) ∧ (-1 ≤ b.f3 ∧ b.f3 ≤ n - 1) := by
  unfold gB nm ib at h
  rw [w64 (by omega) (by omega)] at h
  simp only [Bool.and_eq_true, decide_eq_true_eq] at h
  exact h
theorem gF_good {f : List B} (h : gF f = true) : f.all (gB (f.length : Int)) = true ∧ 1 ≤ (f.length : Int) ∧ (f.length : Int) ≤ 8 := by
  unfold gF at h
  simp only [Bool.and_eq_true, decide_eq_true_eq] at h
  exact h
theorem at_block {f : List B} (h : gF f = true) {a : Int} (h0 : 0 ≤ a) (h1 : a < (f.length : Int)) : gC (rd_T78 f a).f0 = true ∧ (0 ≤ (rd_T78 f a).f1 ∧ (rd_T78 f a).f1 ≤ 7) ∧ (-1 ≤ (rd_T78 f a).f2 ∧ (rd_T78 f a).f2 ≤ (f.length : Int) - 1) ∧ (-1 ≤ (rd_T78 f a).f3 ∧ (rd_T78 f a).f3 ≤ (f.length : Int) - 1) := by
  have hg := gF_good h
  have hm := rdB_mem (l := f) (i := a.toNat) (by omega)
  rw [Int.toNat_of_nonneg h0] at hm
  exact good_block hg.2 (List.all_eq_true.1 hg.1 _ hm)
theorem s_l3 (k : Nat) (l : List I) (v t : List Int) (hk : 100 < k) (hg : gC l = true) (hv : v.length = 8) (ht : t.length ≤ 900000) : spec_l3Run.f k l v t = some (runL l v t) := by
  have hl := gC_len hg
  have h := s_run_loop l.length k l 0 v t (by omega) (by omega) (by omega) (by omega) hv (by omega) (by rw [List.drop_zero]; exact hl.1)
  rw [List.drop_zero] at h
  unfold spec_l3Run.f
  rw [show ((0 : Nat) : Int) = 0 from rfl] at h
  exact h
theorem s_fr (m : Nat) : ∀ (k : Nat) (f : List B) (fuel : Int) (v s p : List Int) (a : Int), fuel = (p.length : Int) + m → m + 2000000 < k → gF f = true → p.length + m ≤ 300 → v.length = 8 → s.length ≤ 30 * p.length → -1 ≤ a → a < (f.length : Int) →
    spec_l5Run.l0 k f fuel v s p a = some (flowR (m + 1) f fuel v s p a) := by
  induction m with
  | zero =>
    intro k f fuel v s p a hm hk hg hp hv hs h0 h1
    obtain ⟨k, rfl⟩ : ∃ m, k = m + 1 := ⟨k - 1, by omega⟩
    simp only [spec_l5Run.l0, flowR]
    by_cases c : a ≥ 0
    · rw [if_pos c, if_pos c, if_pos (by omega), if_pos (by omega)]
    · rw [if_neg c, if_neg c]
  | succ m ih =>
    intro k f fuel v s p a hm hk hg hp hv hs h0 h1
    obtain ⟨k, rfl⟩ : ∃ m, k = m + 1 := ⟨k - 1, by omega⟩
    rw [flowR]
    simp only [spec_l5Run.l0]
    by_cases c : a ≥ 0
    · have hb := at_block hg c h1
      have hr := runL_len (rd_T78 f a).f0 v s
      have hl := (gC_len hb.1).2
      have hne : ¬ (p.length : Int) = fuel := by omega
      rw [if_pos c, if_pos c, if_neg hne, if_neg hne, if_pos (show p.length < 17592186044416 by omega)]
      simp only [Option.bind_some]
      rw [if_pos (by omega), if_pos (by omega), s_l3 k _ v s (by omega) hb.1 hv (by omega)]
      simp only [Option.bind_some]
      rw [if_pos (by omega), if_pos (by omega)]
      generalize runL (rd_T78 f a).f0 v s = q at hr ⊢
      by_cases z : rd q.2 (rd_T78 f a).f1 = 0
      · rw [if_pos z, if_pos z]
        exact ih k f fuel q.2 q.1 (p ++ [a]) _ (by simp; omega) (by omega) hg (by simp; omega) (by omega) (by simp; omega) hb.2.2.2.1 (by omega)
      · rw [if_neg z, if_neg z]
        exact ih k f fuel q.2 q.1 (p ++ [a]) _ (by simp; omega) (by omega) hg (by simp; omega) (by omega) (by simp; omega) hb.2.2.1.1 (by omega)
    · rw [if_neg c, if_neg c]
theorem i_fr (m : Nat) : ∀ (k : Nat) (f : List B) (fuel : Int) (v s p : List Int) (a : Int), fuel = (p.length : Int) + m → m + 2000000 < k → gF f = true → p.length + m ≤ 300 → wV v = true → s.length ≤ 30 * p.length → -1 ≤ a → a < (f.length : Int) →
    impl_runFlow.l0 k f v fuel s p a = some (flowR (m + 1) f fuel v s p a) := by
  induction m with
  | zero =>
    intro k f fuel v s p a hm hk hg hp hv hs h0 h1
    obtain ⟨k, rfl⟩ : ∃ m, k = m + 1 := ⟨k - 1, by omega⟩
    have hv8 := (wV_len hv).2
    simp only [impl_runFlow.l0, flowR]
    by_cases c : a ≥ 0
    · rw [if_pos c, if_pos c, if_pos (by omega), if_pos (by omega)]
    · rw [if_neg c, if_neg c]
      simp only [Option.bind_some, List.length_nil, List.nil_append]
      rw [if_pos (by omega)]
  | succ m ih =>
    intro k f fuel v s p a hm hk hg hp hv hs h0 h1
    obtain ⟨k, rfl⟩ : ∃ m, k = m + 1 := ⟨k - 1, by omega⟩
    have hv8 := (wV_len hv).2
    rw [flowR]
    simp only [impl_runFlow.l0]
    by_cases c : a ≥ 0
    · have hb := at_block hg c h1
      have hr := runL_len (rd_T78 f a).f0 v []
      have hl := (gC_len hb.1).2
      have hw := runL_wd (rd_T78 f a).f0 v [] (gC_len hb.1).1 (wV_len hv).1
      rw [List.length_nil] at hr
      have hne : ¬ (p.length : Int) = fuel := by omega
      rw [if_pos c, if_pos c, if_neg hne, if_neg hne, if_pos (show p.length < 17592186044416 by omega)]
      simp only [Option.bind_some]
      rw [if_pos (by omega), if_pos (by omega), i_res k _ v (by omega) (by omega) (by omega)]
      have er : res (rd_T78 f a).f0 v = ((runL (rd_T78 f a).f0 v []).1, (runL (rd_T78 f a).f0 v []).2, true) := by unfold res; rw [if_pos hb.1, if_pos hv]
      rw [er, runL_app _ v s]
      simp only [Option.bind_some]
      generalize runL (rd_T78 f a).f0 v [] = q at hr hw ⊢
      rw [if_pos (by omega), if_pos (by omega), if_pos (by omega)]
      have hv2 : wV q.2 = true := by unfold wV; rw [hw]; simp; omega
      by_cases z : rd q.2 (rd_T78 f a).f1 = 0
      · rw [if_pos z, if_pos z]
        exact ih k f fuel q.2 (s ++ q.1) (p ++ [a]) _ (by simp; omega) (by omega) hg (by simp; omega) hv2 (by simp; omega) hb.2.2.2.1 (by omega)
      · rw [if_neg z, if_neg z]
        exact ih k f fuel q.2 (s ++ q.1) (p ++ [a]) _ (by simp; omega) (by omega) hg (by simp; omega) hv2 (by simp; omega) hb.2.2.1.1 (by omega)
    · rw [if_neg c, if_neg c]
      simp only [Option.bind_some, List.length_nil, List.nil_append]
      rw [if_pos (by omega)]
/-- What runs, whole: bounds. -/
theorem flowR_len (d : Nat) : ∀ (f : List B) (fuel : Int) (v s p : List Int) (a : Int), gF f = true → a < (f.length : Int) → (flowR d f fuel v s p a).1.length ≤ s.length + 30 * d ∧ (flowR d f fuel v s p a).2.1.length = v.length ∧ (flowR d f fuel v s p a).2.2.1.length ≤ p.length + d := by
  induction d with
  | zero => intro f fuel v s p a _ _; simp [flowR]
  | succ d ih =>
    intro f fuel v s p a hg h1
    rw [flowR]
    by_cases c : a ≥ 0
    · rw [if_pos c]
      by_cases e : (p.length : Int) = fuel
      · rw [if_pos e]; exact ⟨by show s.length ≤ _; omega, rfl, by show p.length ≤ _; omega⟩
      · rw [if_neg e]
        have hb := at_block hg c h1
        have hr := runL_len (rd_T78 f a).f0 v s
        have hl := (gC_len hb.1).2
        generalize runL (rd_T78 f a).f0 v s = q at hr ⊢
        have hnext : (if rd q.2 (rd_T78 f a).f1 = 0 then (rd_T78 f a).f3 else (rd_T78 f a).f2) < (f.length : Int) := by split <;> omega
        have h := ih f fuel q.2 q.1 (p ++ [a]) _ hg hnext
        have hp : (p ++ [a]).length = p.length + 1 := by simp
        rw [hp] at h
        exact ⟨by omega, by omega, by omega⟩
    · rw [if_neg c]; exact ⟨by show s.length ≤ _; omega, rfl, by show p.length ≤ _; omega⟩
def okFlow (f : List B) (v : List Int) (fuel : Int) : Bool := gF f && (wV v && decide (0 ≤ fuel ∧ fuel ≤ 300))
def whole (f : List B) (v : List Int) (fuel : Int) : List Int × List Int × List Int × Bool := flowR (fuel.toNat + 1) f fuel v [] [] 0
theorem s_whole (k : Nat) (f : List B) (v : List Int) (fuel : Int) (hk : 2500000 < k) (hg : gF f = true) (hv : wV v = true) (h0 : 0 ≤ fuel) (h1 : fuel ≤ 300) : spec_l5Run.f k f v fuel = some (whole f v fuel) := by
  unfold spec_l5Run.f whole
  have hv8 := (wV_len hv).2
  simp only [Option.bind_some, List.length_nil, List.nil_append]
  rw [if_pos (by omega)]
  exact s_fr fuel.toNat k f fuel v [] [] 0 (by simp; omega) (by omega) hg (by simp; omega) hv8 (by simp) (by omega) (by have := (gF_good hg).2; omega)
theorem i_whole (k : Nat) (f : List B) (v : List Int) (fuel : Int) (hk : 2500000 < k) (hg : gF f = true) (hv : wV v = true) (h0 : 0 ≤ fuel) (h1 : fuel ≤ 300) : impl_runFlow.f k f v fuel = some (whole f v fuel) := by
  unfold impl_runFlow.f whole
  exact i_fr fuel.toNat k f fuel v [] [] 0 (by simp; omega) (by omega) hg (by simp; omega) hv (by simp) (by omega) (by have := (gF_good hg).2; omega)
theorem whole_len (f : List B) (v : List Int) (fuel : Int) (hg : gF f = true) (h1 : fuel ≤ 300) : (whole f v fuel).1.length ≤ 10000 ∧ (whole f v fuel).2.1.length = v.length ∧ (whole f v fuel).2.2.1.length ≤ 301 := by
  have h := flowR_len (fuel.toNat + 1) f fuel v [] [] 0 hg (by have := (gF_good hg).2; omega)
  unfold whole
  simp only [List.length_nil] at h
  exact ⟨by omega, h.2.1, by omega⟩
theorem i_areWords_loop (m : Nat) : ∀ (k : Nat) (l : List Int) (i : Nat), i ≤ l.length → l.length - i = m → m < k → l.length ≤ 2000000 →
    ∃ r, slices_IndexFunc_v94.l0 k l (l.length : Int) (i : Int) = some r ∧ decide (r ≥ 0) = !(l.drop i).all wd := by
  induction m with
  | zero =>
    intro k l i h1 hd hk hn
    obtain ⟨k, rfl⟩ : ∃ m, k = m + 1 := ⟨k - 1, by omega⟩
    simp only [slices_IndexFunc_v94.l0]
    rw [if_neg (by omega), List.drop_of_length_le (by omega)]
    exact ⟨_, rfl, by decide⟩
  | succ m ih =>
    intro k l i h1 hd hk hn
    obtain ⟨k, rfl⟩ : ∃ m, k = m + 1 := ⟨k - 1, by omega⟩
    simp only [slices_IndexFunc_v94.l0]
    have wi : wrap64 ((i : Int) + 1) = ((i + 1 : Nat) : Int) := by rw [w64 (by omega) (by omega)]; omega
    unfold impl_areWords_1.f
    rw [if_pos (show (i : Int) < (l.length : Int) by omega), if_pos (show 0 ≤ (i : Int) by omega), if_pos (show (i : Int) < (l.length : Int) by omega), i_word, wi, rd_drop (l := l) (i := i) (by omega)]
    simp only [Option.bind_some, List.all_cons]
    cases h : wd (rd l (i : Int))
    · exact ⟨(i : Int), by simp, by simp⟩
    · obtain ⟨r, e1, e2⟩ := ih k l (i + 1) (by omega) (by omega) (by omega) hn
      exact ⟨r, by simpa using e1, by simpa using e2⟩
theorem i_areWords (k : Nat) (l : List Int) (hk : l.length < k) (hn : l.length ≤ 2000000) : impl_areWords.f k l = some (wV l) := by
  unfold impl_areWords.f wV
  by_cases c : l.length = 8
  · rw [if_pos (by omega)]
    unfold slices_ContainsFunc_v94.f slices_IndexFunc_v94.f
    obtain ⟨r, e1, e2⟩ := i_areWords_loop l.length k l 0 (by omega) (by omega) hk hn
    rw [show ((0 : Nat) : Int) = 0 from rfl] at e1
    rw [List.drop_zero] at e2
    rw [e1]; simp only [Option.bind_some]
    rw [e2]; simp [c]
  · rw [if_neg (by omega)]; simp [c]
theorem markb_loop (m : Nat) : ∀ (k : Nat) (x : List B) (a : Int) (i : Nat), i ≤ x.length → x.length - i = m → m + 1100000 < k → x.length ≤ 1100000 → 0 ≤ a → a ≤ 6000000 * i + 1 → (∀ j : Nat, i ≤ j → j < x.length → (rd_T78 x (j : Int)).f0.length ≤ 1048576) →
    ∃ r y, laws_markBlockS.l0 k x a (i : Int) = some (r, y) ∧ 0 ≤ r ∧ r ≤ 6000000 * x.length + 1 := by
  induction m with
  | zero =>
    intro k x a i h1 hd hk hn h0 h2 hb
    obtain ⟨k, rfl⟩ : ∃ m, k = m + 1 := ⟨k - 1, by omega⟩
    simp only [laws_markBlockS.l0]
    rw [if_neg (by omega)]
    exact ⟨a, x, rfl, h0, by omega⟩
  | succ m ih =>
    intro k x a i h1 hd hk hn h0 h2 hb
    obtain ⟨k, rfl⟩ : ∃ m, k = m + 1 := ⟨k - 1, by omega⟩
    simp only [laws_markBlockS.l0]
    have wi : wrap64 ((i : Int) + 1) = ((i + 1 : Nat) : Int) := by rw [w64 (by omega) (by omega)]; omega
    have hbi := hb i (by omega) (by omega)
    obtain ⟨y, e⟩ := marki k (rd_T78 x (i : Int)).f0 a (by omega) (by omega) h0 (by omega)
    rw [if_pos (show (i : Int) < (x.length : Int) by omega), if_pos (show 0 ≤ (i : Int) by omega), e, wi]
    simp only [Option.bind_some]
    have e1 : wrap64 (wrap64 (wrap64 (a + 5 * ((rd_T78 x (i : Int)).f0.length : Int) + 1) + 1) + 1) = a + 5 * ((rd_T78 x (i : Int)).f0.length : Int) + 3 := by
      rw [w64 (n := a + 5 * ((rd_T78 x (i : Int)).f0.length : Int) + 1) (by omega) (by omega), w64 (n := a + 5 * ((rd_T78 x (i : Int)).f0.length : Int) + 1 + 1) (by omega) (by omega), w64 (by omega) (by omega)]; omega
    rw [e1]
    generalize hz : List.set x _ _ = z
    have hl : z.length = x.length := by rw [← hz]; simp
    obtain ⟨r, y2, e2, r0, r1⟩ := ih k z (a + 5 * ((rd_T78 x (i : Int)).f0.length : Int) + 3) (i + 1) (by omega) (by omega) (by omega) (by omega) (by omega) (by omega) (fun j h3 h4 => by
      have h5 := hb j (by omega) (by omega)
      rw [← hz]
      unfold rd_T78 at h5 ⊢
      rw [List.getD_eq_getElem?_getD] at h5 ⊢
      rw [Int.toNat_natCast] at h5 ⊢
      rw [Int.toNat_natCast, List.getElem?_set_ne (by omega)]
      exact h5)
    exact ⟨r, y2, e2, r0, by omega⟩
theorem markb (k : Nat) (x : List B) (hk : x.length + 1100000 < k) (hn : x.length ≤ 1100000) (hb : ∀ b ∈ x, b.f0.length ≤ 1048576) : ∃ r y, laws_markBlockS.f k x 1 = some (r, y) ∧ 0 ≤ r ∧ r ≤ 6000000 * x.length + 1 :=
  markb_loop x.length k x 1 0 (by omega) (by omega) hk hn (by omega) (by omega) (fun j _ h4 => hb _ (rdB_mem h4))
theorem toint_loop (m : Nat) : ∀ (k : Nat) (x y : List Int) (i : Nat), i ≤ x.length → x.length - i = m → m < k → x.length ≤ 2000000 → y.length = x.length →
    (∀ j, j < i → y[j]? = x[j]?) → laws_toIntS.l0 k x y (i : Int) = some x := by
  induction m with
  | zero =>
    intro k x y i h1 hd hk hn hy hat
    obtain ⟨k, rfl⟩ : ∃ m, k = m + 1 := ⟨k - 1, by omega⟩
    simp only [laws_toIntS.l0]
    rw [if_neg (by omega)]
    congr 1
    apply List.ext_getElem?
    intro j
    by_cases c : j < i
    · exact hat j c
    · rw [List.getElem?_eq_none (by omega), List.getElem?_eq_none (by omega)]
  | succ m ih =>
    intro k x y i h1 hd hk hn hy hat
    obtain ⟨k, rfl⟩ : ∃ m, k = m + 1 := ⟨k - 1, by omega⟩
    simp only [laws_toIntS.l0]
    have wi : wrap64 ((i : Int) + 1) = ((i + 1 : Nat) : Int) := by rw [w64 (by omega) (by omega)]; omega
    rw [if_pos (show (i : Int) < (x.length : Int) by omega), if_pos (show 0 ≤ (i : Int) by omega), if_pos (show (i : Int) < (y.length : Int) by omega), wi]
    apply ih k x _ (i + 1) (by omega) (by omega) (by omega) hn (by simp [hy])
    intro j hj
    rw [Int.toNat_natCast]
    by_cases c : j = i
    · subst c
      rw [List.getElem?_set_self (by omega)]
      unfold rd
      rw [Int.toNat_natCast, List.getD_eq_getElem?_getD, List.getElem?_eq_getElem (show j < x.length by omega)]
      rfl
    · rw [List.getElem?_set_ne (by omega)]; exact hat j (by omega)
theorem to_int (k : Nat) (x : List Int) (hk : x.length < k) (hn : x.length ≤ 2000000) : laws_toIntS.f k x = some x := by
  unfold laws_toIntS.f
  rw [if_pos (by omega), if_pos (by omega)]
  exact toint_loop x.length k x _ 0 (by omega) (by omega) hk hn (by simp) (fun j hj => by omega)
def nil4 : List Int × List Int × Int × Bool := ([], [], 0, false)
def resW (f : List B) (v : List Int) (fuel : Int) : List Int × List Int × Int × Bool := if gF f = true then (if wV v = true then (if decide (0 ≤ fuel ∧ fuel ≤ 300) = true then (if (whole f v fuel).2.2.2 = true then ((whole f v fuel).1, (whole f v fuel).2.1, ((whole f v fuel).2.2.1.length : Int), true) else nil4) else nil4) else nil4) else nil4
theorem resW_len (f : List B) (v : List Int) (fuel : Int) : (resW f v fuel).1.length ≤ 10000 ∧ (resW f v fuel).2.1.length ≤ 8 := by
  unfold resW
  by_cases a : gF f = true
  · rw [if_pos a]
    by_cases b : wV v = true
    · rw [if_pos b]
      by_cases c : decide (0 ≤ fuel ∧ fuel ≤ 300) = true
      · rw [if_pos c]
        have h := whole_len f v fuel a (of_decide_eq_true c).2
        have h8 := (wV_len b).2
        by_cases d : (whole f v fuel).2.2.2 = true
        · rw [if_pos d]; exact ⟨h.1, by show (whole f v fuel).2.1.length ≤ 8; omega⟩
        · rw [if_neg d]; simp [nil4]
      · rw [if_neg c]; simp [nil4]
    · rw [if_neg b]; simp [nil4]
  · rw [if_neg a]; simp [nil4]
theorem s_resW (k : Nat) (f : List B) (v : List Int) (fuel : Int) (hk : 2500001 < k) (hf : f.length ≤ 1100000) (hb : ∀ b ∈ f, b.f0.length ≤ 1048576) (hv : v.length ≤ 1100000) : spec_RunFlow.f k f v fuel = some (resW f v fuel) := by
  obtain ⟨k, rfl⟩ : ∃ m, k = m + 1 := ⟨k - 1, by omega⟩
  unfold spec_RunFlow.f resW
  rw [s_flow (k + 1) f (by omega) hf hb, s_words (k + 1) v (by omega) (by omega), s_in]
  simp only [Option.bind_some, spec_RunFlow.j0]
  by_cases a : gF f = true
  · rw [if_pos a, if_pos a]
    by_cases b : wV v = true
    · rw [if_pos b, if_pos b]
      cases c : decide (0 ≤ fuel ∧ fuel ≤ 300)
      · rw [if_pos (show (!false) = true from rfl), if_neg (by decide)]; rfl
      · have c' := of_decide_eq_true c
        rw [if_neg (show ¬ (!true) = true by decide), if_pos rfl, s_whole k f v fuel (by omega) a b c'.1 c'.2]
        simp only [Option.bind_some]
        by_cases d : (whole f v fuel).2.2.2 = true
        · rw [if_pos d, if_pos d]
        · rw [if_neg d, if_neg d]; rfl
    · rw [if_neg b, if_neg b, if_pos trivial]; rfl
  · rw [if_neg a, if_neg a, if_pos trivial]; rfl
theorem i_resW (k : Nat) (f : List B) (v : List Int) (fuel : Int) (hk : 2500001 < k) (hf : f.length ≤ 1100000) (hb : ∀ b ∈ f, b.f0.length ≤ 1048576) (hv : v.length ≤ 1100000) : impl_RunFlow.f k f v fuel = some (resW f v fuel) := by
  obtain ⟨k, rfl⟩ : ∃ m, k = m + 1 := ⟨k - 1, by omega⟩
  unfold impl_RunFlow.f resW
  rw [i_flow (k + 1) f (by omega) hf hb, i_areWords (k + 1) v (by omega) (by omega), i_in]
  simp only [Option.bind_some, impl_RunFlow.j0]
  by_cases a : gF f = true
  · rw [if_pos a, if_pos a]
    by_cases b : wV v = true
    · rw [if_pos b, if_pos b]
      cases c : decide (0 ≤ fuel ∧ fuel ≤ 300)
      · rw [if_pos (show (!false) = true from rfl), if_neg (by decide)]; rfl
      · have c' := of_decide_eq_true c
        rw [if_neg (show ¬ (!true) = true by decide), if_pos rfl, i_whole k f v fuel (by omega) a b c'.1 c'.2]
        simp only [Option.bind_some]
        by_cases d : (whole f v fuel).2.2.2 = true
        · rw [if_pos d, if_pos d]
        · rw [if_neg d, if_neg d]; rfl
    · rw [if_neg b, if_neg b, if_pos trivial]; rfl
  · rw [if_neg a, if_neg a, if_pos trivial]; rfl
end FnExactRunFlow
open FnExactRunFlow in
theorem FnExactRunFlow : laws_FnExactRunFlow.Pure := by
  intro l v fuel hF hV _
  obtain ⟨k, hk⟩ : ∃ k : Nat, k = 3000000 := ⟨_, rfl⟩
  refine ⟨k + 3, ?_⟩
  unfold laws_FnExactRunFlow.f
  by_cases cv' : (v.length : Int) > 1048576
  · rw [if_pos cv']
  · rw [if_neg cv']
    obtain ⟨r, e, h⟩ := sz_flow (k + 3) l (by omega) hF.1 (fun b hb => (hF.2 b hb).1.1)
    rw [e]; simp only [Option.bind_some]
    by_cases c : r < 0
    · rw [if_pos c]
    · rw [if_neg c]
      obtain ⟨hl, hb⟩ : l.length ≤ 1048576 ∧ ∀ b ∈ l, b.f0.length ≤ 1048576 := by
        rcases h with h | h
        · exact absurd h c
        · exact h
      have hv : v.length ≤ 1048576 := by omega
      have hm : (l.map cb).length = l.length := List.length_map ..
      have hlen := resW_len (l.map cb) v fuel
      rw [to_flow (k + 3) l (by omega) (by omega) hb, to_int (k + 3) v (by omega) (by omega)]; simp only [Option.bind_some]
      rw [s_resW (k + 3) (l.map cb) v fuel (by omega) (by omega) (cb_len hb) (by omega), i_resW (k + 3) (l.map cb) v fuel (by omega) (by omega) (cb_len hb) (by omega)]; simp only [Option.bind_some]
      rw [eq_self (k + 3) _ (by omega) (by omega), eq_self (k + 3) _ (by omega) (by omega)]
      simp only [Option.bind_some, if_true, bne_self_eq_false]
      simp only [laws_FnExactRunFlow.j0, Bool.false_eq_true, if_false]
      rw [to_flow (k + 2) l (by omega) (by omega) hb, to_int (k + 2) v (by omega) (by omega)]; simp only [Option.bind_some]
      rw [eq_flow (k + 2) (l.map cb) (by omega) (by omega) (cb_len hb)]; simp only [Option.bind_some, if_true]
      rw [eq_self (k + 2) v (by omega) (by omega)]; simp only [Option.bind_some, if_true]
      obtain ⟨r1, y1, m1, p1, p2⟩ := markb (k + 2) (l.map cb) (by omega) (by omega) (cb_len hb)
      rw [m1]; simp only [Option.bind_some]
      obtain ⟨y2, _, m2, _⟩ := marked (k + 2) v r1 (by omega) (by omega) (by omega) (by omega)
      rw [m2]; simp only [Option.bind_some]
      rw [if_neg (by omega), eq_self (k + 2) _ (by omega) (by omega), eq_self (k + 2) _ (by omega) (by omega)]
      simp only [Option.bind_some, if_true, bne_self_eq_false]
      simp only [laws_FnExactRunFlow.j1, Bool.false_eq_true, if_false]
      obtain ⟨g1, gl1, ge1, gh1⟩ := marked (k + 1) (resW (l.map cb) v fuel).1 1 (by omega) (by omega) (by omega) (by omega)
      rw [ge1]; simp only [Option.bind_some]
      obtain ⟨g2, gl2, ge2, gh2⟩ := marked (k + 1) (resW (l.map cb) v fuel).2.1 (1 + (resW (l.map cb) v fuel).1.length) (by omega) (by omega) (by omega) (by omega)
      rw [ge2]; simp only [Option.bind_some]
      rw [held (k + 1) g1 1 (by omega) (by omega) (by omega) (by omega) (fun j j0 j1 => gh1 j j0 (by omega))]; simp only [Option.bind_some]
      rw [if_neg (by omega), gl1, held (k + 1) g2 _ (by omega) (by omega) (by omega) (by omega) (fun j j0 j1 => gh2 j j0 (by omega))]; simp only [Option.bind_some]
      rw [if_neg (by omega), gl2, if_pos rfl, to_flow (k + 1) l (by omega) (by omega) hb, to_int (k + 1) v (by omega) (by omega)]; simp only [Option.bind_some]
      rw [i_resW (k + 1) (l.map cb) v fuel (by omega) (by omega) (cb_len hb) (by omega)]; simp only [Option.bind_some]
      rw [eq_self (k + 1) _ (by omega) (by omega), eq_self (k + 1) _ (by omega) (by omega)]
      simp only [Option.bind_some, if_true, bne_self_eq_false]
      simp only [laws_FnExactRunFlow.j2, Bool.false_eq_true, if_false]
      rw [held k g1 1 (by omega) (by omega) (by omega) (by omega) (fun j j0 j1 => gh1 j j0 (by omega))]; simp only [Option.bind_some]
      rw [if_neg (by omega), gl1, held k g2 _ (by omega) (by omega) (by omega) (by omega) (fun j j0 j1 => gh2 j j0 (by omega))]; simp only [Option.bind_some]
      rw [if_neg (by omega), gl2, if_pos rfl]

end Go.Proofs.Ytofkfpapnhaheaa.Pure
