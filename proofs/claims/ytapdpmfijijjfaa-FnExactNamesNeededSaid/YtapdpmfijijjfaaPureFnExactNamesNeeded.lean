/- The program's NamesNeeded returns what the reference's returns, leaves its argument as it was, and hands back memory of its own: for all code. No condition. -/
import Derived.Test.YtapdpmfijijjfaaPFnExactNamesNeededx6
import Derived.Test.YtapdpmfijijjfaaPlain
namespace Go.Proofs.Ytapdpmfijijjfaa.Pure
open Go Go.RowKit Go.Proofs.Ytapdpmfijijjfaa.PFnExactNamesNeeded Go.Proofs.YtapdpmfijijjfaaW.PrintWords Go.Proofs.YtapdpmfijijjfaaW.PrintLast Go.Proofs.Ytapdpmfijijjfaa.Plain

namespace FnExactNamesNeeded
theorem eq_loop (d : Nat) : ∀ (k : Nat) (xs : List Int) (i : Int), 0 ≤ i → i ≤ xs.length → (xs.length : Int) - i = d → d < k → xs.length ≤ 140737488351232 →
    laws_eqIntS.l0 k xs xs i = some true := by
  induction d with
  | zero =>
    intro k xs i h0 h1 hd hk hn
    obtain ⟨k, rfl⟩ : ∃ m, k = m + 1 := ⟨k - 1, by omega⟩
    simp only [laws_eqIntS.l0]; rw [if_neg (by omega)]
  | succ d ih =>
    intro k xs i h0 h1 hd hk hn
    obtain ⟨k, rfl⟩ : ∃ m, k = m + 1 := ⟨k - 1, by omega⟩
    simp only [laws_eqIntS.l0]
    rw [if_pos (by omega), if_pos h0, if_pos (by omega), if_pos trivial, w64 (by omega) (by omega)]
    exact ih k xs (i + 1) (by omega) (by omega) (by omega) (by omega) hn
theorem eq_self (k : Nat) (xs : List Int) (hk : xs.length < k) (hn : xs.length ≤ 140737488351232) : laws_eqIntS.f k xs xs = some true := by
  unfold laws_eqIntS.f
  rw [if_pos rfl]; exact eq_loop xs.length k xs 0 (by omega) (by omega) (by omega) hk hn

theorem mark_loop (d : Nat) : ∀ (k : Nat) (xs : List Int) (m i : Int), 0 ≤ i → i ≤ xs.length → (xs.length : Int) - i = d → d < k → xs.length ≤ 140737488351232 → -100 ≤ m → m + d ≤ 1407374883512320 →
    ∃ ys : List Int, ys.length = xs.length ∧ laws_markIntS.l0 k xs m i = some (m + d, ys) ∧ (∀ j : Int, 0 ≤ j → j < i → rd ys j = rd xs j) ∧ ∀ j : Int, i ≤ j → j < xs.length → rd ys j = m + (j - i) := by
  induction d with
  | zero =>
    intro k xs m i h0 h1 hd hk hn hm hm2
    obtain ⟨k, rfl⟩ : ∃ m, k = m + 1 := ⟨k - 1, by omega⟩
    refine ⟨xs, rfl, ?_, fun _ _ _ => rfl, fun j h h' => by omega⟩
    simp only [laws_markIntS.l0]; rw [if_neg (by omega)]; simp
  | succ d ih =>
    intro k xs m i h0 h1 hd hk hn hm hm2
    obtain ⟨k, rfl⟩ : ∃ m, k = m + 1 := ⟨k - 1, by omega⟩
    obtain ⟨ys, hl, he, hlo, hhi⟩ := ih k (xs.set i.toNat m) (m + 1) (i + 1) (by omega) (by simp; omega) (by simp; omega) (by omega) (by simp; omega) (by omega) (by omega)
    simp only [List.length_set] at hl hhi
    refine ⟨ys, hl, ?_, ?_, ?_⟩
    · simp only [laws_markIntS.l0]
      rw [if_pos (by omega), if_pos h0, w64 (n := m + 1) (by omega) (by omega), w64 (n := i + 1) (by omega) (by omega), he]
      congr 2; omega
    · intro j j0 j1
      rw [hlo j j0 (by omega)]
      unfold rd
      rw [List.getD_eq_getElem?_getD, List.getD_eq_getElem?_getD, List.getElem?_set_ne (by omega)]
    · intro j j0 j1
      by_cases e : j = i
      · subst e
        rw [hlo j (by omega) (by omega)]
        unfold rd
        rw [List.getD_eq_getElem?_getD, List.getElem?_set_self (by omega)]; simp
      · rw [hhi j (by omega) (by omega)]; omega
theorem marked (k : Nat) (xs : List Int) (m : Int) (hk : xs.length < k) (hn : xs.length ≤ 140737488351232) (h0 : -100 ≤ m) (h1 : m ≤ 703687441776640) :
    ∃ ys : List Int, ys.length = xs.length ∧ laws_markIntS.f k xs m = some (m + xs.length, ys) ∧ ∀ j : Int, 0 ≤ j → j < xs.length → rd ys j = m + j := by
  obtain ⟨ys, hl, he, _, h⟩ := mark_loop xs.length k xs m 0 (by omega) (by omega) (by omega) hk hn h0 (by omega)
  exact ⟨ys, hl, he, fun j j0 j1 => by rw [h j j0 j1]; omega⟩

theorem held_loop (d : Nat) : ∀ (k : Nat) (xs : List Int) (m i : Int), 0 ≤ i → i ≤ xs.length → (xs.length : Int) - i = d → d < k → xs.length ≤ 140737488351232 → -100 ≤ m → m + d ≤ 1407374883512320 →
    (∀ j : Int, i ≤ j → j < xs.length → rd xs j = m + (j - i)) → laws_heldIntS.l0 k xs m i = some (m + d) := by
  induction d with
  | zero =>
    intro k xs m i h0 h1 hd hk hn hm hm2 h
    obtain ⟨k, rfl⟩ : ∃ m, k = m + 1 := ⟨k - 1, by omega⟩
    simp only [laws_heldIntS.l0]; rw [if_neg (by omega)]; simp
  | succ d ih =>
    intro k xs m i h0 h1 hd hk hn hm hm2 h
    obtain ⟨k, rfl⟩ : ∃ m, k = m + 1 := ⟨k - 1, by omega⟩
    simp only [laws_heldIntS.l0]
    rw [if_pos (by omega), if_pos h0, if_pos (by rw [h i (by omega) (by omega)]; omega), w64 (n := m + 1) (by omega) (by omega), w64 (n := i + 1) (by omega) (by omega)]
    rw [ih k xs (m + 1) (i + 1) (by omega) (by omega) (by omega) (by omega) hn (by omega) (by omega) (fun j j0 j1 => by rw [h j (by omega) j1]; omega)]
    congr 1; omega
theorem held (k : Nat) (xs : List Int) (m : Int) (hk : xs.length < k) (hn : xs.length ≤ 140737488351232) (h0 : -100 ≤ m) (h1 : m ≤ 703687441776640)
    (h : ∀ j : Int, 0 ≤ j → j < xs.length → rd xs j = m + j) : laws_heldIntS.f k xs m = some (m + xs.length) :=
  held_loop xs.length k xs m 0 (by omega) (by omega) (by omega) hk hn h0 (by omega) (fun j j0 j1 => by rw [h j j0 j1]; omega)
theorem s_in (a l h : Int) : spec_l1In.f a l h = some (decide (l ≤ a ∧ a ≤ h)) := by
  unfold spec_l1In.f
  by_cases c : a ≥ l
  · rw [if_pos c]; simp [show l ≤ a from c]
  · rw [if_neg c]; simp; omega
theorem i_in (a l h : Int) : impl_in.f a l h = some (decide (l ≤ a ∧ a ≤ h)) := by
  unfold impl_in.f
  by_cases c : a ≥ l
  · rw [if_pos c]; simp [show l ≤ a from c]
  · rw [if_neg c]; simp; omega
/-! Code: steps and what makes them good. -/
abbrev I := S53
def cv (x : S64) : I := ⟨x.f0, x.f1, x.f2, x.f3, x.f4⟩
def nm (v : Int) : Bool := decide (0 ≤ v ∧ v ≤ 7)
def wd (v : Int) : Bool := decide (0 ≤ v ∧ v ≤ 65535)
def gi (o d a b n : Int) : Bool :=
  if o = 1 then nm d && (a == 0 && (b == 0 && wd n)) else if o = 2 then nm d && (nm a && (b == 0 && n == 0)) else if o = 8 then d == 0 && (nm a && (b == 0 && n == 0)) else decide (3 ≤ o ∧ o ≤ 7) && (nm d && (nm a && (nm b && n == 0)))
def gI (x : I) : Bool := gi x.f0 x.f1 x.f2 x.f3 x.f4
def gC (l : List I) : Bool := l.all gI && decide (l.length ≤ 30)

theorem s_name (v : Int) : spec_l3Name.f v = some (nm v) := by unfold spec_l3Name.f nm; rw [s_in]; rfl
theorem s_word (v : Int) : spec_l1Word.f v = some (wd v) := by unfold spec_l1Word.f wd; rw [s_in]; rfl
theorem s_two (v : Int) : spec_l3Two.f v = some (decide (3 ≤ v ∧ v ≤ 7)) := by unfold spec_l3Two.f; rw [s_in]; rfl
theorem i_name (v : Int) : impl_isName.f v = some (nm v) := by unfold impl_isName.f nm; rw [i_in]; rfl
theorem i_word (v : Int) : impl_isWord.f v = some (wd v) := by unfold impl_isWord.f wd; rw [i_in]; rfl
theorem nm0 : nm 0 = true := by decide
theorem wd0 : wd 0 = true := by decide

theorem s_good (o d a b n : Int) : spec_l3Good.f o d a b n = some (gi o d a b n) := by
  unfold spec_l3Good.f gi
  rw [s_name, s_name, s_name, s_word, s_two]; simp only [Option.bind_some]
  by_cases c1 : o = 1
  · rw [if_pos c1, if_pos c1]
    cases nm d
    · rfl
    · by_cases a0 : a = 0 <;> by_cases b0 : b = 0 <;> simp [a0, b0]
  · rw [if_neg c1, if_neg c1]
    by_cases c2 : o = 2
    · rw [if_pos c2, if_pos c2]
      cases nm d <;> cases nm a <;> by_cases b0 : b = 0 <;> simp [b0]
    · rw [if_neg c2, if_neg c2]
      by_cases c8 : o = 8
      · rw [if_pos c8, if_pos c8]
        by_cases d0 : d = 0 <;> cases nm a <;> by_cases b0 : b = 0 <;> simp [b0, d0]
      · rw [if_neg c8, if_neg c8]
        by_cases c3 : 3 ≤ o ∧ o ≤ 7
        · have h : decide (3 ≤ o ∧ o ≤ 7) = true := by simpa using c3
          rw [h]
          cases nm d <;> cases nm a <;> cases nm b <;> simp
        · have h : decide (3 ≤ o ∧ o ≤ 7) = false := by simpa using c3
          rw [h]; simp

theorem i_instr (k : Nat) (hk : 2 ≤ k) (o d a b n : Int) : impl_isInstr.f k o d a b n = some (gi o d a b n) := by
  obtain ⟨k, rfl⟩ : ∃ m, k = m + 2 := ⟨k - 2, by omega⟩
  unfold impl_isInstr.f gi
  rw [i_name, i_name, i_name, i_word]; simp only [Option.bind_some, impl_isInstr.j0, impl_isInstr.j1]
  by_cases c1 : o = 1
  · subst c1
    by_cases a0 : a = 0 <;> by_cases b0 : b = 0 <;> cases nm d <;> cases wd n <;> simp [a0, b0, nm0] <;> (try (cases nm a <;> cases nm b <;> simp))
  · by_cases c2 : o = 2
    · subst c2
      by_cases n0 : n = 0 <;> by_cases b0 : b = 0 <;> cases nm d <;> cases nm a <;> simp [n0, b0, nm0, wd0] <;> (try (cases nm b <;> cases wd n <;> simp))
    · by_cases c8 : o = 8
      · subst c8
        by_cases d0 : d = 0 <;> by_cases n0 : n = 0 <;> by_cases b0 : b = 0 <;> cases nm a <;> simp [d0, n0, b0, nm0, wd0] <;> (try (cases nm b <;> cases wd n <;> cases nm d <;> simp))
      · rw [if_neg c1, if_neg c2, if_neg c8]
        by_cases c3 : 3 ≤ o ∧ o ≤ 7
        · have h : decide (3 ≤ o ∧ o ≤ 7) = true := by simpa using c3
          rw [h]
          have ho : o = 3 ∨ o = 4 ∨ o = 5 ∨ o = 6 ∨ o = 7 := by omega
          by_cases n0 : n = 0
          · subst n0
            rcases ho with rfl | rfl | rfl | rfl | rfl <;> cases nm d <;> cases nm a <;> cases nm b <;> simp [wd0]
          · rcases ho with rfl | rfl | rfl | rfl | rfl <;> cases nm d <;> cases nm a <;> cases nm b <;> cases wd n <;> simp [n0]
        · have h : decide (3 ≤ o ∧ o ≤ 7) = false := by simpa using c3
          rw [h]
          have e3 : ¬ o = 3 := by omega
          have e4 : ¬ o = 4 := by omega
          have e5 : ¬ o = 5 := by omega
          have e6 : ¬ o = 6 := by omega
          have e7 : ¬ o = 7 := by omega
          cases nm d <;> cases nm a <;> cases nm b <;> cases wd n <;> simp [c1, c2, c8, e3, e4, e5, e6, e7]

theorem rdI_drop {l : List I} {i : Nat} (h : i < l.length) : l.drop i = rd_T53 l (i : Int) :: l.drop (i + 1) := by
  rw [List.drop_eq_getElem_cons h]
  unfold rd_T53
  rw [Int.toNat_natCast, List.getD_eq_getElem?_getD, List.getElem?_eq_getElem h]; rfl

theorem s_code_loop (m : Nat) : ∀ (k : Nat) (x0 l : List I) (i : Nat), i ≤ l.length → l.length - i = m → m < k → l.length ≤ 2000000 →
    spec_GoodCode.l0 k x0 l (l.length : Int) (i : Int) = some ((l.drop i).all gI && decide (x0.length ≤ 30)) := by
  induction m with
  | zero =>
    intro k x0 l i h1 hd hk hn
    obtain ⟨k, rfl⟩ : ∃ m, k = m + 1 := ⟨k - 1, by omega⟩
    simp only [spec_GoodCode.l0]
    rw [if_neg (by omega), List.drop_of_length_le (by omega)]
    have e : decide ((x0.length : Int) ≤ 30) = decide (x0.length ≤ 30) := by congr 1; apply propext; omega
    rw [e]; simp
  | succ m ih =>
    intro k x0 l i h1 hd hk hn
    obtain ⟨k, rfl⟩ : ∃ m, k = m + 1 := ⟨k - 1, by omega⟩
    simp only [spec_GoodCode.l0]
    have wi : wrap64 ((i : Int) + 1) = ((i + 1 : Nat) : Int) := by rw [w64 (by omega) (by omega)]; omega
    rw [if_pos (show (i : Int) < (l.length : Int) by omega), if_pos (show 0 ≤ (i : Int) by omega), if_pos (show (i : Int) < (l.length : Int) by omega), s_good, wi, rdI_drop (l := l) (i := i) (by omega)]
    simp only [Option.bind_some, List.all_cons]
    show (if gI (rd_T53 l (i : Int)) = true then _ else _) = _
    cases h : gI (rd_T53 l (i : Int))
    · simp
    · rw [if_pos rfl, ih k x0 l (i + 1) (by omega) (by omega) (by omega) hn]; simp
theorem s_code (k : Nat) (l : List I) (hk : l.length < k) (hn : l.length ≤ 2000000) : spec_GoodCode.f k l = some (gC l) := by
  unfold spec_GoodCode.f gC
  have h := s_code_loop l.length k l l 0 (by omega) (by omega) hk hn
  rw [List.drop_zero] at h
  exact h
theorem i_index_loop (m : Nat) : ∀ (k : Nat) (l : List I) (i : Nat), i ≤ l.length → l.length - i = m → m + 2 < k → l.length ≤ 2000000 →
    ∃ r, slices_IndexFunc_v50.l0 k l (l.length : Int) (i : Int) = some r ∧ decide (r ≥ 0) = !(l.drop i).all gI := by
  induction m with
  | zero =>
    intro k l i h1 hd hk hn
    obtain ⟨k, rfl⟩ : ∃ m, k = m + 1 := ⟨k - 1, by omega⟩
    simp only [slices_IndexFunc_v50.l0]
    rw [if_neg (by omega), List.drop_of_length_le (by omega)]
    exact ⟨_, rfl, by decide⟩
  | succ m ih =>
    intro k l i h1 hd hk hn
    obtain ⟨k, rfl⟩ : ∃ m, k = m + 1 := ⟨k - 1, by omega⟩
    simp only [slices_IndexFunc_v50.l0]
    have wi : wrap64 ((i : Int) + 1) = ((i + 1 : Nat) : Int) := by rw [w64 (by omega) (by omega)]; omega
    unfold impl_isCode_1.f
    rw [if_pos (show (i : Int) < (l.length : Int) by omega), if_pos (show 0 ≤ (i : Int) by omega), if_pos (show (i : Int) < (l.length : Int) by omega), i_instr k (by omega), wi, rdI_drop (l := l) (i := i) (by omega)]
    simp only [Option.bind_some, List.all_cons]
    show ∃ r, (if (!gI (rd_T53 l (i : Int))) = true then _ else _) = _ ∧ _
    cases h : gI (rd_T53 l (i : Int))
    · exact ⟨(i : Int), by simp, by simp⟩
    · obtain ⟨r, e1, e2⟩ := ih k l (i + 1) (by omega) (by omega) (by omega) hn
      exact ⟨r, by simpa using e1, by simpa using e2⟩
theorem i_code (k : Nat) (l : List I) (hk : l.length + 2 < k) (hn : l.length ≤ 2000000) : impl_isCode.f k l = some (gC l) := by
  unfold impl_isCode.f gC
  by_cases c : l.length ≤ 30
  · rw [if_pos (by omega)]
    unfold slices_ContainsFunc_v50.f slices_IndexFunc_v50.f
    obtain ⟨r, e1, e2⟩ := i_index_loop l.length k l 0 (by omega) (by omega) hk hn
    rw [show ((0 : Nat) : Int) = 0 from rfl] at e1
    rw [List.drop_zero] at e2
    rw [e1]; simp only [Option.bind_some]
    rw [e2]; simp [c]
  · rw [if_neg (by omega)]; simp [c]

/-! The law's own words. -/
theorem sz_code (l : List S64) (left : Int) (h0 : 0 ≤ left) (h1 : left ≤ 1048576) (hl : l.length ≤ 9223372036854775807) : ∃ r, laws_szInstrS.f l left = some r ∧ (r < 0 ∨ (l.length : Int) ≤ left ∧ r = left - l.length) := by
  unfold laws_szInstrS.f
  rw [w64 (by omega) (by omega)]
  by_cases c : left - (l.length : Int) < 0
  · rw [if_pos c]; exact ⟨_, rfl, .inl (by decide)⟩
  · rw [if_neg c]; exact ⟨_, rfl, .inr ⟨by omega, rfl⟩⟩
theorem to_loop (m : Nat) : ∀ (k : Nat) (x : List S64) (y : List I) (i : Nat), i ≤ x.length → x.length - i = m → m < k → x.length ≤ 2000000 → y.length = x.length →
    (∀ j, j < i → y[j]? = (x.map cv)[j]?) → laws_toInstrS.l0 k x y (i : Int) = some (x.map cv) := by
  induction m with
  | zero =>
    intro k x y i h1 hd hk hn hy hat
    obtain ⟨k, rfl⟩ : ∃ m, k = m + 1 := ⟨k - 1, by omega⟩
    simp only [laws_toInstrS.l0]
    rw [if_neg (by omega)]
    congr 1
    apply List.ext_getElem?
    intro j
    by_cases c : j < i
    · exact hat j c
    · rw [List.getElem?_eq_none (by omega), List.getElem?_eq_none (by rw [List.length_map]; omega)]
  | succ m ih =>
    intro k x y i h1 hd hk hn hy hat
    obtain ⟨k, rfl⟩ : ∃ m, k = m + 1 := ⟨k - 1, by omega⟩
    simp only [laws_toInstrS.l0]
    have wi : wrap64 ((i : Int) + 1) = ((i + 1 : Nat) : Int) := by rw [w64 (by omega) (by omega)]; omega
    rw [if_pos (show (i : Int) < (x.length : Int) by omega), if_pos (show 0 ≤ (i : Int) by omega)]
    unfold laws_toInstr.f
    simp only [Option.bind_some]
    rw [if_pos (show (i : Int) < (y.length : Int) by omega), wi]
    apply ih k x _ (i + 1) (by omega) (by omega) (by omega) hn (by simp [hy])
    intro j hj
    rw [Int.toNat_natCast]
    by_cases c : j = i
    · subst c
      rw [List.getElem?_set_self (by omega), List.getElem?_map]
      unfold rd_T64
      rw [Int.toNat_natCast, List.getD_eq_getElem?_getD, List.getElem?_eq_getElem (show j < x.length by omega)]
      rfl
    · rw [List.getElem?_set_ne (by omega)]; exact hat j (by omega)
theorem to_code (k : Nat) (x : List S64) (hk : x.length < k) (hn : x.length ≤ 2000000) : laws_toInstrS.f k x = some (x.map cv) := by
  unfold laws_toInstrS.f
  rw [if_pos (by omega), if_pos (by omega)]
  exact to_loop x.length k x _ 0 (by omega) (by omega) hk hn (by simp) (fun j hj => by omega)
theorem eq_code_loop (m : Nat) : ∀ (k : Nat) (l : List I) (i : Nat), i ≤ l.length → l.length - i = m → m < k → l.length ≤ 2000000 → laws_eqInstrS.l0 k l l (i : Int) = some true := by
  induction m with
  | zero =>
    intro k l i h1 hd hk hn
    obtain ⟨k, rfl⟩ : ∃ m, k = m + 1 := ⟨k - 1, by omega⟩
    simp only [laws_eqInstrS.l0]
    rw [if_neg (by omega)]
  | succ m ih =>
    intro k l i h1 hd hk hn
    obtain ⟨k, rfl⟩ : ∃ m, k = m + 1 := ⟨k - 1, by omega⟩
    have wi : wrap64 ((i : Int) + 1) = ((i + 1 : Nat) : Int) := by rw [w64 (by omega) (by omega)]; omega
    simp only [laws_eqInstrS.l0, laws_eqInstr.f]
    rw [if_pos (show (i : Int) < (l.length : Int) by omega), if_pos (show 0 ≤ (i : Int) by omega), if_pos (show (i : Int) < (l.length : Int) by omega), wi]
    simp only [if_true, Option.bind_some]
    exact ih k l (i + 1) (by omega) (by omega) (by omega) hn
theorem eq_code (k : Nat) (l : List I) (hk : l.length < k) (hn : l.length ≤ 2000000) : laws_eqInstrS.f k l l = some true := by
  unfold laws_eqInstrS.f
  rw [if_pos rfl]; exact eq_code_loop l.length k l 0 (by omega) (by omega) hk hn
theorem marki_loop (m : Nat) : ∀ (k : Nat) (x : List I) (a : Int) (i : Nat), i ≤ x.length → x.length - i = m → m < k → x.length ≤ 2000000 → 0 ≤ a → a ≤ 1000000000000000 + 5 * i →
    ∃ y, laws_markInstrS.l0 k x a (i : Int) = some (a + 5 * m, y) := by
  induction m with
  | zero =>
    intro k x a i h1 hd hk hn h0 h2
    obtain ⟨k, rfl⟩ : ∃ m, k = m + 1 := ⟨k - 1, by omega⟩
    simp only [laws_markInstrS.l0]
    rw [if_neg (by omega)]
    exact ⟨x, by simp⟩
  | succ m ih =>
    intro k x a i h1 hd hk hn h0 h2
    obtain ⟨k, rfl⟩ : ∃ m, k = m + 1 := ⟨k - 1, by omega⟩
    simp only [laws_markInstrS.l0, Option.bind_some]
    have wi : wrap64 ((i : Int) + 1) = ((i + 1 : Nat) : Int) := by rw [w64 (by omega) (by omega)]; omega
    have e1 : wrap64 (a + 1) = a + 1 := w64 (by omega) (by omega)
    have e2 : wrap64 (a + 1 + 1) = a + 2 := by rw [w64 (by omega) (by omega)]; omega
    have e3 : wrap64 (a + 2 + 1) = a + 3 := by rw [w64 (by omega) (by omega)]; omega
    have e4 : wrap64 (a + 3 + 1) = a + 4 := by rw [w64 (by omega) (by omega)]; omega
    have e5 : wrap64 (a + 4 + 1) = a + 5 := by rw [w64 (by omega) (by omega)]; omega
    rw [if_pos (show (i : Int) < (x.length : Int) by omega), if_pos (show 0 ≤ (i : Int) by omega), wi, e1, e2, e3, e4, e5]
    generalize hy : List.set _ _ _ = y
    have hl : y.length = x.length := by rw [← hy]; simp
    obtain ⟨z, e⟩ := ih k y (a + 5) (i + 1) (by omega) (by omega) (by omega) (by omega) (by omega) (by omega)
    exact ⟨z, by rw [e]; congr 2; omega⟩
theorem marki (k : Nat) (x : List I) (a : Int) (hk : x.length < k) (hn : x.length ≤ 2000000) (h0 : 0 ≤ a) (h1 : a ≤ 1000000000000000) : ∃ y, laws_markInstrS.f k x a = some (a + 5 * x.length, y) :=
  marki_loop x.length k x a 0 (by omega) (by omega) hk hn h0 (by omega)
/-! Strictly growing lists: what is sorted and compacted, what is put in one by one. -/
theorem growing_eq : ∀ (a b : List Int), a.Pairwise (· < ·) → b.Pairwise (· < ·) → (∀ x, x ∈ a ↔ x ∈ b) → a = b
  | [], [], _, _, _ => rfl
  | [], y :: b, _, _, h => absurd ((h y).2 (List.mem_cons_self ..)) (by simp)
  | x :: a, [], _, _, h => absurd ((h x).1 (List.mem_cons_self ..)) (by simp)
  | x :: a, y :: b, ha, hb, h => by
    rw [List.pairwise_cons] at ha hb
    have hxy : x = y := by
      rcases List.mem_cons.1 ((h x).1 (List.mem_cons_self ..)) with e | e
      · exact e
      · rcases List.mem_cons.1 ((h y).2 (List.mem_cons_self ..)) with e2 | e2
        · exact e2.symm
        · have h1 := hb.1 x e
          have h2 := ha.1 y e2
          omega
    subst hxy
    congr 1
    refine growing_eq a b ha.2 hb.2 (fun z => ⟨fun hz => ?_, fun hz => ?_⟩)
    · rcases List.mem_cons.1 ((h z).1 (List.mem_cons_of_mem _ hz)) with e | e
      · have := ha.1 z hz; omega
      · exact e
    · rcases List.mem_cons.1 ((h z).2 (List.mem_cons_of_mem _ hz)) with e | e
      · have := hb.1 z hz; omega
      · exact e
def ins : List Int → Int → List Int
  | [], n => [n]
  | x :: l, n => if x < n then x :: ins l n else if x = n then x :: l else n :: x :: l
theorem mem_ins (l : List Int) (n x : Int) : x ∈ ins l n ↔ x ∈ l ∨ x = n := by
  induction l with
  | nil => simp [ins]
  | cons y l ih =>
    unfold ins
    by_cases c : y < n
    · rw [if_pos c, List.mem_cons, ih, List.mem_cons]; exact ⟨fun h => by rcases h with h | h | h <;> simp [h], fun h => by rcases h with (h | h) | h <;> simp [h]⟩
    · rw [if_neg c]
      by_cases e : y = n
      · rw [if_pos e, List.mem_cons]; subst e; exact ⟨fun h => .inl h, fun h => by rcases h with h | h; exact h; exact .inl h⟩
      · rw [if_neg e]; simp only [List.mem_cons]; exact ⟨fun h => by rcases h with h | h | h <;> simp [h], fun h => by rcases h with (h | h) | h <;> simp [h]⟩
theorem ins_growing (l : List Int) (n : Int) (h : l.Pairwise (· < ·)) : (ins l n).Pairwise (· < ·) := by
  induction l with
  | nil => simp [ins]
  | cons y l ih =>
    rw [List.pairwise_cons] at h
    unfold ins
    by_cases c : y < n
    · rw [if_pos c, List.pairwise_cons]
      refine ⟨fun z hz => ?_, ih h.2⟩
      rcases (mem_ins l n z).1 hz with hz | rfl
      · exact h.1 z hz
      · exact c
    · rw [if_neg c]
      by_cases e : y = n
      · rw [if_pos e, List.pairwise_cons]; exact h
      · rw [if_neg e, List.pairwise_cons]
        refine ⟨fun z hz => ?_, List.pairwise_cons.2 h⟩
        rcases List.mem_cons.1 hz with rfl | hz
        · omega
        · have := h.1 z hz; omega
theorem ins_len (l : List Int) (n : Int) : (ins l n).length ≤ l.length + 1 := by
  induction l with
  | nil => simp [ins]
  | cons y l ih => unfold ins; (repeat' split) <;> simp <;> omega
theorem foldl_ins (xs : List Int) : ∀ acc : List Int, acc.Pairwise (· < ·) → (xs.foldl ins acc).Pairwise (· < ·) ∧ ∀ x, x ∈ xs.foldl ins acc ↔ x ∈ acc ∨ x ∈ xs := by
  induction xs with
  | nil => intro acc h; exact ⟨h, fun x => by simp⟩
  | cons y xs ih =>
    intro acc h
    obtain ⟨h1, h2⟩ := ih (ins acc y) (ins_growing acc y h)
    refine ⟨h1, fun x => ?_⟩
    show x ∈ xs.foldl ins (ins acc y) ↔ _
    rw [h2 x, mem_ins, List.mem_cons, or_assoc]
theorem compact_growing (s : List Int) (hs : s.Pairwise (· ≤ ·)) (m : Nat) (hm : m ≤ s.length) : (Lib.compactUpTo s.toArray m).Pairwise (· < ·) ∧ ∀ x, x ∈ Lib.compactUpTo s.toArray m ↔ ∃ j, j < m ∧ s[j]? = some x := by
  have get : ∀ j, j < s.length → s[j]? = some (s.toArray[j]!) := by
    intro j hj
    rw [List.getElem?_eq_getElem hj, getElem!_pos _ j (by simpa using hj)]; simp
  have mono : ∀ i j, i < j → j < s.length → s.toArray[i]! ≤ s.toArray[j]! := by
    intro i j hij hj
    have h := List.pairwise_iff_getElem.1 hs i j (by omega) hj hij
    rw [getElem!_pos _ i (by simp; omega), getElem!_pos _ j (by simpa using hj)]; simpa using h
  induction m with
  | zero => exact ⟨by simp [Lib.compactUpTo], fun x => by simp [Lib.compactUpTo]⟩
  | succ m ih =>
    obtain ⟨h1, h2⟩ := ih (by omega)
    rw [Lib.compactUpTo_succ]
    by_cases hk : Lib.keeps s.toArray m = true
    · rw [if_pos hk]
      have hk' : m = 0 ∨ s.toArray[m]! ≠ s.toArray[m - 1]! := by unfold Lib.keeps at hk; exact of_decide_eq_true hk
      refine ⟨List.pairwise_append.2 ⟨h1, by simp, fun a ha b hb => ?_⟩, fun x => ?_⟩
      · obtain ⟨j, hj, e⟩ := (h2 a).1 ha
        rw [List.mem_singleton] at hb
        subst hb
        rw [get j (by omega)] at e
        have e := Option.some.inj e
        rcases hk' with h0 | h0
        · omega
        · have l1 : s.toArray[m - 1]! ≤ s.toArray[m]! := mono (m - 1) m (by omega) (by omega)
          have l2 : s.toArray[j]! ≤ s.toArray[m - 1]! := by
            by_cases q : j = m - 1
            · rw [q]; exact Int.le_refl _
            · exact mono j (m - 1) (by omega) (by omega)
          rw [← e]; omega
      · rw [List.mem_append, h2 x, List.mem_singleton]
        refine ⟨fun h => ?_, fun h => ?_⟩
        · rcases h with ⟨j, hj, e⟩ | rfl
          · exact ⟨j, by omega, e⟩
          · exact ⟨m, by omega, get m (by omega)⟩
        · obtain ⟨j, hj, e⟩ := h
          by_cases q : j = m
          · subst q; rw [get j (by omega)] at e; exact .inr (Option.some.inj e).symm
          · exact .inl ⟨j, by omega, e⟩
    · rw [if_neg hk, List.append_nil]
      have hk' : ¬ (m = 0 ∨ s.toArray[m]! ≠ s.toArray[m - 1]!) := fun h => hk (by unfold Lib.keeps; exact decide_eq_true h)
      have hm0 : m ≠ 0 := fun h => hk' (.inl h)
      have heq : s.toArray[m]! = s.toArray[m - 1]! := by
        by_cases q : s.toArray[m]! = s.toArray[m - 1]!
        · exact q
        · exact absurd (.inr q) hk'
      refine ⟨h1, fun x => ?_⟩
      rw [h2 x]
      refine ⟨fun ⟨j, hj, e⟩ => ⟨j, by omega, e⟩, fun ⟨j, hj, e⟩ => ?_⟩
      by_cases q : j = m
      · subst q; rw [get j (by omega), heq, ← get (j - 1) (by omega)] at e; exact ⟨j - 1, by omega, e⟩
      · exact ⟨j, by omega, e⟩
theorem compact_sort (xs : List Int) : Lib.compact (xs.mergeSort fun x y => decide (x ≤ y)) = xs.foldl ins [] := by
  have hs : (xs.mergeSort fun x y => decide (x ≤ y)).Pairwise (· ≤ ·) := by
    have h := List.pairwise_mergeSort (le := fun (x y : Int) => decide (x ≤ y)) (fun a b c h1 h2 => by simp at h1 h2 ⊢; omega) (fun a b => by simp; omega) xs
    exact h.imp (fun h => by simpa using h)
  obtain ⟨h1, h2⟩ := compact_growing _ hs _ (Nat.le_refl _)
  obtain ⟨h3, h4⟩ := foldl_ins xs [] List.Pairwise.nil
  refine growing_eq _ _ h1 h3 (fun x => ?_)
  show x ∈ Lib.compactUpTo _ _ ↔ _
  rw [h2 x, h4 x]
  refine ⟨fun ⟨j, _, e⟩ => .inr ?_, fun h => ?_⟩
  · exact (List.mem_mergeSort (l := xs)).1 (List.mem_of_getElem? e)
  · rcases h with h | h
    · simp at h
    · obtain ⟨j, hj, e⟩ := List.getElem_of_mem ((List.mem_mergeSort (le := fun (x y : Int) => decide (x ≤ y))).2 h)
      exact ⟨j, hj, by rw [List.getElem?_eq_getElem hj, e]⟩
theorem put_loop (m : Nat) : ∀ (k : Nat) (l : List Int) (n : Int) (i : Nat), i ≤ l.length → l.length - i = m → m < k → l.length ≤ 1000000 → spec_l1Put.l0 k l n (i : Int) = some (l.take i ++ ins (l.drop i) n) := by
  induction m with
  | zero =>
    intro k l n i h1 hd hk hn
    obtain ⟨k, rfl⟩ : ∃ m, k = m + 1 := ⟨k - 1, by omega⟩
    simp only [spec_l1Put.l0, Option.bind_some, List.nil_append, List.length_nil, Int.toNat_natCast]
    rw [if_neg (by omega), if_pos (by omega), if_pos (by omega), if_pos (by simp; omega), if_pos (by simp; omega), if_pos (by simp; omega), List.drop_of_length_le (show l.length ≤ i by omega)]
    simp [ins]
  | succ m ih =>
    intro k l n i h1 hd hk hn
    obtain ⟨k, rfl⟩ : ∃ m, k = m + 1 := ⟨k - 1, by omega⟩
    simp only [spec_l1Put.l0, Option.bind_some, List.nil_append, List.length_nil, Int.toNat_natCast]
    have wi : wrap64 ((i : Int) + 1) = ((i + 1 : Nat) : Int) := by rw [w64 (by omega) (by omega)]; omega
    have er : rd l (i : Int) = l[i] := by unfold rd; rw [Int.toNat_natCast, List.getD_eq_getElem?_getD, List.getElem?_eq_getElem (show i < l.length by omega)]; rfl
    rw [if_pos (show (i : Int) < (l.length : Int) by omega), if_pos (show 0 ≤ (i : Int) by omega), er, wi, List.drop_eq_getElem_cons (show i < l.length by omega)]
    unfold ins
    by_cases c : l[i] < n
    · rw [if_pos c, if_pos c, ih k l n (i + 1) (by omega) (by omega) (by omega) hn, List.take_succ_eq_append_getElem (show i < l.length by omega), List.append_assoc]
      rfl
    · rw [if_neg c, if_neg c]
      by_cases e : l[i] = n
      · rw [if_pos e, if_pos e, ← List.drop_eq_getElem_cons, List.take_append_drop]
      · rw [if_neg e, if_neg e, if_pos (by omega), if_pos (by simp; omega), if_pos (by simp; omega), if_pos (by simp; omega)]
        simp
theorem s_put (k : Nat) (l : List Int) (n : Int) (hk : l.length < k) (hn : l.length ≤ 1000000) : spec_l1Put.f k l n = some (ins l n) := by
  have h := put_loop l.length k l n 0 (by omega) (by omega) hk hn
  unfold spec_l1Put.f
  simpa using h
/-! The names that code looks at before it sets them. -/
def uses (x : I) : List Int := if x.f0 = 1 then [] else if x.f0 = 2 ∨ x.f0 = 8 then [x.f2] else [x.f2, x.f3]
def need : List I → List Int → List Int
  | [], _ => []
  | x :: l, S => (uses x).filter (fun v => decide (v ∉ S)) ++ need l (if x.f0 = 8 then S else x.f1 :: S)
theorem need_congr : ∀ (l : List I) (S T : List Int), (∀ v, v ∈ S ↔ v ∈ T) → need l S = need l T
  | [], _, _, _ => rfl
  | x :: l, S, T, h => by
    unfold need
    congr 1
    · congr 1; funext v; rw [decide_eq_decide]; exact not_congr (h v)
    · by_cases c : x.f0 = 8
      · rw [if_pos c, if_pos c]; exact need_congr l S T h
      · rw [if_neg c, if_neg c]; exact need_congr l _ _ (fun v => by simp only [List.mem_cons]; rw [h v])
theorem nm_iff {v : Int} : nm v = true ↔ 0 ≤ v ∧ v ≤ 7 := by simp [nm]
theorem uses_len (x : I) : (uses x).length ≤ 2 := by unfold uses; (repeat' split) <;> simp
theorem gI_names {x : I} (h : gI x = true) : (0 ≤ x.f1 ∧ x.f1 ≤ 7) ∧ ∀ v ∈ uses x, 0 ≤ v ∧ v ≤ 7 := by
  unfold gI gi at h
  unfold uses
  by_cases c1 : x.f0 = 1
  · rw [if_pos c1] at h ⊢
    simp only [Bool.and_eq_true, nm_iff] at h
    exact ⟨h.1, fun v hv => by simp at hv⟩
  · rw [if_neg c1] at h ⊢
    by_cases c2 : x.f0 = 2
    · rw [if_pos c2] at h; rw [if_pos (.inl c2)]
      simp only [Bool.and_eq_true, nm_iff] at h
      exact ⟨h.1, fun v hv => by rw [List.mem_singleton] at hv; subst hv; exact h.2.1⟩
    · rw [if_neg c2] at h
      by_cases c8 : x.f0 = 8
      · rw [if_pos c8] at h; rw [if_pos (.inr c8)]
        simp only [Bool.and_eq_true, nm_iff, beq_iff_eq] at h
        exact ⟨by omega, fun v hv => by rw [List.mem_singleton] at hv; subst hv; exact h.2.1⟩
      · rw [if_neg c8] at h; rw [if_neg (by omega)]
        simp only [Bool.and_eq_true, nm_iff] at h
        refine ⟨h.2.1, fun v hv => ?_⟩
        simp only [List.mem_cons, List.not_mem_nil, or_false] at hv
        rcases hv with rfl | rfl
        · exact h.2.2.1
        · exact h.2.2.2.1
theorem i_uses (x : I) : impl_Instr_looks.f x.f0 x.f1 x.f2 x.f3 x.f4 = some (uses x) := by
  unfold impl_Instr_looks.f uses
  by_cases c1 : x.f0 = 1
  · rw [if_pos c1, if_pos c1]
  · rw [if_neg c1, if_neg c1]
    by_cases c2 : x.f0 = 2
    · rw [if_pos c2, if_pos (.inl c2)]
    · rw [if_neg c2]
      by_cases c8 : x.f0 = 8
      · rw [if_pos c8, if_pos (.inr c8)]
      · rw [if_neg c8, if_neg (by omega)]
theorem s_uses {x : I} (h : gI x = true) : spec_l3Uses.f x.f0 x.f1 x.f2 x.f3 x.f4 = some (uses x) := by
  unfold spec_l3Uses.f uses
  rw [s_two]; simp only [Option.bind_some]
  by_cases c1 : x.f0 = 1
  · rw [if_pos c1, if_pos c1]
  · rw [if_neg c1, if_neg c1]
    by_cases c2 : x.f0 = 2
    · rw [if_neg (by simp; omega), if_pos (.inl c2)]
    · by_cases c8 : x.f0 = 8
      · rw [if_neg (by simp; omega), if_pos (.inr c8)]
      · have g : 3 ≤ x.f0 ∧ x.f0 ≤ 7 := by
          unfold gI gi at h
          rw [if_neg c1, if_neg c2, if_neg c8, Bool.and_eq_true] at h
          simpa using h.1
        rw [if_pos (by simpa using g), if_neg (by omega)]
theorem has_loop (m : Nat) : ∀ (k : Nat) (l : List Int) (n : Int) (i : Nat), i ≤ l.length → l.length - i = m → m < k → l.length ≤ 1000000 → spec_l1Has.l0 k n l (l.length : Int) (i : Int) = some (decide (n ∈ l.drop i)) := by
  induction m with
  | zero =>
    intro k l n i h1 hd hk hn
    obtain ⟨k, rfl⟩ : ∃ m, k = m + 1 := ⟨k - 1, by omega⟩
    simp only [spec_l1Has.l0]
    rw [if_neg (by omega), List.drop_of_length_le (by omega)]; simp
  | succ m ih =>
    intro k l n i h1 hd hk hn
    obtain ⟨k, rfl⟩ : ∃ m, k = m + 1 := ⟨k - 1, by omega⟩
    simp only [spec_l1Has.l0]
    have wi : wrap64 ((i : Int) + 1) = ((i + 1 : Nat) : Int) := by rw [w64 (by omega) (by omega)]; omega
    have er : rd l (i : Int) = l[i] := by unfold rd; rw [Int.toNat_natCast, List.getD_eq_getElem?_getD, List.getElem?_eq_getElem (show i < l.length by omega)]; rfl
    rw [if_pos (show (i : Int) < (l.length : Int) by omega), if_pos (show 0 ≤ (i : Int) by omega), if_pos (show (i : Int) < (l.length : Int) by omega), er, wi, List.drop_eq_getElem_cons (show i < l.length by omega)]
    by_cases c : l[i] = n
    · rw [if_pos c]; simp [c]
    · rw [if_neg c, ih k l n (i + 1) (by omega) (by omega) (by omega) hn]
      congr 1
      rw [decide_eq_decide, List.mem_cons]
      exact ⟨fun h => .inr h, fun h => h.resolve_left (fun e => c e.symm)⟩
theorem s_has (k : Nat) (l : List Int) (n : Int) (hk : l.length < k) (hn : l.length ≤ 1000000) : spec_l1Has.f k l n = some (decide (n ∈ l)) := by
  have h := has_loop l.length k l n 0 (by omega) (by omega) hk hn
  unfold spec_l1Has.f
  rw [List.drop_zero] at h
  exact h
/-- The reference's inner loop. -/
theorem s_in_loop (ys : List Int) (hy : ys.length ≤ 2) (m : Nat) : ∀ (k : Nat) (st out : List Int) (l : List I) (i : Int) (j : Nat) (a b c d e : Int), j ≤ ys.length → ys.length - j = m → 300 < k → st.length ≤ 100 → out.length + m ≤ 200 →
    spec_NamesNeeded.l1 (k + m + 1) st out l (l.length : Int) i ys (ys.length : Int) (j : Int) a b c d e =
      (if a = 8 then (spec_NamesNeeded.l0 (k + 0) st (((ys.drop j).filter (fun v => decide (v ∉ st))).foldl ins out) l (l.length : Int) (wrap64 (i + 1))) else ((spec_l1Put.f (k + 0) st b).bind fun t => (spec_NamesNeeded.l0 (k + 0) t (((ys.drop j).filter (fun v => decide (v ∉ st))).foldl ins out) l (l.length : Int) (wrap64 (i + 1))))) := by
  induction m with
  | zero =>
    intro k st out l i j a b c d e h1 hd hk hs ho
    simp only [spec_NamesNeeded.l1]
    rw [if_neg (by omega), List.drop_of_length_le (by omega)]; rfl
  | succ m ih =>
    intro k st out l i j a b c d e h1 hd hk hs ho
    rw [show k + (m + 1) + 1 = (k + m + 1) + 1 by omega]
    simp only [spec_NamesNeeded.l1]
    have wi : wrap64 ((j : Int) + 1) = ((j + 1 : Nat) : Int) := by rw [w64 (by omega) (by omega)]; omega
    have er : rd ys (j : Int) = ys[j] := by unfold rd; rw [Int.toNat_natCast, List.getD_eq_getElem?_getD, List.getElem?_eq_getElem (show j < ys.length by omega)]; rfl
    rw [if_pos (show (j : Int) < (ys.length : Int) by omega), if_pos (show 0 ≤ (j : Int) by omega), if_pos (show (j : Int) < (ys.length : Int) by omega), er, wi, s_has _ st _ (by omega) (by omega), List.drop_eq_getElem_cons (show j < ys.length by omega)]
    simp only [Option.bind_some]
    by_cases cm : ys[j] ∈ st
    · rw [if_pos (by simpa using cm), List.filter_cons_of_neg (by simpa using cm)]
      exact ih k st out l i (j + 1) a b c d e (by omega) (by omega) hk hs (by omega)
    · rw [if_neg (by simpa using cm), List.filter_cons_of_pos (by simpa using cm), s_put _ out _ (by omega) (by omega)]
      simp only [Option.bind_some, List.foldl_cons]
      have hl := ins_len out ys[j]
      exact ih k st _ l i (j + 1) a b c d e (by omega) (by omega) hk hs (by omega)
theorem fold_len2 (xs : List Int) : ∀ acc : List Int, (xs.foldl ins acc).length ≤ acc.length + xs.length := by
  induction xs with
  | nil => intro acc; simp
  | cons y xs ih =>
    intro acc
    have h := ih (ins acc y)
    have h2 := ins_len acc y
    show (xs.foldl ins (ins acc y)).length ≤ _
    rw [List.length_cons]; omega
theorem s_nn_loop (m : Nat) : ∀ (k : Nat) (l : List I) (i : Nat) (st out : List Int), i ≤ l.length → l.length - i = m → 10 * m + 1000 < k → l.length ≤ 30 → st.length ≤ i → out.length ≤ 2 * i → (l.drop i).all gI = true →
    spec_NamesNeeded.l0 k st out l (l.length : Int) (i : Int) = some ((need (l.drop i) st).foldl ins out, true) := by
  induction m with
  | zero =>
    intro k l i st out h1 hd hk hn hs ho hg
    obtain ⟨k, rfl⟩ : ∃ m, k = m + 1 := ⟨k - 1, by omega⟩
    simp only [spec_NamesNeeded.l0]
    rw [if_neg (by omega), List.drop_of_length_le (by omega)]; rfl
  | succ m ih =>
    intro k l i st out h1 hd hk hn hs ho hg
    obtain ⟨k, rfl⟩ : ∃ m, k = m + 1 := ⟨k - 1, by omega⟩
    simp only [spec_NamesNeeded.l0]
    have wi : wrap64 ((i : Int) + 1) = ((i + 1 : Nat) : Int) := by rw [w64 (by omega) (by omega)]; omega
    rw [rdI_drop (l := l) (i := i) (by omega)] at hg
    rw [if_pos (show (i : Int) < (l.length : Int) by omega), if_pos (show 0 ≤ (i : Int) by omega), if_pos (show (i : Int) < (l.length : Int) by omega), rdI_drop (l := l) (i := i) (by omega)]
    simp only [List.all_cons, Bool.and_eq_true] at hg
    generalize rd_T53 l (i : Int) = x at hg ⊢
    have hu := uses_len x
    rw [s_uses hg.1]; simp only [Option.bind_some]
    obtain ⟨q, hq⟩ : ∃ q, k = q + (uses x).length + 1 := ⟨k - (uses x).length - 1, by omega⟩
    rw [hq, show (0 : Int) = ((0 : Nat) : Int) from rfl, s_in_loop (uses x) hu (uses x).length q st out l (i : Int) 0 x.f0 x.f1 x.f2 x.f3 x.f4 (by omega) (by omega) (by omega) (by omega) (by omega), List.drop_zero, wi, Nat.add_zero]
    unfold need
    rw [List.foldl_append]
    have hf : ((uses x).filter (fun v => decide (v ∉ st))).length ≤ 2 := Nat.le_trans (List.length_filter_le _ _) hu
    have hl := fold_len2 ((uses x).filter (fun v => decide (v ∉ st))) out
    by_cases c : x.f0 = 8
    · rw [if_pos c, if_pos c]
      exact ih q l (i + 1) st _ (by omega) (by omega) (by omega) hn (by omega) (by omega) hg.2
    · rw [if_neg c, if_neg c, s_put q st _ (by omega) (by omega)]
      simp only [Option.bind_some]
      have hl2 := ins_len st x.f1
      rw [ih q l (i + 1) (ins st x.f1) _ (by omega) (by omega) (by omega) hn (by omega) (by omega) hg.2, need_congr _ (ins st x.f1) (x.f1 :: st) (fun v => by rw [mem_ins, List.mem_cons]; exact or_comm)]
theorem add_ok (bs : List Bool) (S : List Int) (hS : ∀ v : Int, 0 ≤ v → v ≤ 7 → (bs.getD v.toNat false = true ↔ v ∈ S)) : ∀ (ys out : List Int), (∀ v ∈ ys, 0 ≤ v ∧ v ≤ 7) → out.length + ys.length ≤ 1000000 → impl_NamesNeeded.add bs out ys = some (out ++ ys.filter (fun v => decide (v ∉ S)))
  | [], out, _, _ => by simp [impl_NamesNeeded.add]
  | v :: ys, out, h, hl => by
    rw [List.length_cons] at hl
    have hv := h v (List.mem_cons_self ..)
    have hr := fun u hu => h u (List.mem_cons_of_mem v hu)
    simp only [impl_NamesNeeded.add]
    rw [if_pos hv.1, if_pos (by omega)]
    by_cases c : v ∈ S
    · rw [if_pos ((hS v hv.1 hv.2).2 c), List.filter_cons_of_neg (by simpa using c)]
      exact add_ok bs S hS ys out hr (by omega)
    · rw [if_neg (fun e => c ((hS v hv.1 hv.2).1 e)), List.filter_cons_of_pos (by simpa using c), if_pos (by omega), add_ok bs S hS ys (out ++ [v]) hr (by simp; omega)]
      simp
theorem i_nn_loop (m : Nat) : ∀ (k : Nat) (l : List I) (i : Nat) (bs : List Bool) (S acc : List Int), i ≤ l.length → l.length - i = m → m + 1000 < k → l.length ≤ 30 → acc.length ≤ 2 * i → bs.length = 8 → (∀ v : Int, 0 ≤ v → v ≤ 7 → (bs.getD v.toNat false = true ↔ v ∈ S)) → (l.drop i).all gI = true →
    impl_NamesNeeded.l0 k bs acc l (i : Int) = some ((acc ++ need (l.drop i) S).foldl ins [], true) := by
  induction m with
  | zero =>
    intro k l i bs S acc h1 hd hk hn ha hb hS hg
    obtain ⟨k, rfl⟩ : ∃ m, k = m + 1 := ⟨k - 1, by omega⟩
    simp only [impl_NamesNeeded.l0]
    rw [if_neg (by omega), List.drop_of_length_le (by omega)]
    unfold slices_Sort_int_int.f slices_Compact_int_int.f
    rw [if_pos (by omega)]; simp only [Option.bind_some]
    rw [if_pos (by rw [List.length_mergeSort]; omega), compact_sort]
    simp [need]
  | succ m ih =>
    intro k l i bs S acc h1 hd hk hn ha hb hS hg
    obtain ⟨k, rfl⟩ : ∃ m, k = m + 1 := ⟨k - 1, by omega⟩
    simp only [impl_NamesNeeded.l0]
    have wi : wrap64 ((i : Int) + 1) = ((i + 1 : Nat) : Int) := by rw [w64 (by omega) (by omega)]; omega
    rw [rdI_drop (l := l) (i := i) (by omega)] at hg
    rw [if_pos (show (i : Int) < (l.length : Int) by omega), if_pos (show 0 ≤ (i : Int) by omega), rdI_drop (l := l) (i := i) (by omega), wi]
    simp only [List.all_cons, Bool.and_eq_true] at hg
    generalize rd_T53 l (i : Int) = x at hg ⊢
    have hu := uses_len x
    have hn2 := gI_names hg.1
    rw [i_uses]; simp only [Option.bind_some]
    rw [add_ok bs S hS (uses x) acc hn2.2 (by omega)]; simp only [Option.bind_some]
    have hf : ((uses x).filter (fun v => decide (v ∉ S))).length ≤ 2 := Nat.le_trans (List.length_filter_le _ _) hu
    unfold need
    rw [← List.append_assoc]
    by_cases c : x.f0 = 8
    · rw [if_pos c, if_pos c]
      exact ih k l (i + 1) bs S _ (by omega) (by omega) (by omega) hn (by rw [List.length_append]; omega) hb hS hg.2
    · rw [if_neg c, if_neg c, if_pos hn2.1.1, if_pos (by omega)]
      refine ih k l (i + 1) (bs.set x.f1.toNat true) (x.f1 :: S) _ (by omega) (by omega) (by omega) hn (by rw [List.length_append]; omega) (by rw [List.length_set]; exact hb) (fun v v0 v1 => ?_) hg.2
      rw [List.mem_cons, ← hS v v0 v1, List.getD_eq_getElem?_getD, List.getD_eq_getElem?_getD, List.getElem?_set]
      by_cases e : x.f1 = v
      · subst e; rw [if_pos rfl, if_pos (by omega)]; simp
      · rw [if_neg (by omega)]
        exact ⟨fun h => .inr h, fun h => h.resolve_left (fun e2 => e e2.symm)⟩
def resD (l : List I) : List Int × Bool := if gC l = true then ((need l []).foldl ins [], true) else ([], false)
theorem gC_le {l : List I} (h : gC l = true) : l.length ≤ 30 := by
  unfold gC at h; rw [Bool.and_eq_true, decide_eq_true_eq] at h; exact h.2
theorem gC_all {l : List I} (h : gC l = true) : l.all gI = true := by
  unfold gC at h; rw [Bool.and_eq_true] at h; exact h.1
theorem need_len : ∀ (l : List I) (S : List Int), (need l S).length ≤ 2 * l.length
  | [], _ => by simp [need]
  | x :: l, S => by
    unfold need
    have h1 := need_len l (if x.f0 = 8 then S else x.f1 :: S)
    have h2 : ((uses x).filter (fun v => decide (v ∉ S))).length ≤ 2 := Nat.le_trans (List.length_filter_le _ _) (uses_len x)
    rw [List.length_append, List.length_cons]; omega
theorem resD_len (l : List I) : (resD l).1.length ≤ 60 := by
  unfold resD
  by_cases c : gC l = true
  · rw [if_pos c]
    have h := fold_len2 (need l []) []
    have h2 := need_len l []
    have h3 := gC_le c
    show ((need l []).foldl ins []).length ≤ 60
    rw [List.length_nil] at h
    omega
  · rw [if_neg c]; simp
theorem s_resD (k : Nat) (l : List I) (hk : l.length + 2000 < k) (hl : l.length ≤ 1048576) : spec_NamesNeeded.f k l = some (resD l) := by
  unfold spec_NamesNeeded.f resD
  rw [s_code k l (by omega) (by omega)]
  simp only [Option.bind_some]
  by_cases c : gC l = true
  · rw [if_pos c, if_pos c]
    have h := s_nn_loop l.length k l 0 [] [] (by omega) (by omega) (by have := gC_le c; omega) (gC_le c) (by simp) (by simp) (by rw [List.drop_zero]; exact gC_all c)
    rw [List.drop_zero] at h
    exact h
  · rw [if_neg c, if_neg c]
theorem i_resD (k : Nat) (l : List I) (hk : l.length + 2000 < k) (hl : l.length ≤ 1048576) : impl_NamesNeeded.f k l = some (resD l) := by
  unfold impl_NamesNeeded.f resD
  rw [i_code k l (by omega) (by omega)]
  simp only [Option.bind_some]
  by_cases c : gC l = true
  · rw [if_pos c, if_pos c]
    have h := i_nn_loop l.length k l 0 (List.replicate 8 false) [] [] (by omega) (by omega) (by have := gC_le c; omega) (gC_le c) (by simp) (by simp) (fun v v0 v1 => by
      rw [List.getD_eq_getElem?_getD, List.getElem?_replicate]
      split <;> simp) (by rw [List.drop_zero]; exact gC_all c)
    rw [List.drop_zero, List.nil_append] at h
    exact h
  · rw [if_neg c, if_neg c]
end FnExactNamesNeeded
open FnExactNamesNeeded in
theorem FnExactNamesNeeded : laws_FnExactNamesNeeded.Pure := by
  intro l hF
  obtain ⟨k, hk⟩ : ∃ k : Nat, k = 3000000 := ⟨_, rfl⟩
  refine ⟨k + 3, ?_⟩
  unfold laws_FnExactNamesNeeded.f
  obtain ⟨r, e, h⟩ := sz_code l 1048576 (by omega) (by omega) hF.1
  rw [e]; simp only [Option.bind_some]
  by_cases c : r < 0
  · rw [if_pos c]
  · rw [if_neg c]
    have hl : l.length ≤ 1048576 := by omega
    have hm : (l.map cv).length = l.length := List.length_map ..
    have hlen := resD_len (l.map cv)
    rw [to_code (k + 3) l (by omega) (by omega)]; simp only [Option.bind_some]
    rw [s_resD (k + 3) (l.map cv) (by omega) (by omega), i_resD (k + 3) (l.map cv) (by omega) (by omega)]; simp only [Option.bind_some]
    rw [eq_self (k + 3) _ (by omega) (by omega)]
    simp only [Option.bind_some, if_true, bne_self_eq_false]
    simp only [laws_FnExactNamesNeeded.j0, Bool.false_eq_true, if_false]
    rw [to_code (k + 2) l (by omega) (by omega)]; simp only [Option.bind_some]
    rw [eq_code (k + 2) (l.map cv) (by omega) (by omega)]; simp only [Option.bind_some, if_true]
    obtain ⟨y1, m1⟩ := marki (k + 2) (l.map cv) 1 (by omega) (by omega) (by omega) (by omega)
    rw [m1]; simp only [Option.bind_some]
    rw [if_neg (by omega), eq_self (k + 2) _ (by omega) (by omega)]
    simp only [Option.bind_some, if_true, bne_self_eq_false]
    simp only [laws_FnExactNamesNeeded.j1, Bool.false_eq_true, if_false]
    obtain ⟨g1, gl1, ge1, gh1⟩ := marked (k + 1) (resD (l.map cv)).1 1 (by omega) (by omega) (by omega) (by omega)
    rw [ge1]; simp only [Option.bind_some]
    rw [held (k + 1) g1 1 (by omega) (by omega) (by omega) (by omega) (fun j j0 j1 => gh1 j j0 (by omega))]; simp only [Option.bind_some]
    rw [if_neg (by omega), gl1, if_pos rfl, to_code (k + 1) l (by omega) (by omega)]; simp only [Option.bind_some]
    rw [i_resD (k + 1) (l.map cv) (by omega) (by omega)]; simp only [Option.bind_some]
    rw [eq_self (k + 1) _ (by omega) (by omega)]
    simp only [Option.bind_some, if_true, bne_self_eq_false]
    simp only [laws_FnExactNamesNeeded.j2, Bool.false_eq_true, if_false]
    rw [held k g1 1 (by omega) (by omega) (by omega) (by omega) (fun j j0 j1 => gh1 j j0 (by omega))]; simp only [Option.bind_some]
    rw [if_neg (by omega), gl1, if_pos rfl]

end Go.Proofs.Ytapdpmfijijjfaa.Pure
