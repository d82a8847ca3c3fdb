/- The program's CodeText returns what the reference's returns, and leaves its argument as it was: for all code. No condition. -/
import Derived.Test.YtapdpmfijijjfaaDoorPFnExactCodeTextx6
import Derived.Test.YtapdpmfijijjfaaDoorPlain
namespace Go.Proofs.YtapdpmfijijjfaaDoor.Pure
open Go Go.RowKit Go.Proofs.YtapdpmfijijjfaaDoor.PFnExactCodeText Go.Proofs.YtapdpmfijijjfaaDoorW.PrintWords Go.Proofs.YtapdpmfijijjfaaDoorW.PrintLast Go.Proofs.YtapdpmfijijjfaaDoor.Plain

namespace FnExactCodeText
theorem s_in (a l h : Int) : spec_l1In.f a l h = some (decide (l ≤ a ∧ a ≤ h)) := by
  unfold spec_l1In.f
  by_cases c : a ≥ l
  · rw [if_pos c]; simp [show l ≤ a from c]
  · rw [if_neg c]; simp; omega
theorem i_in (a l h : Int) : impl_in.f a l h = some (decide (l ≤ a ∧ a ≤ h)) := by
  unfold impl_in.f
  by_cases c : a ≥ l
  · rw [if_pos c]; simp [show l ≤ a from c]
  · rw [if_neg c]; simp; omega
/-! Code: steps and what makes them good. -/
abbrev I := S41
def nm (v : Int) : Bool := decide (0 ≤ v ∧ v ≤ 7)
def wd (v : Int) : Bool := decide (0 ≤ v ∧ v ≤ 65535)
def gi (o d a b n : Int) : Bool :=
  if o = 1 then nm d && (a == 0 && (b == 0 && wd n)) else if o = 2 then nm d && (nm a && (b == 0 && n == 0)) else if o = 8 then d == 0 && (nm a && (b == 0 && n == 0)) else decide (3 ≤ o ∧ o ≤ 7) && (nm d && (nm a && (nm b && n == 0)))
def gI (x : I) : Bool := gi x.f0 x.f1 x.f2 x.f3 x.f4
def gC (l : List I) : Bool := l.all gI && decide (l.length ≤ 30)

theorem s_name (v : Int) : spec_l3Name.f v = some (nm v) := by unfold spec_l3Name.f nm; rw [s_in]; rfl
theorem s_word (v : Int) : spec_l1Word.f v = some (wd v) := by unfold spec_l1Word.f wd; rw [s_in]; rfl
theorem s_two (v : Int) : spec_l3Two.f v = some (decide (3 ≤ v ∧ v ≤ 7)) := by unfold spec_l3Two.f; rw [s_in]; rfl
theorem i_name (v : Int) : impl_isName.f v = some (nm v) := by unfold impl_isName.f nm; rw [i_in]; rfl
theorem i_word (v : Int) : impl_isWord.f v = some (wd v) := by unfold impl_isWord.f wd; rw [i_in]; rfl
theorem nm0 : nm 0 = true := by decide
theorem wd0 : wd 0 = true := by decide

theorem s_good (o d a b n : Int) : spec_l3Good.f o d a b n = some (gi o d a b n) := by
  unfold spec_l3Good.f gi
  rw [s_name, s_name, s_name, s_word, s_two]; simp only [Option.bind_some]
  by_cases c1 : o = 1
  · rw [if_pos c1, if_pos c1]
    cases nm d
    · rfl
    · by_cases a0 : a = 0 <;> by_cases b0 : b = 0 <;> simp [a0, b0]
  · rw [if_neg c1, if_neg c1]
    by_cases c2 : o = 2
    · rw [if_pos c2, if_pos c2]
      cases nm d <;> cases nm a <;> by_cases b0 : b = 0 <;> simp [b0]
    · rw [if_neg c2, if_neg c2]
      by_cases c8 : o = 8
      · rw [if_pos c8, if_pos c8]
        by_cases d0 : d = 0 <;> cases nm a <;> by_cases b0 : b = 0 <;> simp [b0, d0]
      · rw [if_neg c8, if_neg c8]
        by_cases c3 : 3 ≤ o ∧ o ≤ 7
        · have h : decide (3 ≤ o ∧ o ≤ 7) = true := by simpa using c3
          rw [h]
          cases nm d <;> cases nm a <;> cases nm b <;> simp
        · have h : decide (3 ≤ o ∧ o ≤ 7) = false := by simpa using c3
          rw [h]; simp

theorem i_instr (k : Nat) (hk : 2 ≤ k) (o d a b n : Int) : impl_isInstr.f k o d a b n = some (gi o d a b n) := by
  obtain ⟨k, rfl⟩ : ∃ m, k = m + 2 := ⟨k - 2, by omega⟩
  unfold impl_isInstr.f gi
  rw [i_name, i_name, i_name, i_word]; simp only [Option.bind_some, impl_isInstr.j0, impl_isInstr.j1]
  by_cases c1 : o = 1
  · subst c1
    by_cases a0 : a = 0 <;> by_cases b0 : b = 0 <;> cases nm d <;> cases wd n <;> simp [a0, b0, nm0] <;> (try (cases nm a <;> cases nm b <;> simp))
  · by_cases c2 : o = 2
    · subst c2
      by_cases n0 : n = 0 <;> by_cases b0 : b = 0 <;> cases nm d <;> cases nm a <;> simp [n0, b0, nm0, wd0] <;> (try (cases nm b <;> cases wd n <;> simp))
    · by_cases c8 : o = 8
      · subst c8
        by_cases d0 : d = 0 <;> by_cases n0 : n = 0 <;> by_cases b0 : b = 0 <;> cases nm a <;> simp [d0, n0, b0, nm0, wd0] <;> (try (cases nm b <;> cases wd n <;> cases nm d <;> simp))
      · rw [if_neg c1, if_neg c2, if_neg c8]
        by_cases c3 : 3 ≤ o ∧ o ≤ 7
        · have h : decide (3 ≤ o ∧ o ≤ 7) = true := by simpa using c3
          rw [h]
          have ho : o = 3 ∨ o = 4 ∨ o = 5 ∨ o = 6 ∨ o = 7 := by omega
          by_cases n0 : n = 0
          · subst n0
            rcases ho with rfl | rfl | rfl | rfl | rfl <;> cases nm d <;> cases nm a <;> cases nm b <;> simp [wd0]
          · rcases ho with rfl | rfl | rfl | rfl | rfl <;> cases nm d <;> cases nm a <;> cases nm b <;> cases wd n <;> simp [n0]
        · have h : decide (3 ≤ o ∧ o ≤ 7) = false := by simpa using c3
          rw [h]
          have e3 : ¬ o = 3 := by omega
          have e4 : ¬ o = 4 := by omega
          have e5 : ¬ o = 5 := by omega
          have e6 : ¬ o = 6 := by omega
          have e7 : ¬ o = 7 := by omega
          cases nm d <;> cases nm a <;> cases nm b <;> cases wd n <;> simp [c1, c2, c8, e3, e4, e5, e6, e7]

theorem rdI_drop {l : List I} {i : Nat} (h : i < l.length) : l.drop i = rd_T41 l (i : Int) :: l.drop (i + 1) := by
  rw [List.drop_eq_getElem_cons h]
  unfold rd_T41
  rw [Int.toNat_natCast, List.getD_eq_getElem?_getD, List.getElem?_eq_getElem h]; rfl

theorem s_code_loop (m : Nat) : ∀ (k : Nat) (x0 l : List I) (i : Nat), i ≤ l.length → l.length - i = m → m < k → l.length ≤ 2000000 →
    spec_GoodCode.l0 k x0 l (l.length : Int) (i : Int) = some ((l.drop i).all gI && decide (x0.length ≤ 30)) := by
  induction m with
  | zero =>
    intro k x0 l i h1 hd hk hn
    obtain ⟨k, rfl⟩ : ∃ m, k = m + 1 := ⟨k - 1, by omega⟩
    simp only [spec_GoodCode.l0]
    rw [if_neg (by omega), List.drop_of_length_le (by omega)]
    have e : decide ((x0.length : Int) ≤ 30) = decide (x0.length ≤ 30) := by congr 1; apply propext; omega
    rw [e]; simp
  | succ m ih =>
    intro k x0 l i h1 hd hk hn
    obtain ⟨k, rfl⟩ : ∃ m, k = m + 1 := ⟨k - 1, by omega⟩
    simp only [spec_GoodCode.l0]
    have wi : wrap64 ((i : Int) + 1) = ((i + 1 : Nat) : Int) := by rw [w64 (by omega) (by omega)]; omega
    rw [if_pos (show (i : Int) < (l.length : Int) by omega), if_pos (show 0 ≤ (i : Int) by omega), if_pos (show (i : Int) < (l.length : Int) by omega), s_good, wi, rdI_drop (l := l) (i := i) (by omega)]
    simp only [Option.bind_some, List.all_cons]
    show (if gI (rd_T41 l (i : Int)) = true then _ else _) = _
    cases h : gI (rd_T41 l (i : Int))
    · simp
    · rw [if_pos rfl, ih k x0 l (i + 1) (by omega) (by omega) (by omega) hn]; simp
theorem s_code (k : Nat) (l : List I) (hk : l.length < k) (hn : l.length ≤ 2000000) : spec_GoodCode.f k l = some (gC l) := by
  unfold spec_GoodCode.f gC
  have h := s_code_loop l.length k l l 0 (by omega) (by omega) hk hn
  rw [List.drop_zero] at h
  exact h
theorem i_index_loop (m : Nat) : ∀ (k : Nat) (l : List I) (i : Nat), i ≤ l.length → l.length - i = m → m + 2 < k → l.length ≤ 2000000 →
    ∃ r, slices_IndexFunc_v39.l0 k l (l.length : Int) (i : Int) = some r ∧ decide (r ≥ 0) = !(l.drop i).all gI := by
  induction m with
  | zero =>
    intro k l i h1 hd hk hn
    obtain ⟨k, rfl⟩ : ∃ m, k = m + 1 := ⟨k - 1, by omega⟩
    simp only [slices_IndexFunc_v39.l0]
    rw [if_neg (by omega), List.drop_of_length_le (by omega)]
    exact ⟨_, rfl, by decide⟩
  | succ m ih =>
    intro k l i h1 hd hk hn
    obtain ⟨k, rfl⟩ : ∃ m, k = m + 1 := ⟨k - 1, by omega⟩
    simp only [slices_IndexFunc_v39.l0]
    have wi : wrap64 ((i : Int) + 1) = ((i + 1 : Nat) : Int) := by rw [w64 (by omega) (by omega)]; omega
    unfold impl_isCode_1.f
    rw [if_pos (show (i : Int) < (l.length : Int) by omega), if_pos (show 0 ≤ (i : Int) by omega), if_pos (show (i : Int) < (l.length : Int) by omega), i_instr k (by omega), wi, rdI_drop (l := l) (i := i) (by omega)]
    simp only [Option.bind_some, List.all_cons]
    show ∃ r, (if (!gI (rd_T41 l (i : Int))) = true then _ else _) = _ ∧ _
    cases h : gI (rd_T41 l (i : Int))
    · exact ⟨(i : Int), by simp, by simp⟩
    · obtain ⟨r, e1, e2⟩ := ih k l (i + 1) (by omega) (by omega) (by omega) hn
      exact ⟨r, by simpa using e1, by simpa using e2⟩
theorem i_code (k : Nat) (l : List I) (hk : l.length + 2 < k) (hn : l.length ≤ 2000000) : impl_isCode.f k l = some (gC l) := by
  unfold impl_isCode.f gC
  by_cases c : l.length ≤ 30
  · rw [if_pos (by omega)]
    unfold slices_ContainsFunc_v39.f slices_IndexFunc_v39.f
    obtain ⟨r, e1, e2⟩ := i_index_loop l.length k l 0 (by omega) (by omega) hk hn
    rw [show ((0 : Nat) : Int) = 0 from rfl] at e1
    rw [List.drop_zero] at e2
    rw [e1]; simp only [Option.bind_some]
    rw [e2]; simp [c]
  · rw [if_neg (by omega)]; simp [c]

/-! The law's own words. -/
def cv (x : S57) : I := ⟨x.f0, x.f1, x.f2, x.f3, x.f4⟩
theorem sz_code (l : List S57) (left : Int) (h0 : 0 ≤ left) (h1 : left ≤ 1048576) (hl : l.length ≤ 9223372036854775807) : ∃ r, laws_szInstrS.f l left = some r ∧ (r < 0 ∨ (l.length : Int) ≤ left ∧ r = left - l.length) := by
  unfold laws_szInstrS.f
  rw [w64 (by omega) (by omega)]
  by_cases c : left - (l.length : Int) < 0
  · rw [if_pos c]; exact ⟨_, rfl, .inl (by decide)⟩
  · rw [if_neg c]; exact ⟨_, rfl, .inr ⟨by omega, rfl⟩⟩
theorem to_loop (m : Nat) : ∀ (k : Nat) (x : List S57) (y : List I) (i : Nat), i ≤ x.length → x.length - i = m → m < k → x.length ≤ 2000000 → y.length = x.length →
    (∀ j, j < i → y[j]? = (x.map cv)[j]?) → laws_toInstrS.l0 k x y (i : Int) = some (x.map cv) := by
  induction m with
  | zero =>
    intro k x y i h1 hd hk hn hy hat
    obtain ⟨k, rfl⟩ : ∃ m, k = m + 1 := ⟨k - 1, by omega⟩
    simp only [laws_toInstrS.l0]
    rw [if_neg (by omega)]
    congr 1
    apply List.ext_getElem?
    intro j
    by_cases c : j < i
    · exact hat j c
    · rw [List.getElem?_eq_none (by omega), List.getElem?_eq_none (by rw [List.length_map]; omega)]
  | succ m ih =>
    intro k x y i h1 hd hk hn hy hat
    obtain ⟨k, rfl⟩ : ∃ m, k = m + 1 := ⟨k - 1, by omega⟩
    simp only [laws_toInstrS.l0]
    have wi : wrap64 ((i : Int) + 1) = ((i + 1 : Nat) : Int) := by rw [w64 (by omega) (by omega)]; omega
    rw [if_pos (show (i : Int) < (x.length : Int) by omega), if_pos (show 0 ≤ (i : Int) by omega)]
    unfold laws_toInstr.f
    simp only [Option.bind_some]
    rw [if_pos (show (i : Int) < (y.length : Int) by omega), wi]
    apply ih k x _ (i + 1) (by omega) (by omega) (by omega) hn (by simp [hy])
    intro j hj
    rw [Int.toNat_natCast]
    by_cases c : j = i
    · subst c
      rw [List.getElem?_set_self (by omega), List.getElem?_map]
      unfold rd_T57
      rw [Int.toNat_natCast, List.getD_eq_getElem?_getD, List.getElem?_eq_getElem (show j < x.length by omega)]
      rfl
    · rw [List.getElem?_set_ne (by omega)]; exact hat j (by omega)
theorem to_code (k : Nat) (x : List S57) (hk : x.length < k) (hn : x.length ≤ 2000000) : laws_toInstrS.f k x = some (x.map cv) := by
  unfold laws_toInstrS.f
  rw [if_pos (by omega), if_pos (by omega)]
  exact to_loop x.length k x _ 0 (by omega) (by omega) hk hn (by simp) (fun j hj => by omega)
theorem eq_code_loop (m : Nat) : ∀ (k : Nat) (l : List I) (i : Nat), i ≤ l.length → l.length - i = m → m < k → l.length ≤ 2000000 → laws_eqInstrS.l0 k l l (i : Int) = some true := by
  induction m with
  | zero =>
    intro k l i h1 hd hk hn
    obtain ⟨k, rfl⟩ : ∃ m, k = m + 1 := ⟨k - 1, by omega⟩
    simp only [laws_eqInstrS.l0]
    rw [if_neg (by omega)]
  | succ m ih =>
    intro k l i h1 hd hk hn
    obtain ⟨k, rfl⟩ : ∃ m, k = m + 1 := ⟨k - 1, by omega⟩
    have wi : wrap64 ((i : Int) + 1) = ((i + 1 : Nat) : Int) := by rw [w64 (by omega) (by omega)]; omega
    simp only [laws_eqInstrS.l0, laws_eqInstr.f]
    rw [if_pos (show (i : Int) < (l.length : Int) by omega), if_pos (show 0 ≤ (i : Int) by omega), if_pos (show (i : Int) < (l.length : Int) by omega), wi]
    simp only [if_true, Option.bind_some]
    exact ih k l (i + 1) (by omega) (by omega) (by omega) hn
theorem eq_code (k : Nat) (l : List I) (hk : l.length < k) (hn : l.length ≤ 2000000) : laws_eqInstrS.f k l l = some true := by
  unfold laws_eqInstrS.f
  rw [if_pos rfl]; exact eq_code_loop l.length k l 0 (by omega) (by omega) hk hn
/-! The texts of steps and of code. -/
def lt (v : Int) : ByteArray := strOfNums [97 + v]
def num (n : Int) : ByteArray := ⟨(Lib.itoa n).toArray⟩
def sgn (o : Int) : ByteArray := (⟨#[43, 45, 42, 60, 126]⟩ : ByteArray).extract (o - 3).toNat (o - 3 + 1).toNat
def txt (x : I) : ByteArray :=
  if x.f0 = 1 then (lt x.f1 ++ (⟨#[61]⟩ : ByteArray)) ++ num x.f4 else if x.f0 = 2 then (lt x.f1 ++ (⟨#[61]⟩ : ByteArray)) ++ lt x.f2 else if x.f0 = 8 then (⟨#[33]⟩ : ByteArray) ++ lt x.f2
  else (lt x.f1 ++ (⟨#[61]⟩ : ByteArray)) ++ ((lt x.f2 ++ sgn x.f0) ++ lt x.f3)
def J (xs : List ByteArray) : ByteArray := ⟨(Lib.join (xs.map (·.data.toList)) [59]).toArray⟩
theorem gI_cases {x : I} (h : gI x = true) : (x.f0 = 1 ∧ (0 ≤ x.f1 ∧ x.f1 ≤ 7) ∧ (0 ≤ x.f4 ∧ x.f4 ≤ 65535)) ∨ (x.f0 = 2 ∧ (0 ≤ x.f1 ∧ x.f1 ≤ 7) ∧ (0 ≤ x.f2 ∧ x.f2 ≤ 7)) ∨ (x.f0 = 8 ∧ x.f1 = 0 ∧ (0 ≤ x.f2 ∧ x.f2 ≤ 7)) ∨
    ((3 ≤ x.f0 ∧ x.f0 ≤ 7) ∧ (0 ≤ x.f1 ∧ x.f1 ≤ 7) ∧ (0 ≤ x.f2 ∧ x.f2 ≤ 7) ∧ (0 ≤ x.f3 ∧ x.f3 ≤ 7)) := by
  unfold gI gi nm wd at h
  by_cases c1 : x.f0 = 1
  · rw [if_pos c1] at h
    simp only [Bool.and_eq_true, decide_eq_true_eq] at h
    exact .inl ⟨c1, h.1, h.2.2.2⟩
  · rw [if_neg c1] at h
    by_cases c2 : x.f0 = 2
    · rw [if_pos c2] at h
      simp only [Bool.and_eq_true, decide_eq_true_eq] at h
      exact .inr (.inl ⟨c2, h.1, h.2.1⟩)
    · rw [if_neg c2] at h
      by_cases c8 : x.f0 = 8
      · rw [if_pos c8] at h
        simp only [Bool.and_eq_true, decide_eq_true_eq, beq_iff_eq] at h
        exact .inr (.inr (.inl ⟨c8, h.1, h.2.1⟩))
      · rw [if_neg c8] at h
        simp only [Bool.and_eq_true, decide_eq_true_eq] at h
        exact .inr (.inr (.inr ⟨h.1, h.2.1, h.2.2.1, h.2.2.2.1⟩))
theorem lt_size (v : Int) : (lt v).size = 1 := rfl
theorem i_letter {v : Int} (h : 0 ≤ v ∧ v ≤ 7) : impl_letter.f v = some (lt v) := by unfold impl_letter.f; rw [if_pos h]; rfl
theorem s_letter {v : Int} (h : 0 ≤ v ∧ v ≤ 7) : spec_l3Letter.f v = some (lt v) := by
  unfold spec_l3Letter.f lt
  rw [w64 (by omega) (by omega), Int.emod_eq_of_lt (by omega) (by omega)]
theorem digits_le (m : Nat) : ∀ u : Nat, u < 10 ^ (m + 1) → (Lib.decDigits u).length ≤ m + 1 := by
  induction m with
  | zero => intro u h; rw [Lib.decDigits_one (by simpa using h)]; simp
  | succ m ih =>
    intro u h
    by_cases c : u < 10
    · rw [Lib.decDigits_one c]; simp
    · rw [Lib.decDigits, dif_neg c, List.length_append]
      have h2 : u / 10 < 10 ^ (m + 1) := by rw [Nat.pow_succ] at h; exact Nat.div_lt_of_lt_mul (by omega)
      have := ih (u / 10) h2
      simp only [List.length_singleton]; omega
theorem num_size {n : Int} (h : 0 ≤ n ∧ n ≤ 65535) : (num n).size ≤ 5 := by
  unfold num Lib.itoa
  rw [if_neg (by omega)]
  show (Lib.decDigits n.toNat).toArray.size ≤ 5
  rw [List.size_toArray]
  exact digits_le 4 n.toNat (by omega)
theorem sgn_size {o : Int} (h : 3 ≤ o ∧ o ≤ 7) : (sgn o).size = 1 := by
  unfold sgn
  rw [ByteArray.size_extract]
  have : (⟨#[43, 45, 42, 60, 126]⟩ : ByteArray).size = 5 := rfl
  rw [this]; omega
theorem mk_app (a b : List UInt8) : (⟨a.toArray⟩ : ByteArray) ++ ⟨b.toArray⟩ = ⟨(a ++ b).toArray⟩ := by apply ByteArray.ext; simp [ByteArray.data_append]
theorem s_num (m : Nat) : ∀ (k u : Nat), u < 10 ^ (m + 1) → m < 100 ∧ u ≤ 65535 → m < k → spec_l1Num.f k (u : Int) = some (num u) := by
  induction m with
  | zero =>
    intro k u h hm hk
    obtain ⟨k, rfl⟩ : ∃ m, k = m + 1 := ⟨k - 1, by omega⟩
    rw [Nat.zero_add, Nat.pow_one] at h
    simp only [spec_l1Num.f]
    rw [if_neg (by omega), if_pos (by omega), w64 (by omega) (by omega), Int.emod_eq_of_lt (by omega) (by omega)]
    unfold num Lib.itoa strOfNums
    rw [if_neg (by omega), Int.toNat_natCast, Lib.decDigits_one (by omega)]
    simp only [List.map_cons, List.map_nil]
    rw [show ((48 : Int) + (u : Int)).toNat = 48 + u by omega]
  | succ m ih =>
    intro k u h hm hk
    obtain ⟨k, rfl⟩ : ∃ m, k = m + 1 := ⟨k - 1, by omega⟩
    simp only [spec_l1Num.f]
    rw [if_neg (by omega)]
    by_cases c : (u : Int) < 10
    · rw [if_pos c, w64 (by omega) (by omega), Int.emod_eq_of_lt (by omega) (by omega)]
      unfold num Lib.itoa strOfNums
      rw [if_neg (by omega), Int.toNat_natCast, Lib.decDigits_one (by omega)]
      simp only [List.map_cons, List.map_nil]
      rw [show ((48 : Int) + (u : Int)).toNat = 48 + u by omega]
    · have h2 : u / 10 < 10 ^ (m + 1) := by rw [Nat.pow_succ] at h; exact Nat.div_lt_of_lt_mul (by omega)
      have e1 : Int.tdiv (u : Int) 10 = ((u / 10 : Nat) : Int) := by rw [Int.tdiv_eq_ediv_of_nonneg (by omega)]; omega
      have e2 : Int.tmod (u : Int) 10 = ((u % 10 : Nat) : Int) := by rw [Int.tmod_eq_emod_of_nonneg (by omega)]; omega
      rw [if_neg c, e1, e2]
      rw [w64 (n := ((u / 10 : Nat) : Int)) (by omega) (by omega), ih k (u / 10) h2 (by omega) (by omega)]
      simp only [Option.bind_some]
      rw [w64 (by omega) (by omega), Int.emod_eq_of_lt (by omega) (by omega)]
      have hs : (num ((u / 10 : Nat) : Int)).size ≤ m + 1 := by
        unfold num Lib.itoa
        rw [if_neg (by omega)]
        show (Lib.decDigits _).toArray.size ≤ m + 1
        rw [List.size_toArray, Int.toNat_natCast]
        exact digits_le m _ h2
      have hs2 : (strOfNums [48 + ((u % 10 : Nat) : Int)]).size = 1 := rfl
      rw [if_pos (by omega)]
      congr 1
      unfold num Lib.itoa strOfNums
      rw [if_neg (by omega), if_neg (by omega), Int.toNat_natCast, Int.toNat_natCast, mk_app]
      rw [Lib.decDigits.eq_def u, dif_neg (by omega)]
      simp only [List.map_cons, List.map_nil]
      rw [show ((48 : Int) + ((u % 10 : Nat) : Int)).toNat = 48 + u % 10 by omega]
theorem s_num' {k : Nat} {n : Int} (h : 0 ≤ n ∧ n ≤ 65535) (hk : 10 ≤ k) : spec_l1Num.f k n = some (num n) := by
  have := s_num 4 k n.toNat (by omega) ⟨by omega, by omega⟩ (by omega)
  rwa [Int.toNat_of_nonneg h.1] at this
theorem i_itoa {n : Int} (h : 0 ≤ n ∧ n ≤ 65535) : strconv_Itoa_42.f n = some (num n) := by unfold strconv_Itoa_42.f num; rw [if_pos (by omega)]
theorem s_sign {o : Int} (h : 3 ≤ o ∧ o ≤ 7) : spec_l3Sign.f o = some (sgn o) := by
  unfold spec_l3Sign.f sgn
  rw [w64 (n := o - 3) (by omega) (by omega), w64 (by omega) (by omega), if_pos (by omega), if_pos (by omega), if_pos (by omega)]
theorem c61 : (⟨#[61]⟩ : ByteArray).size = 1 := rfl
theorem c33 : (⟨#[33]⟩ : ByteArray).size = 1 := rfl
theorem c59 : (⟨#[59]⟩ : ByteArray).size = 1 := rfl
theorem s_text {k : Nat} {x : I} (h : gI x = true) (hk : 10 ≤ k) : spec_l3Text.f k x.f0 x.f1 x.f2 x.f3 x.f4 = some (txt x) := by
  unfold spec_l3Text.f txt
  rcases gI_cases h with ⟨c, h1, h2⟩ | ⟨c, h1, h2⟩ | ⟨c, h1, h2⟩ | ⟨c, h1, h2, h3⟩
  · have := num_size h2
    rw [if_pos c, if_pos c, s_letter h1]; simp only [Option.bind_some]
    rw [if_pos (by rw [lt_size]; omega), s_num' h2 hk]; simp only [Option.bind_some]
    rw [if_pos (by rw [ByteArray.size_append, lt_size, c61]; omega)]
  · have n1 : ¬ x.f0 = 1 := by omega
    simp only [if_neg n1, if_pos c]
    rw [s_letter h1]; simp only [Option.bind_some]
    rw [if_pos (by rw [lt_size]; omega), s_letter h2]; simp only [Option.bind_some]
    rw [if_pos (by rw [ByteArray.size_append, lt_size, lt_size, c61]; omega)]
  · have n1 : ¬ x.f0 = 1 := by omega
    have n2 : ¬ x.f0 = 2 := by omega
    simp only [if_neg n1, if_neg n2, if_pos c]
    rw [s_letter h2]; simp only [Option.bind_some]
    rw [if_pos (by rw [lt_size]; omega)]
  · have n1 : ¬ x.f0 = 1 := by omega
    have n2 : ¬ x.f0 = 2 := by omega
    have n8 : ¬ x.f0 = 8 := by omega
    simp only [if_neg n1, if_neg n2, if_neg n8]
    rw [s_letter h1, s_letter h2, s_letter h3, s_sign c]; simp only [Option.bind_some]
    rw [if_pos (by rw [lt_size]; omega), if_pos (by simp only [ByteArray.size_append, lt_size, c61]; omega), if_pos (by simp only [ByteArray.size_append, lt_size, c61, sgn_size c]; omega), if_pos (by simp only [ByteArray.size_append, lt_size, c61, sgn_size c]; omega)]
    simp only [ByteArray.append_assoc]
theorem txt_size {x : I} (h : gI x = true) : (txt x).size ≤ 10 := by
  unfold txt
  rcases gI_cases h with ⟨c, h1, h2⟩ | ⟨c, h1, h2⟩ | ⟨c, h1, h2⟩ | ⟨c, h1, h2, h3⟩
  · have := num_size h2
    rw [if_pos c]; simp only [ByteArray.size_append, lt_size, c61]; omega
  · rw [if_neg (by omega), if_pos c]; simp only [ByteArray.size_append, lt_size, c61]; omega
  · rw [if_neg (by omega), if_neg (by omega), if_pos c]; simp only [ByteArray.size_append, lt_size, c33]; omega
  · rw [if_neg (by omega), if_neg (by omega), if_neg (by omega)]; simp only [ByteArray.size_append, lt_size, c61, sgn_size c]; omega
theorem J_nil : J [] = ⟨#[]⟩ := rfl
theorem tl_snoc (sep : List UInt8) (r : List (List UInt8)) (y : List UInt8) : Lib.joinTail sep (r ++ [y]) = Lib.joinTail sep r ++ (sep ++ y) := by simp [Lib.joinTail]
theorem J_one (t : ByteArray) : J [t] = t := by unfold J; simp [Lib.join_one]
theorem J_snoc (x : ByteArray) (r : List ByteArray) (t : ByteArray) : J ((x :: r) ++ [t]) = (J (x :: r) ++ (⟨#[59]⟩ : ByteArray)) ++ t := by
  apply ByteArray.ext
  unfold J
  simp only [List.cons_append, List.map_cons, List.map_append, List.map_nil, Lib.join_cons, tl_snoc, ByteArray.data_append]
  simp
theorem J_size (l : List I) (h : ∀ x ∈ l, gI x = true) : (J (l.map txt)).size ≤ 11 * l.length := by
  cases l with
  | nil => exact Nat.le_refl _
  | cons x r =>
    unfold J
    show (List.toArray _).size ≤ _
    rw [List.size_toArray, List.map_cons, List.map_cons, Lib.join_length]
    have e : ∀ l : List I, (∀ x ∈ l, gI x = true) → Lib.lens ((l.map txt).map (·.data.toList)) ≤ 10 * l.length := by
      intro l
      induction l with
      | nil => intro _; simp [Lib.lens]
      | cons y l ih =>
        intro hl
        have h1 := ih (fun x hx => hl x (List.mem_cons_of_mem _ hx))
        have h2 := txt_size (hl y (List.mem_cons_self ..))
        have h3 : Lib.lens (((y :: l).map txt).map (·.data.toList)) = (txt y).size + Lib.lens ((l.map txt).map (·.data.toList)) := by
          show ((List.map (fun b : ByteArray => b.data.toList) ((y :: l).map txt)).map List.length).sum = _
          rw [List.map_cons, List.map_cons, List.map_cons, List.sum_cons]; rfl
        rw [h3, List.length_cons]; omega
    have h4 := e (x :: r) h
    rw [List.map_cons, List.map_cons] at h4
    simp only [List.length_cons, List.length_nil, List.length_map] at h4 ⊢
    omega
theorem take_rd (l : List I) (i : Nat) (h : i < l.length) : (l.take (i + 1)).map txt = (l.take i).map txt ++ [txt (rd_T41 l (i : Int))] := by
  rw [List.take_add_one, List.map_append]
  unfold rd_T41
  rw [Int.toNat_natCast, List.getD_eq_getElem?_getD, List.getElem?_eq_getElem h]; rfl
theorem rd_good {l : List I} (hg : ∀ x ∈ l, gI x = true) (i : Nat) (h : i < l.length) : gI (rd_T41 l (i : Int)) = true := by
  unfold rd_T41
  rw [Int.toNat_natCast, List.getD_eq_getElem?_getD, List.getElem?_eq_getElem h]
  exact hg _ (List.getElem_mem h)
theorem s_text_loop (m : Nat) : ∀ (k : Nat) (l : List I) (i : Nat), i ≤ l.length → l.length - i = m → m + 100 < k → l.length ≤ 30 → (∀ x ∈ l, gI x = true) →
    spec_CodeText.l0 k (J ((l.take i).map txt)) l (l.length : Int) (i : Int) = some (J (l.map txt), true) := by
  induction m with
  | zero =>
    intro k l i h1 hd hk hn hg
    obtain ⟨k, rfl⟩ : ∃ m, k = m + 1 := ⟨k - 1, by omega⟩
    simp only [spec_CodeText.l0]
    rw [if_neg (by omega), List.take_of_length_le (by omega)]
  | succ m ih =>
    intro k l i h1 hd hk hn hg
    obtain ⟨k, rfl⟩ : ∃ m, k = m + 1 := ⟨k - 1, by omega⟩
    have wi : wrap64 ((i : Int) + 1) = ((i + 1 : Nat) : Int) := by rw [w64 (by omega) (by omega)]; omega
    have hx := rd_good hg i (by omega)
    have ht := txt_size hx
    have hs := J_size (l.take i) (fun x hx => hg x (List.mem_of_mem_take hx))
    have hlt : (l.take i).length = i := by rw [List.length_take]; omega
    rw [hlt] at hs
    have hr := ih k l (i + 1) (by omega) (by omega) (by omega) hn hg
    rw [take_rd l i (by omega)] at hr
    simp only [spec_CodeText.l0]
    rw [if_pos (show (i : Int) < (l.length : Int) by omega), if_pos (show 0 ≤ (i : Int) by omega), if_pos (show (i : Int) < (l.length : Int) by omega), wi]
    by_cases c : (i : Int) > 0
    · rw [if_pos c, if_pos (by omega), s_text hx (by omega)]; simp only [Option.bind_some]
      rw [if_pos (by rw [ByteArray.size_append, c59]; omega)]
      obtain ⟨y, r, hyr⟩ : ∃ y r, (l.take i).map txt = y :: r := by
        cases hq : (l.take i).map txt with
        | nil => have := congrArg List.length hq; rw [List.length_map, hlt] at this; simp at this; omega
        | cons y r => exact ⟨y, r, rfl⟩
      rw [hyr] at hr ⊢
      rw [J_snoc] at hr
      exact hr
    · have i0 : i = 0 := by omega
      subst i0
      rw [if_neg c, s_text hx (by omega)]; simp only [Option.bind_some]
      rw [List.take_zero, List.map_nil] at hr hs ⊢
      rw [List.nil_append, J_one] at hr
      have e0 : (J ([] : List ByteArray)) ++ txt (rd_T41 l ((0 : Nat) : Int)) = txt (rd_T41 l ((0 : Nat) : Int)) := by apply ByteArray.ext; rw [ByteArray.data_append, J_nil]; simp
      rw [if_pos (by omega), e0]
      exact hr
theorem i_join (l : List I) (hn : l.length ≤ 30) (hg : ∀ x ∈ l, gI x = true) : strings_Join.f (l.map txt) (⟨#[59]⟩ : ByteArray) = some (J (l.map txt)) := by
  have hs := J_size l hg
  have e : (J (l.map txt)).size = (Lib.join ((l.map txt).map (·.data.toList)) [59]).length := by unfold J; simp [ByteArray.size]
  unfold strings_Join.f J
  rw [if_pos ⟨by rw [List.length_map]; omega, by rw [e] at hs; exact Nat.le_trans hs (by omega)⟩]
theorem i_text_loop (m : Nat) : ∀ (k : Nat) (l : List I) (i : Nat), i ≤ l.length → l.length - i = m → m < k → l.length ≤ 30 → (∀ x ∈ l, gI x = true) →
    impl_codeText.l0 k ((l.take i).map txt) l (l.length : Int) (i : Int) = some (J (l.map txt)) := by
  induction m with
  | zero =>
    intro k l i h1 hd hk hn hg
    obtain ⟨k, rfl⟩ : ∃ m, k = m + 1 := ⟨k - 1, by omega⟩
    simp only [impl_codeText.l0]
    rw [if_neg (by omega), List.take_of_length_le (by omega), i_join l hn hg]; rfl
  | succ m ih =>
    intro k l i h1 hd hk hn hg
    obtain ⟨k, rfl⟩ : ∃ m, k = m + 1 := ⟨k - 1, by omega⟩
    have wi : wrap64 ((i : Int) + 1) = ((i + 1 : Nat) : Int) := by rw [w64 (by omega) (by omega)]; omega
    have hx := rd_good hg i (by omega)
    have hlt : ((l.take i).map txt).length = i := by rw [List.length_map, List.length_take]; omega
    have hr := ih k l (i + 1) (by omega) (by omega) (by omega) hn hg
    rw [take_rd l i (by omega)] at hr
    simp only [impl_codeText.l0]
    rw [if_pos (show (i : Int) < (l.length : Int) by omega), if_pos (show 0 ≤ (i : Int) by omega), if_pos (show (i : Int) < (l.length : Int) by omega), wi]
    generalize rd_T41 l (i : Int) = x at hx hr ⊢
    unfold txt at hr
    rcases gI_cases hx with ⟨c, h1, h2⟩ | ⟨c, h1, h2⟩ | ⟨c, h1, h2⟩ | ⟨c, h1, h2, h3⟩
    · have := num_size h2
      rw [if_pos c] at hr
      rw [i_letter h1]; simp only [Option.bind_some]
      rw [if_pos (by rw [lt_size]; omega), if_pos c, i_itoa h2]; simp only [Option.bind_some]
      rw [if_pos (by rw [ByteArray.size_append, lt_size, c61]; omega), if_pos (by omega)]
      exact hr
    · rw [if_neg (by omega), if_pos c] at hr
      rw [i_letter h1]; simp only [Option.bind_some]
      rw [if_pos (by rw [lt_size]; omega), if_neg (by omega), if_pos c, i_letter h2]; simp only [Option.bind_some]
      rw [if_pos (by rw [ByteArray.size_append, lt_size, lt_size, c61]; omega), if_pos (by omega)]
      exact hr
    · rw [if_neg (by omega), if_neg (by omega), if_pos c] at hr
      rw [i_letter (by omega)]; simp only [Option.bind_some]
      rw [if_pos (by rw [lt_size]; omega), if_neg (by omega), if_neg (by omega), if_pos c, i_letter h2]; simp only [Option.bind_some]
      rw [if_pos (by rw [lt_size]; omega), if_pos (by omega)]
      exact hr
    · rw [if_neg (by omega), if_neg (by omega), if_neg (by omega)] at hr
      have es := sgn_size c
      unfold sgn at es hr
      rw [i_letter h1, i_letter h2, i_letter h3]; simp only [Option.bind_some]
      rw [w64 (n := x.f0 - 3) (by omega) (by omega), w64 (n := x.f0 - 3 + 1) (by omega) (by omega)]
      rw [if_pos (by rw [lt_size]; omega), if_neg (by omega), if_neg (by omega), if_neg (by omega), if_pos (by omega), if_pos (by omega), if_pos (by omega), if_pos (by rw [lt_size, es]; omega),
        if_pos (by rw [ByteArray.size_append, lt_size, lt_size, es]; omega), if_pos (by simp only [ByteArray.size_append, lt_size, es, c61]; omega), if_pos (by omega)]
      exact hr
theorem gC_good {l : List I} (h : gC l = true) : l.length ≤ 30 ∧ ∀ x ∈ l, gI x = true := by
  unfold gC at h; rw [Bool.and_eq_true, decide_eq_true_eq, List.all_eq_true] at h; exact ⟨h.2, h.1⟩
def resT (l : List I) : ByteArray × Bool := if gC l = true then (J (l.map txt), true) else (⟨#[]⟩, false)
theorem s_resT (k : Nat) (l : List I) (hk : 1100000 < k) (hl : l.length ≤ 1048576) : spec_CodeText.f k l = some (resT l) := by
  unfold spec_CodeText.f resT
  rw [s_code k l (by omega) (by omega)]; simp only [Option.bind_some]
  by_cases c : gC l = true
  · rw [if_pos c, if_pos c]
    obtain ⟨h1, h2⟩ := gC_good c
    exact s_text_loop l.length k l 0 (by omega) (by omega) (by omega) h1 h2
  · rw [if_neg c, if_neg c]
theorem i_text (k : Nat) (l : List I) (hk : 100 < k) (h : gC l = true) : impl_codeText.f k l = some (J (l.map txt)) := by
  unfold impl_codeText.f
  obtain ⟨h1, h2⟩ := gC_good h
  exact i_text_loop l.length k l 0 (by omega) (by omega) (by omega) h1 h2
theorem i_resT (k : Nat) (l : List I) (hk : 1100000 < k) (hl : l.length ≤ 1048576) : impl_CodeText.f k l = some (resT l) := by
  unfold impl_CodeText.f resT
  rw [i_code k l (by omega) (by omega)]; simp only [Option.bind_some]
  by_cases c : gC l = true
  · rw [if_pos c, if_pos c, i_text k l (by omega) c]; rfl
  · rw [if_neg c, if_neg c]
end FnExactCodeText
open FnExactCodeText in
theorem FnExactCodeText : laws_FnExactCodeText.Pure := by
  intro l hF
  obtain ⟨k, hk⟩ : ∃ k : Nat, k = 3000000 := ⟨_, rfl⟩
  refine ⟨k + 1, ?_⟩
  unfold laws_FnExactCodeText.f
  obtain ⟨r, e, h⟩ := sz_code l 1048576 (by omega) (by omega) hF.1
  rw [e]; simp only [Option.bind_some]
  by_cases c : r < 0
  · rw [if_pos c]
  · rw [if_neg c]
    have hl : l.length ≤ 1048576 := by omega
    have hm : (l.map cv).length = l.length := List.length_map ..
    rw [to_code (k + 1) l (by omega) (by omega)]; simp only [Option.bind_some]
    rw [s_resT (k + 1) (l.map cv) (by omega) (by omega), i_resT (k + 1) (l.map cv) (by omega) (by omega)]; simp only [Option.bind_some]
    simp only [bne_self_eq_false, if_true]
    simp only [laws_FnExactCodeText.j0, Bool.false_eq_true, if_false]
    rw [to_code k l (by omega) (by omega)]; simp only [Option.bind_some]
    rw [eq_code k (l.map cv) (by omega) (by omega)]; simp

end Go.Proofs.YtapdpmfijijjfaaDoor.Pure
