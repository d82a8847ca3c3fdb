/- The program's ReadCode returns what the reference's returns, and hands back memory of its own: for all texts. No condition. -/
import Derived.Test.YtapdpmfijijjfaaDoorPFnExactReadCodex8
import Derived.Test.YtapdpmfijijjfaaDoorPlain
import Derived.Lib.AtoiAllCases
import Derived.Lib.SplitLaws
import Derived.Lib.Strings
namespace Go.Proofs.YtapdpmfijijjfaaDoor.Pure
open Go Go.RowKit Go.Proofs.YtapdpmfijijjfaaDoor.PFnExactReadCode Go.Proofs.YtapdpmfijijjfaaDoorW.PrintWords Go.Proofs.YtapdpmfijijjfaaDoorW.PrintLast Go.Proofs.YtapdpmfijijjfaaDoor.Plain

namespace FnExactReadCode
theorem s_in (a l h : Int) : spec_l1In.f a l h = some (decide (l ≤ a ∧ a ≤ h)) := by
  unfold spec_l1In.f
  by_cases c : a ≥ l
  · rw [if_pos c]; simp [show l ≤ a from c]
  · rw [if_neg c]; simp; omega
theorem i_in (a l h : Int) : impl_in.f a l h = some (decide (l ≤ a ∧ a ≤ h)) := by
  unfold impl_in.f
  by_cases c : a ≥ l
  · rw [if_pos c]; simp [show l ≤ a from c]
  · rw [if_neg c]; simp; omega
/-! Code: steps and what makes them good. -/
abbrev I := S41
def nm (v : Int) : Bool := decide (0 ≤ v ∧ v ≤ 7)
def wd (v : Int) : Bool := decide (0 ≤ v ∧ v ≤ 65535)
def gi (o d a b n : Int) : Bool :=
  if o = 1 then nm d && (a == 0 && (b == 0 && wd n)) else if o = 2 then nm d && (nm a && (b == 0 && n == 0)) else if o = 8 then d == 0 && (nm a && (b == 0 && n == 0)) else decide (3 ≤ o ∧ o ≤ 7) && (nm d && (nm a && (nm b && n == 0)))
def gI (x : I) : Bool := gi x.f0 x.f1 x.f2 x.f3 x.f4
def gC (l : List I) : Bool := l.all gI && decide (l.length ≤ 30)

theorem s_name (v : Int) : spec_l3Name.f v = some (nm v) := by unfold spec_l3Name.f nm; rw [s_in]; rfl
theorem s_word (v : Int) : spec_l1Word.f v = some (wd v) := by unfold spec_l1Word.f wd; rw [s_in]; rfl
theorem s_two (v : Int) : spec_l3Two.f v = some (decide (3 ≤ v ∧ v ≤ 7)) := by unfold spec_l3Two.f; rw [s_in]; rfl
theorem i_name (v : Int) : impl_isName.f v = some (nm v) := by unfold impl_isName.f nm; rw [i_in]; rfl
theorem i_word (v : Int) : impl_isWord.f v = some (wd v) := by unfold impl_isWord.f wd; rw [i_in]; rfl
theorem nm0 : nm 0 = true := by decide
theorem wd0 : wd 0 = true := by decide

theorem s_good (o d a b n : Int) : spec_l3Good.f o d a b n = some (gi o d a b n) := by
  unfold spec_l3Good.f gi
  rw [s_name, s_name, s_name, s_word, s_two]; simp only [Option.bind_some]
  by_cases c1 : o = 1
  · rw [if_pos c1, if_pos c1]
    cases nm d
    · rfl
    · by_cases a0 : a = 0 <;> by_cases b0 : b = 0 <;> simp [a0, b0]
  · rw [if_neg c1, if_neg c1]
    by_cases c2 : o = 2
    · rw [if_pos c2, if_pos c2]
      cases nm d <;> cases nm a <;> by_cases b0 : b = 0 <;> simp [b0]
    · rw [if_neg c2, if_neg c2]
      by_cases c8 : o = 8
      · rw [if_pos c8, if_pos c8]
        by_cases d0 : d = 0 <;> cases nm a <;> by_cases b0 : b = 0 <;> simp [b0, d0]
      · rw [if_neg c8, if_neg c8]
        by_cases c3 : 3 ≤ o ∧ o ≤ 7
        · have h : decide (3 ≤ o ∧ o ≤ 7) = true := by simpa using c3
          rw [h]
          cases nm d <;> cases nm a <;> cases nm b <;> simp
        · have h : decide (3 ≤ o ∧ o ≤ 7) = false := by simpa using c3
          rw [h]; simp

theorem i_instr (k : Nat) (hk : 2 ≤ k) (o d a b n : Int) : impl_isInstr.f k o d a b n = some (gi o d a b n) := by
  obtain ⟨k, rfl⟩ : ∃ m, k = m + 2 := ⟨k - 2, by omega⟩
  unfold impl_isInstr.f gi
  rw [i_name, i_name, i_name, i_word]; simp only [Option.bind_some, impl_isInstr.j0, impl_isInstr.j1]
  by_cases c1 : o = 1
  · subst c1
    by_cases a0 : a = 0 <;> by_cases b0 : b = 0 <;> cases nm d <;> cases wd n <;> simp [a0, b0, nm0] <;> (try (cases nm a <;> cases nm b <;> simp))
  · by_cases c2 : o = 2
    · subst c2
      by_cases n0 : n = 0 <;> by_cases b0 : b = 0 <;> cases nm d <;> cases nm a <;> simp [n0, b0, nm0, wd0] <;> (try (cases nm b <;> cases wd n <;> simp))
    · by_cases c8 : o = 8
      · subst c8
        by_cases d0 : d = 0 <;> by_cases n0 : n = 0 <;> by_cases b0 : b = 0 <;> cases nm a <;> simp [d0, n0, b0, nm0, wd0] <;> (try (cases nm b <;> cases wd n <;> cases nm d <;> simp))
      · rw [if_neg c1, if_neg c2, if_neg c8]
        by_cases c3 : 3 ≤ o ∧ o ≤ 7
        · have h : decide (3 ≤ o ∧ o ≤ 7) = true := by simpa using c3
          rw [h]
          have ho : o = 3 ∨ o = 4 ∨ o = 5 ∨ o = 6 ∨ o = 7 := by omega
          by_cases n0 : n = 0
          · subst n0
            rcases ho with rfl | rfl | rfl | rfl | rfl <;> cases nm d <;> cases nm a <;> cases nm b <;> simp [wd0]
          · rcases ho with rfl | rfl | rfl | rfl | rfl <;> cases nm d <;> cases nm a <;> cases nm b <;> cases wd n <;> simp [n0]
        · have h : decide (3 ≤ o ∧ o ≤ 7) = false := by simpa using c3
          rw [h]
          have e3 : ¬ o = 3 := by omega
          have e4 : ¬ o = 4 := by omega
          have e5 : ¬ o = 5 := by omega
          have e6 : ¬ o = 6 := by omega
          have e7 : ¬ o = 7 := by omega
          cases nm d <;> cases nm a <;> cases nm b <;> cases wd n <;> simp [c1, c2, c8, e3, e4, e5, e6, e7]

theorem rdI_drop {l : List I} {i : Nat} (h : i < l.length) : l.drop i = rd_T41 l (i : Int) :: l.drop (i + 1) := by
  rw [List.drop_eq_getElem_cons h]
  unfold rd_T41
  rw [Int.toNat_natCast, List.getD_eq_getElem?_getD, List.getElem?_eq_getElem h]; rfl

theorem s_code_loop (m : Nat) : ∀ (k : Nat) (x0 l : List I) (i : Nat), i ≤ l.length → l.length - i = m → m < k → l.length ≤ 2000000 →
    spec_GoodCode.l0 k x0 l (l.length : Int) (i : Int) = some ((l.drop i).all gI && decide (x0.length ≤ 30)) := by
  induction m with
  | zero =>
    intro k x0 l i h1 hd hk hn
    obtain ⟨k, rfl⟩ : ∃ m, k = m + 1 := ⟨k - 1, by omega⟩
    simp only [spec_GoodCode.l0]
    rw [if_neg (by omega), List.drop_of_length_le (by omega)]
    have e : decide ((x0.length : Int) ≤ 30) = decide (x0.length ≤ 30) := by congr 1; apply propext; omega
    rw [e]; simp
  | succ m ih =>
    intro k x0 l i h1 hd hk hn
    obtain ⟨k, rfl⟩ : ∃ m, k = m + 1 := ⟨k - 1, by omega⟩
    simp only [spec_GoodCode.l0]
    have wi : wrap64 ((i : Int) + 1) = ((i + 1 : Nat) : Int) := by rw [w64 (by omega) (by omega)]; omega
    rw [if_pos (show (i : Int) < (l.length : Int) by omega), if_pos (show 0 ≤ (i : Int) by omega), if_pos (show (i : Int) < (l.length : Int) by omega), s_good, wi, rdI_drop (l := l) (i := i) (by omega)]
    simp only [Option.bind_some, List.all_cons]
    show (if gI (rd_T41 l (i : Int)) = true then _ else _) = _
    cases h : gI (rd_T41 l (i : Int))
    · simp
    · rw [if_pos rfl, ih k x0 l (i + 1) (by omega) (by omega) (by omega) hn]; simp
theorem s_code (k : Nat) (l : List I) (hk : l.length < k) (hn : l.length ≤ 2000000) : spec_GoodCode.f k l = some (gC l) := by
  unfold spec_GoodCode.f gC
  have h := s_code_loop l.length k l l 0 (by omega) (by omega) hk hn
  rw [List.drop_zero] at h
  exact h
theorem i_index_loop (m : Nat) : ∀ (k : Nat) (l : List I) (i : Nat), i ≤ l.length → l.length - i = m → m + 2 < k → l.length ≤ 2000000 →
    ∃ r, slices_IndexFunc_v39.l0 k l (l.length : Int) (i : Int) = some r ∧ decide (r ≥ 0) = !(l.drop i).all gI := by
  induction m with
  | zero =>
    intro k l i h1 hd hk hn
    obtain ⟨k, rfl⟩ : ∃ m, k = m + 1 := ⟨k - 1, by omega⟩
    simp only [slices_IndexFunc_v39.l0]
    rw [if_neg (by omega), List.drop_of_length_le (by omega)]
    exact ⟨_, rfl, by decide⟩
  | succ m ih =>
    intro k l i h1 hd hk hn
    obtain ⟨k, rfl⟩ : ∃ m, k = m + 1 := ⟨k - 1, by omega⟩
    simp only [slices_IndexFunc_v39.l0]
    have wi : wrap64 ((i : Int) + 1) = ((i + 1 : Nat) : Int) := by rw [w64 (by omega) (by omega)]; omega
    unfold impl_isCode_1.f
    rw [if_pos (show (i : Int) < (l.length : Int) by omega), if_pos (show 0 ≤ (i : Int) by omega), if_pos (show (i : Int) < (l.length : Int) by omega), i_instr k (by omega), wi, rdI_drop (l := l) (i := i) (by omega)]
    simp only [Option.bind_some, List.all_cons]
    show ∃ r, (if (!gI (rd_T41 l (i : Int))) = true then _ else _) = _ ∧ _
    cases h : gI (rd_T41 l (i : Int))
    · exact ⟨(i : Int), by simp, by simp⟩
    · obtain ⟨r, e1, e2⟩ := ih k l (i + 1) (by omega) (by omega) (by omega) hn
      exact ⟨r, by simpa using e1, by simpa using e2⟩
theorem i_code (k : Nat) (l : List I) (hk : l.length + 2 < k) (hn : l.length ≤ 2000000) : impl_isCode.f k l = some (gC l) := by
  unfold impl_isCode.f gC
  by_cases c : l.length ≤ 30
  · rw [if_pos (by omega)]
    unfold slices_ContainsFunc_v39.f slices_IndexFunc_v39.f
    obtain ⟨r, e1, e2⟩ := i_index_loop l.length k l 0 (by omega) (by omega) hk hn
    rw [show ((0 : Nat) : Int) = 0 from rfl] at e1
    rw [List.drop_zero] at e2
    rw [e1]; simp only [Option.bind_some]
    rw [e2]; simp [c]
  · rw [if_neg (by omega)]; simp [c]

/-! The law's own words. -/
theorem eq_code_loop (m : Nat) : ∀ (k : Nat) (l : List I) (i : Nat), i ≤ l.length → l.length - i = m → m < k → l.length ≤ 2000000 → laws_eqInstrS.l0 k l l (i : Int) = some true := by
  induction m with
  | zero =>
    intro k l i h1 hd hk hn
    obtain ⟨k, rfl⟩ : ∃ m, k = m + 1 := ⟨k - 1, by omega⟩
    simp only [laws_eqInstrS.l0]
    rw [if_neg (by omega)]
  | succ m ih =>
    intro k l i h1 hd hk hn
    obtain ⟨k, rfl⟩ : ∃ m, k = m + 1 := ⟨k - 1, by omega⟩
    have wi : wrap64 ((i : Int) + 1) = ((i + 1 : Nat) : Int) := by rw [w64 (by omega) (by omega)]; omega
    simp only [laws_eqInstrS.l0, laws_eqInstr.f]
    rw [if_pos (show (i : Int) < (l.length : Int) by omega), if_pos (show 0 ≤ (i : Int) by omega), if_pos (show (i : Int) < (l.length : Int) by omega), wi]
    simp only [if_true, Option.bind_some]
    exact ih k l (i + 1) (by omega) (by omega) (by omega) hn
theorem eq_code (k : Nat) (l : List I) (hk : l.length < k) (hn : l.length ≤ 2000000) : laws_eqInstrS.f k l l = some true := by
  unfold laws_eqInstrS.f
  rw [if_pos rfl]; exact eq_code_loop l.length k l 0 (by omega) (by omega) hk hn
/-! The texts of steps and of code. -/
def lt (v : Int) : ByteArray := strOfNums [97 + v]
def num (n : Int) : ByteArray := ⟨(Lib.itoa n).toArray⟩
def sgn (o : Int) : ByteArray := (⟨#[43, 45, 42, 60, 126]⟩ : ByteArray).extract (o - 3).toNat (o - 3 + 1).toNat
def txt (x : I) : ByteArray :=
  if x.f0 = 1 then (lt x.f1 ++ (⟨#[61]⟩ : ByteArray)) ++ num x.f4 else if x.f0 = 2 then (lt x.f1 ++ (⟨#[61]⟩ : ByteArray)) ++ lt x.f2 else if x.f0 = 8 then (⟨#[33]⟩ : ByteArray) ++ lt x.f2
  else (lt x.f1 ++ (⟨#[61]⟩ : ByteArray)) ++ ((lt x.f2 ++ sgn x.f0) ++ lt x.f3)
def J (xs : List ByteArray) : ByteArray := ⟨(Lib.join (xs.map (·.data.toList)) [59]).toArray⟩
theorem gI_cases {x : I} (h : gI x = true) : (x.f0 = 1 ∧ (0 ≤ x.f1 ∧ x.f1 ≤ 7) ∧ (0 ≤ x.f4 ∧ x.f4 ≤ 65535)) ∨ (x.f0 = 2 ∧ (0 ≤ x.f1 ∧ x.f1 ≤ 7) ∧ (0 ≤ x.f2 ∧ x.f2 ≤ 7)) ∨ (x.f0 = 8 ∧ x.f1 = 0 ∧ (0 ≤ x.f2 ∧ x.f2 ≤ 7)) ∨
    ((3 ≤ x.f0 ∧ x.f0 ≤ 7) ∧ (0 ≤ x.f1 ∧ x.f1 ≤ 7) ∧ (0 ≤ x.f2 ∧ x.f2 ≤ 7) ∧ (0 ≤ x.f3 ∧ x.f3 ≤ 7)) := by
  unfold gI gi nm wd at h
  by_cases c1 : x.f0 = 1
  · rw [if_pos c1] at h
    simp only [Bool.and_eq_true, decide_eq_true_eq] at h
    exact .inl ⟨c1, h.1, h.2.2.2⟩
  · rw [if_neg c1] at h
    by_cases c2 : x.f0 = 2
    · rw [if_pos c2] at h
      simp only [Bool.and_eq_true, decide_eq_true_eq] at h
      exact .inr (.inl ⟨c2, h.1, h.2.1⟩)
    · rw [if_neg c2] at h
      by_cases c8 : x.f0 = 8
      · rw [if_pos c8] at h
        simp only [Bool.and_eq_true, decide_eq_true_eq, beq_iff_eq] at h
        exact .inr (.inr (.inl ⟨c8, h.1, h.2.1⟩))
      · rw [if_neg c8] at h
        simp only [Bool.and_eq_true, decide_eq_true_eq] at h
        exact .inr (.inr (.inr ⟨h.1, h.2.1, h.2.2.1, h.2.2.2.1⟩))
theorem lt_size (v : Int) : (lt v).size = 1 := rfl
theorem i_letter {v : Int} (h : 0 ≤ v ∧ v ≤ 7) : impl_letter.f v = some (lt v) := by unfold impl_letter.f; rw [if_pos h]; rfl
theorem digits_le (m : Nat) : ∀ u : Nat, u < 10 ^ (m + 1) → (Lib.decDigits u).length ≤ m + 1 := by
  induction m with
  | zero => intro u h; rw [Lib.decDigits_one (by simpa using h)]; simp
  | succ m ih =>
    intro u h
    by_cases c : u < 10
    · rw [Lib.decDigits_one c]; simp
    · rw [Lib.decDigits, dif_neg c, List.length_append]
      have h2 : u / 10 < 10 ^ (m + 1) := by rw [Nat.pow_succ] at h; exact Nat.div_lt_of_lt_mul (by omega)
      have := ih (u / 10) h2
      simp only [List.length_singleton]; omega
theorem num_size {n : Int} (h : 0 ≤ n ∧ n ≤ 65535) : (num n).size ≤ 5 := by
  unfold num Lib.itoa
  rw [if_neg (by omega)]
  show (Lib.decDigits n.toNat).toArray.size ≤ 5
  rw [List.size_toArray]
  exact digits_le 4 n.toNat (by omega)
theorem sgn_size {o : Int} (h : 3 ≤ o ∧ o ≤ 7) : (sgn o).size = 1 := by
  unfold sgn
  rw [ByteArray.size_extract]
  have : (⟨#[43, 45, 42, 60, 126]⟩ : ByteArray).size = 5 := rfl
  rw [this]; omega
theorem mk_app (a b : List UInt8) : (⟨a.toArray⟩ : ByteArray) ++ ⟨b.toArray⟩ = ⟨(a ++ b).toArray⟩ := by apply ByteArray.ext; simp [ByteArray.data_append]
theorem i_itoa {n : Int} (h : 0 ≤ n ∧ n ≤ 65535) : strconv_Itoa_42.f n = some (num n) := by unfold strconv_Itoa_42.f num; rw [if_pos (by omega)]
theorem c61 : (⟨#[61]⟩ : ByteArray).size = 1 := rfl
theorem c33 : (⟨#[33]⟩ : ByteArray).size = 1 := rfl
theorem c59 : (⟨#[59]⟩ : ByteArray).size = 1 := rfl
theorem txt_size {x : I} (h : gI x = true) : (txt x).size ≤ 10 := by
  unfold txt
  rcases gI_cases h with ⟨c, h1, h2⟩ | ⟨c, h1, h2⟩ | ⟨c, h1, h2⟩ | ⟨c, h1, h2, h3⟩
  · have := num_size h2
    rw [if_pos c]; simp only [ByteArray.size_append, lt_size, c61]; omega
  · rw [if_neg (by omega), if_pos c]; simp only [ByteArray.size_append, lt_size, c61]; omega
  · rw [if_neg (by omega), if_neg (by omega), if_pos c]; simp only [ByteArray.size_append, lt_size, c33]; omega
  · rw [if_neg (by omega), if_neg (by omega), if_neg (by omega)]; simp only [ByteArray.size_append, lt_size, c61, sgn_size c]; omega
theorem J_nil : J [] = ⟨#[]⟩ := rfl
theorem tl_snoc (sep : List UInt8) (r : List (List UInt8)) (y : List UInt8) : Lib.joinTail sep (r ++ [y]) = Lib.joinTail sep r ++ (sep ++ y) := by simp [Lib.joinTail]
theorem J_one (t : ByteArray) : J [t] = t := by unfold J; simp [Lib.join_one]
theorem J_snoc (x : ByteArray) (r : List ByteArray) (t : ByteArray) : J ((x :: r) ++ [t]) = (J (x :: r) ++ (⟨#[59]⟩ : ByteArray)) ++ t := by
  apply ByteArray.ext
  unfold J
  simp only [List.cons_append, List.map_cons, List.map_append, List.map_nil, Lib.join_cons, tl_snoc, ByteArray.data_append]
  simp
theorem J_size (l : List I) (h : ∀ x ∈ l, gI x = true) : (J (l.map txt)).size ≤ 11 * l.length := by
  cases l with
  | nil => exact Nat.le_refl _
  | cons x r =>
    unfold J
    show (List.toArray _).size ≤ _
    rw [List.size_toArray, List.map_cons, List.map_cons, Lib.join_length]
    have e : ∀ l : List I, (∀ x ∈ l, gI x = true) → Lib.lens ((l.map txt).map (·.data.toList)) ≤ 10 * l.length := by
      intro l
      induction l with
      | nil => intro _; simp [Lib.lens]
      | cons y l ih =>
        intro hl
        have h1 := ih (fun x hx => hl x (List.mem_cons_of_mem _ hx))
        have h2 := txt_size (hl y (List.mem_cons_self ..))
        have h3 : Lib.lens (((y :: l).map txt).map (·.data.toList)) = (txt y).size + Lib.lens ((l.map txt).map (·.data.toList)) := by
          show ((List.map (fun b : ByteArray => b.data.toList) ((y :: l).map txt)).map List.length).sum = _
          rw [List.map_cons, List.map_cons, List.map_cons, List.sum_cons]; rfl
        rw [h3, List.length_cons]; omega
    have h4 := e (x :: r) h
    rw [List.map_cons, List.map_cons] at h4
    simp only [List.length_cons, List.length_nil, List.length_map] at h4 ⊢
    omega
theorem take_rd (l : List I) (i : Nat) (h : i < l.length) : (l.take (i + 1)).map txt = (l.take i).map txt ++ [txt (rd_T41 l (i : Int))] := by
  rw [List.take_add_one, List.map_append]
  unfold rd_T41
  rw [Int.toNat_natCast, List.getD_eq_getElem?_getD, List.getElem?_eq_getElem h]; rfl
theorem rd_good {l : List I} (hg : ∀ x ∈ l, gI x = true) (i : Nat) (h : i < l.length) : gI (rd_T41 l (i : Int)) = true := by
  unfold rd_T41
  rw [Int.toNat_natCast, List.getD_eq_getElem?_getD, List.getElem?_eq_getElem h]
  exact hg _ (List.getElem_mem h)
theorem i_join (l : List I) (hn : l.length ≤ 30) (hg : ∀ x ∈ l, gI x = true) : strings_Join.f (l.map txt) (⟨#[59]⟩ : ByteArray) = some (J (l.map txt)) := by
  have hs := J_size l hg
  have e : (J (l.map txt)).size = (Lib.join ((l.map txt).map (·.data.toList)) [59]).length := by unfold J; simp [ByteArray.size]
  unfold strings_Join.f J
  rw [if_pos ⟨by rw [List.length_map]; omega, by rw [e] at hs; exact Nat.le_trans hs (by omega)⟩]
theorem i_text_loop (m : Nat) : ∀ (k : Nat) (l : List I) (i : Nat), i ≤ l.length → l.length - i = m → m < k → l.length ≤ 30 → (∀ x ∈ l, gI x = true) →
    impl_codeText.l0 k ((l.take i).map txt) l (l.length : Int) (i : Int) = some (J (l.map txt)) := by
  induction m with
  | zero =>
    intro k l i h1 hd hk hn hg
    obtain ⟨k, rfl⟩ : ∃ m, k = m + 1 := ⟨k - 1, by omega⟩
    simp only [impl_codeText.l0]
    rw [if_neg (by omega), List.take_of_length_le (by omega), i_join l hn hg]; rfl
  | succ m ih =>
    intro k l i h1 hd hk hn hg
    obtain ⟨k, rfl⟩ : ∃ m, k = m + 1 := ⟨k - 1, by omega⟩
    have wi : wrap64 ((i : Int) + 1) = ((i + 1 : Nat) : Int) := by rw [w64 (by omega) (by omega)]; omega
    have hx := rd_good hg i (by omega)
    have hlt : ((l.take i).map txt).length = i := by rw [List.length_map, List.length_take]; omega
    have hr := ih k l (i + 1) (by omega) (by omega) (by omega) hn hg
    rw [take_rd l i (by omega)] at hr
    simp only [impl_codeText.l0]
    rw [if_pos (show (i : Int) < (l.length : Int) by omega), if_pos (show 0 ≤ (i : Int) by omega), if_pos (show (i : Int) < (l.length : Int) by omega), wi]
    generalize rd_T41 l (i : Int) = x at hx hr ⊢
    unfold txt at hr
    rcases gI_cases hx with ⟨c, h1, h2⟩ | ⟨c, h1, h2⟩ | ⟨c, h1, h2⟩ | ⟨c, h1, h2, h3⟩
    · have := num_size h2
      rw [if_pos c] at hr
      rw [i_letter h1]; simp only [Option.bind_some]
      rw [if_pos (by rw [lt_size]; omega), if_pos c, i_itoa h2]; simp only [Option.bind_some]
      rw [if_pos (by rw [ByteArray.size_append, lt_size, c61]; omega), if_pos (by omega)]
      exact hr
    · rw [if_neg (by omega), if_pos c] at hr
      rw [i_letter h1]; simp only [Option.bind_some]
      rw [if_pos (by rw [lt_size]; omega), if_neg (by omega), if_pos c, i_letter h2]; simp only [Option.bind_some]
      rw [if_pos (by rw [ByteArray.size_append, lt_size, lt_size, c61]; omega), if_pos (by omega)]
      exact hr
    · rw [if_neg (by omega), if_neg (by omega), if_pos c] at hr
      rw [i_letter (by omega)]; simp only [Option.bind_some]
      rw [if_pos (by rw [lt_size]; omega), if_neg (by omega), if_neg (by omega), if_pos c, i_letter h2]; simp only [Option.bind_some]
      rw [if_pos (by rw [lt_size]; omega), if_pos (by omega)]
      exact hr
    · rw [if_neg (by omega), if_neg (by omega), if_neg (by omega)] at hr
      have es := sgn_size c
      unfold sgn at es hr
      rw [i_letter h1, i_letter h2, i_letter h3]; simp only [Option.bind_some]
      rw [w64 (n := x.f0 - 3) (by omega) (by omega), w64 (n := x.f0 - 3 + 1) (by omega) (by omega)]
      rw [if_pos (by rw [lt_size]; omega), if_neg (by omega), if_neg (by omega), if_neg (by omega), if_pos (by omega), if_pos (by omega), if_pos (by omega), if_pos (by rw [lt_size, es]; omega),
        if_pos (by rw [ByteArray.size_append, lt_size, lt_size, es]; omega), if_pos (by simp only [ByteArray.size_append, lt_size, es, c61]; omega), if_pos (by omega)]
      exact hr
theorem gC_good {l : List I} (h : gC l = true) : l.length ≤ 30 ∧ ∀ x ∈ l, gI x = true := by
  unfold gC at h; rw [Bool.and_eq_true, decide_eq_true_eq, List.all_eq_true] at h; exact ⟨h.2, h.1⟩
theorem i_text (k : Nat) (l : List I) (hk : 100 < k) (h : gC l = true) : impl_codeText.f k l = some (J (l.map txt)) := by
  unfold impl_codeText.f
  obtain ⟨h1, h2⟩ := gC_good h
  exact i_text_loop l.length k l 0 (by omega) (by omega) (by omega) h1 h2
theorem s_sign {o : Int} (h : 3 ≤ o ∧ o ≤ 7) : spec_l3Sign.f o = some (sgn o) := by
  unfold spec_l3Sign.f sgn
  rw [w64 (n := o - 3) (by omega) (by omega), w64 (by omega) (by omega), if_pos (by omega), if_pos (by omega), if_pos (by omega)]
/-! Lists of bytes: strings, their pieces between semicolons, numerals. -/
abbrev B (l : List UInt8) : ByteArray := ⟨l.toArray⟩
theorem B_size (l : List UInt8) : (B l).size = l.length := by show l.toArray.size = _; simp
theorem B_of (s : ByteArray) : B s.data.toList = s := by apply ByteArray.ext; simp
theorem B_data (l : List UInt8) : (B l).data.toList = l := by simp
theorem B_app (a b : List UInt8) : B a ++ B b = B (a ++ b) := by apply ByteArray.ext; simp [ByteArray.data_append]
theorem B_inj {a b : List UInt8} (h : B a = B b) : a = b := by have := congrArg (fun s : ByteArray => s.data.toList) h; simpa using this
theorem B_toList (s t : ByteArray) : s.toList = t.toList ↔ s = t := by
  constructor
  · intro h; apply ByteArray.ext; rw [Lib.toList_data, Lib.toList_data] at h; exact Array.toList_inj.mp h
  · intro h; rw [h]
theorem B_extract (l : List UInt8) (i j : Nat) : (B l).extract i j = B ((l.take j).drop i) := by
  apply ByteArray.ext
  rw [ByteArray.data_extract]
  apply Array.toList_inj.mp
  simp [List.drop_take]
theorem bt_B {l : List UInt8} {i : Nat} (h : i < l.length) : bt (B l) (i : Int) = (l[i].toNat : Int) := by
  unfold bt
  rw [dif_pos (by rw [Int.toNat_natCast, B_size]; exact h)]
  simp [ByteArray.getElem_eq_getElem_data]
def sp : List UInt8 → List (List UInt8)
  | [] => [[]]
  | c :: r => if c = 59 then [] :: sp r else match sp r with | [] => [[c]] | h :: t => (c :: h) :: t
theorem sp_end : ∀ p : List UInt8, (∀ c ∈ p, c ≠ 59) → sp p = [p]
  | [], _ => rfl
  | c :: p, h => by
    unfold sp
    rw [if_neg (h c (List.mem_cons_self ..)), sp_end p (fun d hd => h d (List.mem_cons_of_mem _ hd))]
theorem sp_cut : ∀ (p r : List UInt8), (∀ c ∈ p, c ≠ 59) → sp (p ++ 59 :: r) = p :: sp r
  | [], r, _ => by rw [List.nil_append]; unfold sp; rw [if_pos rfl]; cases r <;> rfl
  | c :: p, r, h => by
    rw [List.cons_append]; unfold sp
    rw [if_neg (h c (List.mem_cons_self ..)), sp_cut p r (fun d hd => h d (List.mem_cons_of_mem _ hd))]
    cases r <;> rfl
theorem sp_join : ∀ (r : List (List UInt8)) (x : List UInt8), (∀ t ∈ x :: r, ∀ c ∈ t, c ≠ 59) → sp (x ++ Lib.joinTail [59] r) = x :: r
  | [], x, h => by
    rw [show Lib.joinTail [59] [] = [] from rfl, List.append_nil]
    exact sp_end x (h x (List.mem_cons_self ..))
  | y :: r, x, h => by
    have e : Lib.joinTail [59] (y :: r) = 59 :: (y ++ Lib.joinTail [59] r) := by simp [Lib.joinTail]
    rw [e, sp_cut x _ (h x (List.mem_cons_self ..)), sp_join r y (fun t ht => h t (List.mem_cons_of_mem _ ht))]
theorem sp_of_join (x : List UInt8) (r : List (List UInt8)) (h : ∀ t ∈ x :: r, ∀ c ∈ t, c ≠ 59) : sp (Lib.join (x :: r) [59]) = x :: r := by rw [Lib.join_cons]; exact sp_join r x h
theorem sp_ne : ∀ l : List UInt8, sp l ≠ []
  | [] => by simp [sp]
  | c :: r => by
    unfold sp
    by_cases h : c = 59
    · rw [if_pos h]; simp
    · rw [if_neg h]; cases sp r <;> simp
theorem join_sp : ∀ l : List UInt8, Lib.join (sp l) [59] = l
  | [] => by simp [sp, Lib.join_one]
  | c :: r => by
    have ih := join_sp r
    unfold sp
    by_cases h : c = 59
    · rw [if_pos h]
      cases hq : sp r with
      | nil => exact absurd hq (sp_ne r)
      | cons y t =>
        rw [hq, Lib.join_cons] at ih
        rw [Lib.join_cons, List.nil_append, h]
        rw [show Lib.joinTail [59] (y :: t) = 59 :: (y ++ Lib.joinTail [59] t) by simp [Lib.joinTail], ih]
    · rw [if_neg h]
      cases hq : sp r with
      | nil => exact absurd hq (sp_ne r)
      | cons y t =>
        rw [hq, Lib.join_cons] at ih
        show Lib.join ((c :: y) :: t) [59] = _
        rw [Lib.join_cons, List.cons_append, ih]
theorem sp_len : ∀ l : List UInt8, (sp l).length ≤ l.length + 1
  | [] => by simp [sp]
  | c :: r => by
    have ih := sp_len r
    unfold sp
    by_cases h : c = 59
    · rw [if_pos h]; simp; omega
    · rw [if_neg h]; cases hq : sp r with
      | nil => simp
      | cons y t => rw [hq] at ih; simp at ih ⊢; omega
theorem index_59 : ∀ l : List UInt8, (Lib.index l [59] = -1 ∧ ∀ c ∈ l, c ≠ 59) ∨ ∃ p r, l = p ++ 59 :: r ∧ (∀ c ∈ p, c ≠ 59) ∧ Lib.index l [59] = (p.length : Int)
  | [] => .inl ⟨by simp [Lib.index], by simp⟩
  | c :: l => by
    by_cases h : c = 59
    · exact .inr ⟨[], l, by rw [h]; rfl, by simp, by rw [Lib.index, h]; simp [List.isPrefixOf]⟩
    · have hp : ([59] : List UInt8).isPrefixOf (c :: l) = false := by simp [List.isPrefixOf, Ne.symm h]
      have hix : Lib.index (c :: l) [59] = if Lib.index l [59] == -1 then -1 else Lib.index l [59] + 1 := by rw [Lib.index, hp]; simp
      rcases index_59 l with ⟨h1, h2⟩ | ⟨p, r, h1, h2, h3⟩
      · refine .inl ⟨by rw [hix, h1]; rfl, fun d hd => ?_⟩
        rcases List.mem_cons.mp hd with rfl | hd
        · exact h
        · exact h2 d hd
      · refine .inr ⟨c :: p, r, by rw [h1]; rfl, fun d hd => ?_, ?_⟩
        · rcases List.mem_cons.mp hd with rfl | hd
          · exact h
          · exact h2 d hd
        · rw [hix, h3, if_neg (by intro e; have := beq_iff_eq.mp e; omega), List.length_cons]; omega
theorem split_sp : ∀ (k : Nat) (l : List UInt8), Lib.countB (B l) (B [59]) = k → Lib.splitB (B [59]) 0 k (B l) = (sp l).map B
  | k, l, hk => by
    have e1 : Lib.indexB (B l) (B [59]) = Lib.index l [59] := by unfold Lib.indexB; simp
    rcases index_59 l with ⟨h1, h2⟩ | ⟨p, r, h1, h2, h3⟩
    · rw [Lib.splitB_miss _ _ _ _ (by rw [e1, h1]), sp_end l h2]; rfl
    · have hc := Lib.countB_hit (B l) (B [59]) p.length (by decide) (by rw [e1, h3])
      have hs : (B [59]).size = 1 := rfl
      have er : (B l).extract (p.length + (B [59]).size) (B l).size = B r := by
        rw [hs, B_extract, B_size, List.take_of_length_le (Nat.le_refl _), h1]; simp
      rw [er] at hc
      obtain ⟨k, rfl⟩ : ∃ m, k = m + 1 := ⟨k - 1, by omega⟩
      have ih := split_sp k r (by omega)
      rw [Lib.splitB_hit _ _ _ _ p.length (by rw [e1, h3]), er, ih, h1, sp_cut p r h2, B_extract]
      simp
def dig (c : UInt8) : Prop := 48 ≤ c.toNat ∧ c.toNat ≤ 57
def val : Nat → List UInt8 → Nat
  | a, [] => a
  | a, c :: r => val (10 * a + (c.toNat - 48)) r
def W (n : Nat) : List UInt8 → Int
  | [] => if n > 65535 then -1 else n
  | c :: r => if c.toNat < 48 then -1 else if c.toNat > 57 then -1 else W (10 * n + (c.toNat - 48)) r
theorem W_val : ∀ (r : List UInt8) (a : Nat), (∀ c ∈ r, dig c) → W a r = if val a r > 65535 then -1 else (val a r : Int)
  | [], a, _ => rfl
  | c :: r, a, h => by
    have hc := h c (List.mem_cons_self ..)
    unfold dig at hc
    unfold W val
    rw [if_neg (by omega), if_neg (by omega)]
    exact W_val r _ (fun d hd => h d (List.mem_cons_of_mem _ hd))
theorem W_dig : ∀ (r : List UInt8) (a : Nat), 0 ≤ W a r → ∀ c ∈ r, dig c
  | [], _, _, c, hc => by cases hc
  | d :: r, a, h, c, hc => by
    unfold W at h
    by_cases h1 : d.toNat < 48
    · rw [if_pos h1] at h; exact absurd h (by decide)
    · rw [if_neg h1] at h
      by_cases h2 : d.toNat > 57
      · rw [if_pos h2] at h; exact absurd h (by decide)
      · rw [if_neg h2] at h
        rcases List.mem_cons.mp hc with rfl | hc
        · exact ⟨by omega, by omega⟩
        · exact W_dig r _ h c hc
theorem of_dig {c : UInt8} (h : dig c) : UInt8.ofNat (48 + (c.toNat - 48)) = c := by
  unfold dig at h
  rw [show 48 + (c.toNat - 48) = c.toNat by omega]
  exact UInt8.ofNat_toNat
theorem digits_val : ∀ (r : List UInt8) (a : Nat), 0 < a → (∀ c ∈ r, dig c) → Lib.decDigits (val a r) = Lib.decDigits a ++ r
  | [], a, _, _ => (List.append_nil _).symm
  | c :: r, a, ha, h => by
    have hc := h c (List.mem_cons_self ..)
    have hd := of_dig hc
    unfold dig at hc
    unfold val
    rw [digits_val r _ (by omega) (fun d hd => h d (List.mem_cons_of_mem _ hd)), Lib.decDigits.eq_def (10 * a + (c.toNat - 48)), dif_neg (by omega)]
    rw [show (10 * a + (c.toNat - 48)) / 10 = a by omega, show (10 * a + (c.toNat - 48)) % 10 = c.toNat - 48 by omega, hd]
    simp
theorem val_snoc : ∀ (r : List UInt8) (a : Nat) (c : UInt8), val a (r ++ [c]) = 10 * val a r + (c.toNat - 48)
  | [], _, _ => rfl
  | d :: r, a, c => by rw [List.cons_append]; unfold val; exact val_snoc r _ c
theorem ofNat_dig {d : Nat} (h : d < 10) : (UInt8.ofNat (48 + d)).toNat = 48 + d := by simp; omega
theorem digits_facts (n : Nat) : (∀ c ∈ Lib.decDigits n, dig c) ∧ val 0 (Lib.decDigits n) = n ∧ (n < 10 ∧ Lib.decDigits n = [UInt8.ofNat (48 + n)] ∨ 10 ≤ n ∧ ∃ c r, Lib.decDigits n = c :: r ∧ r ≠ [] ∧ c ≠ 48) := by
  induction n using Nat.strongRecOn with
  | ind n ih =>
    by_cases c : n < 10
    · rw [Lib.decDigits_one c]
      have h := ofNat_dig c
      refine ⟨fun d hd => ?_, ?_, .inl ⟨c, rfl⟩⟩
      · rw [List.mem_singleton.mp hd]; unfold dig; omega
      · unfold val val; omega
    · obtain ⟨h1, h2, h3⟩ := ih (n / 10) (by omega)
      have h := ofNat_dig (show n % 10 < 10 by omega)
      rw [Lib.decDigits.eq_def n, dif_neg c]
      refine ⟨fun d hd => ?_, ?_, .inr ⟨by omega, ?_⟩⟩
      · rcases List.mem_append.mp hd with hd | hd
        · exact h1 d hd
        · rw [List.mem_singleton.mp hd]; unfold dig; omega
      · rw [val_snoc, h2, h]; omega
      · rcases h3 with ⟨h4, h5⟩ | ⟨h4, d, r, h5, h6, h7⟩
        · refine ⟨_, _, by rw [h5]; rfl, by simp, fun e => ?_⟩
          have e2 := congrArg UInt8.toNat e
          rw [ofNat_dig h4] at e2
          have : (48 : UInt8).toNat = 48 := rfl
          omega
        · exact ⟨d, r ++ [UInt8.ofNat (48 + n % 10)], by rw [h5]; rfl, by simp, h7⟩
theorem parse_val : ∀ (r : List UInt8) (a : Nat), (∀ c ∈ r, dig c) → val a r ≤ 65535 → a ≤ 65535 → Lib.parseUint10 a r = .ok (val a r)
  | [], a, _, _, _ => rfl
  | c :: r, a, h, hv, ha => by
    have hc := h c (List.mem_cons_self ..)
    unfold dig at hc
    have hmono : ∀ (r : List UInt8) (b : Nat), b ≤ val b r := by
      intro r
      induction r with
      | nil => intro b; exact Nat.le_refl _
      | cons d r ih => intro b; unfold val; have := ih (10 * b + (d.toNat - 48)); omega
    unfold val at hv
    have h2 := hmono r (10 * a + (c.toNat - 48))
    unfold Lib.parseUint10 val
    rw [if_pos hc, if_neg (by omega), if_neg (by omega), show a * 10 + (c.toNat - 48) = 10 * a + (c.toNat - 48) by omega]
    exact parse_val r _ (fun d hd => h d (List.mem_cons_of_mem _ hd)) hv (by omega)
theorem atoi_digits {n : Nat} (h : n ≤ 65535) : Lib.atoiAll (Lib.decDigits n) = .ok (n : Int) := by
  obtain ⟨h1, h2, h3⟩ := digits_facts n
  obtain ⟨c, r, e⟩ : ∃ c r, Lib.decDigits n = c :: r := by
    rcases h3 with ⟨_, h⟩ | ⟨_, c, r, h, _⟩
    · exact ⟨_, _, h⟩
    · exact ⟨c, r, h⟩
  rw [e] at h1 h2 ⊢
  have hc := h1 c (List.mem_cons_self ..)
  unfold dig at hc
  rw [Lib.atoiAll_plain c r (by omega) (by omega)]
  unfold Lib.parseMag
  rw [if_neg (by simp), parse_val (c :: r) 0 h1 (by omega) (by omega), h2]
  unfold Lib.signless
  simp only
  rw [if_neg (by omega)]
def wordL (u : List UInt8) : Int := if u.length = 0 ∨ 5 < u.length ∨ (u[0]? = some 48 ∧ 1 < u.length) then -1 else W 0 u
theorem word_digits {n : Nat} (h : n ≤ 65535) : wordL (Lib.decDigits n) = n := by
  obtain ⟨h1, h2, h3⟩ := digits_facts n
  have h5 := digits_le 4 n (by omega)
  unfold wordL
  rw [if_neg, W_val _ _ h1, h2, if_neg (by omega)]
  rcases h3 with ⟨_, e⟩ | ⟨_, c, r, e, hr, hc⟩
  · rw [e]; simp
  · rw [e] at h5 ⊢
    simp only [List.length_cons, List.getElem?_cons_zero, Option.some.injEq]
    simp only [List.length_cons] at h5
    rintro (h | h | ⟨h, _⟩)
    · omega
    · omega
    · exact hc h
theorem word_back {u : List UInt8} (h : 0 ≤ wordL u) : u = Lib.decDigits (wordL u).toNat ∧ wordL u ≤ 65535 := by
  unfold wordL at h ⊢
  by_cases c : u.length = 0 ∨ 5 < u.length ∨ (u[0]? = some 48 ∧ 1 < u.length)
  · rw [if_pos c] at h; exact absurd h (by decide)
  · rw [if_neg c] at h ⊢
    have hd := W_dig u 0 h
    rw [W_val u 0 hd] at h ⊢
    by_cases cv : val 0 u > 65535
    · rw [if_pos cv] at h; exact absurd h (by decide)
    · rw [if_neg cv] at h ⊢
      rw [Int.toNat_natCast]
      refine ⟨?_, by omega⟩
      cases u with
      | nil => simp at c
      | cons d r =>
        have h0 := hd d (List.mem_cons_self ..)
        have ho := of_dig h0
        unfold dig at h0
        unfold val
        rw [Nat.mul_zero, Nat.zero_add]
        cases r with
        | nil => unfold val; rw [Lib.decDigits_one (by omega), ho]
        | cons e r =>
          have hne : d.toNat ≠ 48 := by
            intro e2
            apply c
            refine .inr (.inr ⟨?_, by simp⟩)
            simp only [List.getElem?_cons_zero, Option.some.injEq]
            exact UInt8.toNat_inj.mp e2
          rw [digits_val (e :: r) _ (by omega) (fun x hx => hd x (List.mem_cons_of_mem _ hx)), Lib.decDigits_one (by omega), ho]; rfl
/-! Reading steps: what a step's text is made of, and that it is read back. -/
def L (v : Int) : UInt8 := UInt8.ofNat (97 + v).toNat
def Sg (o : Int) : UInt8 := if o = 3 then 43 else if o = 4 then 45 else if o = 5 then 42 else if o = 6 then 60 else 126
def txtL (x : I) : List UInt8 :=
  if x.f0 = 1 then L x.f1 :: 61 :: Lib.decDigits x.f4.toNat else if x.f0 = 2 then [L x.f1, 61, L x.f2] else if x.f0 = 8 then [33, L x.f2] else [L x.f1, 61, L x.f2, Sg x.f0, L x.f3]
def ch (c : UInt8) : Int := (c.toNat : Int) - 97
theorem w_ch (c : UInt8) : wrap64 (wrap64 (c.toNat : Int) - 97) = ch c := by
  have := UInt8.toNat_lt c
  rw [w64 (n := (c.toNat : Int)) (by omega) (by omega), w64 (by omega) (by omega)]; rfl
theorem L_nat {v : Int} (h : 0 ≤ v ∧ v ≤ 7) : ((L v).toNat : Int) = 97 + v := by
  unfold L
  rw [UInt8.toNat_ofNat']
  omega
theorem ch_L {v : Int} (h : 0 ≤ v ∧ v ≤ 7) : ch (L v) = v := by unfold ch; rw [L_nat h]; omega
theorem L_ch {c : UInt8} (h : 0 ≤ ch c) : L (ch c) = c := by
  unfold L ch at *
  rw [show (97 + ((c.toNat : Int) - 97)).toNat = c.toNat by omega]
  exact UInt8.ofNat_toNat
theorem lt_B (v : Int) : lt v = B [L v] := rfl
theorem sgn_B {o : Int} (h : 3 ≤ o ∧ o ≤ 7) : sgn o = B [Sg o] := by
  obtain rfl | rfl | rfl | rfl | rfl : o = 3 ∨ o = 4 ∨ o = 5 ∨ o = 6 ∨ o = 7 := by omega
  all_goals (unfold sgn; rw [show (⟨#[43, 45, 42, 60, 126]⟩ : ByteArray) = B [43, 45, 42, 60, 126] from rfl, B_extract]; rfl)
theorem txt_B {x : I} (h : gI x = true) : txt x = B (txtL x) := by
  unfold txt txtL
  rcases gI_cases h with ⟨c, h1, h2⟩ | ⟨c, h1, h2⟩ | ⟨c, h1, h2⟩ | ⟨c, h1, h2, h3⟩
  · rw [if_pos c, if_pos c]
    have e : num x.f4 = B (Lib.decDigits x.f4.toNat) := by unfold num Lib.itoa; rw [if_neg (by omega)]
    rw [e, lt_B, show (⟨#[61]⟩ : ByteArray) = B [61] from rfl, B_app, B_app]; rfl
  · have n1 : ¬ x.f0 = 1 := by omega
    rw [if_neg n1, if_neg n1, if_pos c, if_pos c, lt_B, lt_B, show (⟨#[61]⟩ : ByteArray) = B [61] from rfl, B_app, B_app]; rfl
  · have n1 : ¬ x.f0 = 1 := by omega
    have n2 : ¬ x.f0 = 2 := by omega
    rw [if_neg n1, if_neg n1, if_neg n2, if_neg n2, if_pos c, if_pos c, lt_B, show (⟨#[33]⟩ : ByteArray) = B [33] from rfl, B_app]; rfl
  · have n1 : ¬ x.f0 = 1 := by omega
    have n2 : ¬ x.f0 = 2 := by omega
    have n8 : ¬ x.f0 = 8 := by omega
    rw [if_neg n1, if_neg n1, if_neg n2, if_neg n2, if_neg n8, if_neg n8, lt_B, lt_B, lt_B, sgn_B c, show (⟨#[61]⟩ : ByteArray) = B [61] from rfl, B_app, B_app, B_app, B_app]; rfl
theorem L_ne {v : Int} (h : 0 ≤ v ∧ v ≤ 7) : L v ≠ 59 := by
  intro e
  have := L_nat h
  rw [e] at this
  have e2 : ((59 : UInt8).toNat : Int) = 59 := rfl
  omega
theorem txtL_no {x : I} (h : gI x = true) : ∀ c ∈ txtL x, c ≠ 59 := by
  unfold txtL
  rcases gI_cases h with ⟨c, h1, h2⟩ | ⟨c, h1, h2⟩ | ⟨c, h1, h2⟩ | ⟨c, h1, h2, h3⟩
  · rw [if_pos c]
    intro d hd
    rcases List.mem_cons.mp hd with rfl | hd
    · exact L_ne h1
    · rcases List.mem_cons.mp hd with rfl | hd
      · decide
      · have := (digits_facts x.f4.toNat).1 d hd
        unfold dig at this
        intro e
        rw [e] at this
        have e2 : (59 : UInt8).toNat = 59 := rfl
        omega
  · have n1 : ¬ x.f0 = 1 := by omega
    rw [if_neg n1, if_pos c]
    intro d hd
    simp only [List.mem_cons, List.mem_nil_iff, or_false] at hd
    rcases hd with rfl | rfl | rfl
    · exact L_ne h1
    · decide
    · exact L_ne h2
  · have n1 : ¬ x.f0 = 1 := by omega
    have n2 : ¬ x.f0 = 2 := by omega
    rw [if_neg n1, if_neg n2, if_pos c]
    intro d hd
    simp only [List.mem_cons, List.mem_nil_iff, or_false] at hd
    rcases hd with rfl | rfl
    · decide
    · exact L_ne h2
  · have n1 : ¬ x.f0 = 1 := by omega
    have n2 : ¬ x.f0 = 2 := by omega
    have n8 : ¬ x.f0 = 8 := by omega
    rw [if_neg n1, if_neg n2, if_neg n8]
    intro d hd
    simp only [List.mem_cons, List.mem_nil_iff, or_false] at hd
    rcases hd with rfl | rfl | rfl | rfl | rfl
    · exact L_ne h1
    · decide
    · exact L_ne h2
    · unfold Sg
      by_cases a : x.f0 = 3
      · rw [if_pos a]; decide
      · rw [if_neg a]
        by_cases a : x.f0 = 4
        · rw [if_pos a]; decide
        · rw [if_neg a]
          by_cases a : x.f0 = 5
          · rw [if_pos a]; decide
          · rw [if_neg a]
            by_cases a : x.f0 = 6
            · rw [if_pos a]; decide
            · rw [if_neg a]; decide
    · exact L_ne h3
abbrev R6 := Int × Int × Int × Int × Int × Bool
def rI (r : R6) : I := ⟨r.1, r.2.1, r.2.2.1, r.2.2.2.1, r.2.2.2.2.1⟩
theorem b0 (a : UInt8) (r : List UInt8) : bt (B (a :: r)) 0 = (a.toNat : Int) := bt_B (l := a :: r) (i := 0) (by simp)
theorem b1 (a b : UInt8) (r : List UInt8) : bt (B (a :: b :: r)) 1 = (b.toNat : Int) := bt_B (l := a :: b :: r) (i := 1) (by simp)
theorem b2 (a b c : UInt8) (r : List UInt8) : bt (B (a :: b :: c :: r)) 2 = (c.toNat : Int) := bt_B (l := a :: b :: c :: r) (i := 2) (by simp)
theorem b3 (a b c d : UInt8) (r : List UInt8) : bt (B (a :: b :: c :: d :: r)) 3 = (d.toNat : Int) := bt_B (l := a :: b :: c :: d :: r) (i := 3) (by simp)
theorem b4 (a b c d e : UInt8) (r : List UInt8) : bt (B (a :: b :: c :: d :: e :: r)) 4 = (e.toNat : Int) := bt_B (l := a :: b :: c :: d :: e :: r) (i := 4) (by simp)
theorem tail2 (a b : UInt8) (r : List UInt8) : (B (a :: b :: r)).extract 2 (B (a :: b :: r)).size = B r := by
  rw [B_extract, B_size, List.take_of_length_le (Nat.le_refl _)]; rfl
theorem s_word_loop (m : Nat) : ∀ (k : Nat) (u : List UInt8) (i n : Nat), i ≤ u.length → u.length - i = m → m < k → u.length ≤ 5 → n < 10 ^ i → spec_l3Word.l0 k (B u) (n : Int) (i : Int) = some (W n (u.drop i)) := by
  induction m with
  | zero =>
    intro k u i n h1 hd hk hn hp
    obtain ⟨k, rfl⟩ : ∃ m, k = m + 1 := ⟨k - 1, by omega⟩
    simp only [spec_l3Word.l0]
    rw [if_neg (by rw [B_size]; omega), List.drop_of_length_le (by omega)]
    unfold W
    by_cases c : n > 65535
    · rw [if_pos c, if_pos (by omega)]
    · rw [if_neg c, if_neg (by omega)]
  | succ m ih =>
    intro k u i n h1 hd hk hn hp
    obtain ⟨k, rfl⟩ : ∃ m, k = m + 1 := ⟨k - 1, by omega⟩
    have hi : i < u.length := by omega
    have wi : wrap64 ((i : Int) + 1) = ((i + 1 : Nat) : Int) := by rw [w64 (by omega) (by omega)]; omega
    have hb : n ≤ 100000 := by
      have : (10 : Nat) ^ i ≤ 10 ^ 5 := Nat.pow_le_pow_right (by decide) (by omega)
      omega
    simp only [spec_l3Word.l0]
    rw [if_pos (by rw [B_size]; omega), if_pos (by omega), bt_B hi, wi]
    have hc := UInt8.toNat_lt u[i]
    rw [show u.drop i = u[i] :: u.drop (i + 1) from (List.drop_eq_getElem_cons hi)]
    unfold W
    by_cases c1 : (u[i].toNat : Int) < 48
    · rw [if_pos c1, if_pos (show u[i].toNat < 48 by omega)]
    · rw [if_neg c1, if_neg (show ¬ u[i].toNat < 48 by omega)]
      by_cases c2 : (u[i].toNat : Int) > 57
      · rw [if_pos c2, if_pos (show u[i].toNat > 57 by omega)]
      · rw [if_neg c2, if_neg (show ¬ u[i].toNat > 57 by omega)]
        have e : wrap64 (wrap64 (10 * (n : Int)) + ((u[i].toNat : Int) - 48) % 256) = ((10 * n + (u[i].toNat - 48) : Nat) : Int) := by
          rw [w64 (n := 10 * (n : Int)) (by omega) (by omega), w64 (by omega) (by omega)]; omega
        rw [e]
        exact ih k u (i + 1) _ (by omega) (by omega) (by omega) hn (by rw [Nat.pow_succ]; omega)
theorem s_word' {k : Nat} (u : List UInt8) (hk : 10 ≤ k) : spec_l3Word.f k (B u) = some (wordL u) := by
  obtain ⟨k, rfl⟩ : ∃ m, k = m + 1 := ⟨k - 1, by omega⟩
  unfold spec_l3Word.f wordL
  rw [s_in, B_size]; simp only [Option.bind_some]
  by_cases c : 1 ≤ u.length ∧ u.length ≤ 5
  · rw [if_pos (by simp; omega)]
    cases u with
    | nil => simp at c
    | cons a r =>
      rw [if_pos (by simp only [List.length_cons]; omega), b0]
      by_cases c0 : (a.toNat : Int) = 48
      · rw [if_pos c0]
        have ea : a = 48 := UInt8.toNat_inj.mp (by show a.toNat = 48; omega)
        by_cases cl : 1 < (a :: r).length
        · have e : decide (((a :: r).length : Int) > 1) = true := decide_eq_true (by omega)
          rw [e]
          simp only [spec_l3Word.j0, if_true]
          rw [if_pos (.inr (.inr ⟨by rw [ea]; rfl, cl⟩))]
        · have e : decide (((a :: r).length : Int) > 1) = false := decide_eq_false (by omega)
          rw [e]
          simp only [spec_l3Word.j0, Bool.false_eq_true, if_false]
          rw [if_neg (by rintro (h | h | ⟨_, h⟩) <;> omega)]
          exact s_word_loop _ k (a :: r) 0 0 (by omega) rfl (by omega) (by omega) (by decide)
      · rw [if_neg c0]
        simp only [spec_l3Word.j0, Bool.false_eq_true, if_false]
        rw [if_neg (by
          rintro (h | h | ⟨h, _⟩)
          · omega
          · omega
          · apply c0; simp only [List.getElem?_cons_zero, Option.some.injEq] at h; rw [h]; rfl)]
        exact s_word_loop _ k (a :: r) 0 0 (by omega) rfl (by omega) (by omega) (by decide)
  · rw [if_neg (by simp; omega), if_pos (by omega)]
    simp only [spec_l3Word.j0, if_true]
theorem Sg_eq {o p : Int} (ho : 3 ≤ o ∧ o ≤ 7) (hp : 3 ≤ p ∧ p ≤ 7) (h : Sg o = Sg p) : o = p := by
  obtain rfl | rfl | rfl | rfl | rfl : o = 3 ∨ o = 4 ∨ o = 5 ∨ o = 6 ∨ o = 7 := by omega
  all_goals (
    obtain rfl | rfl | rfl | rfl | rfl : p = 3 ∨ p = 4 ∨ p = 5 ∨ p = 6 ∨ p = 7 := by omega
    all_goals first | rfl | exact absurd h (by decide))
theorem sign_loop (m : Nat) : ∀ (k : Nat) (o : Int) (a b c d e : UInt8) (q0 q1 q2 q3 q4 : Int), 3 ≤ o → o + m = 8 → 2 * m + 2 < k →
    ∃ r : R6, spec_l3Step.l0 k (B [a, b, c, d, e]) o q0 q1 q2 q3 q4 = some r ∧ (r.2.2.2.2.2 = true → ∃ p, (3 ≤ p ∧ p ≤ 7) ∧ Sg p = d ∧ r = (p, q1, q2, ch e, q4, true)) ∧ (∀ p, o ≤ p → p ≤ 7 → Sg p = d → r = (p, q1, q2, ch e, q4, true)) := by
  induction m with
  | zero =>
    intro k o a b c d e q0 q1 q2 q3 q4 h3 h8 hk
    obtain ⟨k, rfl⟩ : ∃ m, k = m + 2 := ⟨k - 2, by omega⟩
    refine ⟨(0, 0, 0, 0, 0, false), ?_, (fun h => by cases h), (fun p h1 h2 => by omega)⟩
    simp only [spec_l3Step.l0, spec_l3Step.j3]
    rw [if_neg (by omega)]
    simp
  | succ m ih =>
    intro k o a b c d e q0 q1 q2 q3 q4 h3 h8 hk
    obtain ⟨k, rfl⟩ : ∃ m, k = m + 2 := ⟨k - 2, by omega⟩
    have hs : (B [a, b, c, d, e]).size = 5 := rfl
    have he : (B [a, b, c, d, e]).extract 3 4 = B [d] := by rw [B_extract]; rfl
    simp only [spec_l3Step.l0, spec_l3Step.j3]
    have e5 : ((((B [a, b, c, d, e]).size : Nat) : Int) == 5) = true := rfl
    rw [if_pos (by omega), e5]
    simp only [if_true]
    rw [if_pos (by omega), if_pos (by rw [hs]; omega), s_sign ⟨h3, by omega⟩, sgn_B ⟨h3, by omega⟩, he, b4, w_ch]
    simp only [Option.bind_some]
    by_cases cd : d = Sg o
    · rw [if_pos (by rw [cd]), if_pos (by rw [hs]; omega)]
      refine ⟨_, rfl, fun _ => ⟨o, ⟨h3, by omega⟩, cd.symm, rfl⟩, fun p h1 h2 h4 => ?_⟩
      have := Sg_eq ⟨h3, by omega⟩ ⟨by omega, h2⟩ (cd.symm.trans h4.symm)
      rw [this]
    · rw [if_neg (by rw [B_toList]; intro e; exact cd (by have := B_inj e; simpa using this)), w64 (by omega) (by omega)]
      obtain ⟨r, h1, h2, h4⟩ := ih k (o + 1) a b c d e q0 q1 q2 q3 q4 (by omega) (by omega) (by omega)
      refine ⟨r, h1, h2, fun p h5 h6 h7 => ?_⟩
      by_cases e : p = o
      · rw [e] at h7; exact absurd h7.symm cd
      · exact h4 p (by omega) h6 h7
theorem sign_not5 (k : Nat) (s : ByteArray) (q0 q1 q2 q3 q4 : Int) (h : (((s.size : Nat) : Int) == 5) = false) : spec_l3Step.l0 (k + 2) s 3 q0 q1 q2 q3 q4 = some (0, 0, 0, 0, 0, false) := by
  simp only [spec_l3Step.l0, spec_l3Step.j3]
  rw [if_pos (by omega), h]; simp
theorem s_step_any (t : List UInt8) : ∃ r : R6, spec_l3Step.f 60 (B t) = some r ∧ (r.2.2.2.2.2 = true → gI (rI r) = true → txtL (rI r) = t) := by
  match t with
  | [] => exact ⟨_, rfl, fun h => by cases h⟩
  | [a] => exact ⟨_, rfl, fun h => by cases h⟩
  | [a, b] =>
    have hs : (B [a, b]).size = 2 := rfl
    unfold spec_l3Step.f
    rw [hs, b0]
    by_cases c : (a.toNat : Int) = 33
    · refine ⟨(8, 0, ch b, 0, 0, true), ?_, fun _ hg => ?_⟩
      · have e : ((a.toNat : Int) == 33) = true := beq_iff_eq.mpr c
        rw [e]; simp only [spec_l3Step.j0, if_true]; rw [b1, w_ch, hs]; rfl
      · rcases gI_cases hg with ⟨c, _⟩ | ⟨c, _⟩ | ⟨_, _, h⟩ | ⟨c, _⟩
        · cases c
        · cases c
        · have ea : a = 33 := UInt8.toNat_inj.mp (by show a.toNat = 33; omega)
          show [33, L (ch b)] = [a, b]
          rw [L_ch h.1, ea]
        · exact absurd c.2 (show ¬ ((8 : Int) ≤ 7) by decide)
    · refine ⟨(0, 0, 0, 0, 0, false), ?_, fun h => by cases h⟩
      have e : ((a.toNat : Int) == 33) = false := by simpa using c
      rw [e]; simp only [spec_l3Step.j0, spec_l3Step.j1, Bool.false_eq_true, if_false, if_true]; rw [hs]; rfl
  | a :: b :: c :: r =>
    have hs : (B (a :: b :: c :: r)).size = r.length + 3 := by rw [B_size]; rfl
    unfold spec_l3Step.f
    rw [if_neg (by rw [hs]; omega)]
    simp only [spec_l3Step.j0, spec_l3Step.j1, Bool.false_eq_true, if_false]
    rw [if_neg (by rw [hs]; omega), if_pos (by rw [hs]; omega), b1]
    by_cases cb : (b.toNat : Int) = 61
    · have e : ((b.toNat : Int) != 61) = false := by simpa using cb
      have eb : b = 61 := UInt8.toNat_inj.mp (by show b.toNat = 61; omega)
      rw [e]; simp only [Bool.false_eq_true, if_false]
      rw [if_pos (by rw [hs]; omega), if_pos (by rw [hs]; omega), tail2, s_word' _ (by omega), b0, b2, w_ch, w_ch]
      simp only [Option.bind_some]
      by_cases cn : wordL (c :: r) ≥ 0
      · rw [if_pos cn]
        refine ⟨_, rfl, fun _ hg => ?_⟩
        rcases gI_cases hg with ⟨_, h, h2⟩ | ⟨c, _⟩ | ⟨c, _⟩ | ⟨c, _⟩
        · show L (ch a) :: 61 :: Lib.decDigits (wordL (c :: r)).toNat = _
          rw [L_ch h.1, ← (word_back cn).1, eb]
        · cases c
        · cases c
        · exact absurd c.1 (show ¬ ((3 : Int) ≤ 1) by decide)
      · rw [if_neg cn, if_pos (by rw [hs]; omega)]
        match r with
        | [] =>
          rw [if_pos (by rw [hs]; rfl)]
          refine ⟨_, rfl, fun _ hg => ?_⟩
          rcases gI_cases hg with ⟨c, _⟩ | ⟨_, h, h2⟩ | ⟨c, _⟩ | ⟨c, _⟩
          · cases c
          · show [L (ch a), 61, L (ch c)] = _
            rw [L_ch h.1, L_ch h2.1, eb]
          · cases c
          · exact absurd c.1 (show ¬ ((3 : Int) ≤ 2) by decide)
        | [d] =>
          rw [if_neg (by rw [hs]; simp)]
          refine ⟨(0, 0, 0, 0, 0, false), ?_, fun h => by cases h⟩
          exact sign_not5 56 _ _ _ _ _ _ (by rw [hs]; rfl)
        | [d, e] =>
          rw [if_neg (by rw [hs]; simp)]
          obtain ⟨x, h1, h2, _⟩ := sign_loop 5 58 3 a b c d e 0 (ch a) (ch c) 0 0 (by omega) (by omega) (by omega)
          refine ⟨x, h1, fun hx hg => ?_⟩
          obtain ⟨p, hp, hd, rfl⟩ := h2 hx
          rcases gI_cases hg with ⟨c, _⟩ | ⟨c, _⟩ | ⟨c, _⟩ | ⟨_, h1, h2, h3⟩
          · exact absurd (show p = 1 from c) (by omega)
          · exact absurd (show p = 2 from c) (by omega)
          · exact absurd (show p = 8 from c) (by omega)
          · have n1 : ¬ p = 1 := by omega
            have n2 : ¬ p = 2 := by omega
            have n8 : ¬ p = 8 := by omega
            unfold txtL rI
            simp only
            rw [if_neg n1, if_neg n2, if_neg n8, L_ch h1.1, L_ch h2.1, L_ch h3.1, hd, eb]
        | d :: e :: f :: r =>
          rw [if_neg (by rw [hs]; simp; omega)]
          refine ⟨(0, 0, 0, 0, 0, false), ?_, fun h => by cases h⟩
          exact sign_not5 56 _ _ _ _ _ _ (by rw [hs]; simp; omega)
    · have e : ((b.toNat : Int) != 61) = true := by simpa using cb
      rw [e]; simp only [if_true]
      exact ⟨_, rfl, fun h => by cases h⟩
theorem s_step_3 (a c : UInt8) (r : List UInt8) : spec_l3Step.f 60 (B (a :: 61 :: c :: r)) =
    if wordL (c :: r) ≥ 0 then some (1, ch a, 0, 0, wordL (c :: r), true) else if r.length = 0 then some (2, ch a, ch c, 0, 0, true) else spec_l3Step.l0 58 (B (a :: 61 :: c :: r)) 3 0 (ch a) (ch c) 0 0 := by
  have hs : (B (a :: 61 :: c :: r)).size = r.length + 3 := by rw [B_size]; rfl
  unfold spec_l3Step.f
  rw [if_neg (by rw [hs]; omega)]
  simp only [spec_l3Step.j0, spec_l3Step.j1, Bool.false_eq_true, if_false]
  rw [if_neg (by rw [hs]; omega), if_pos (by rw [hs]; omega), b1]
  have e : (((61 : UInt8).toNat : Int) != 61) = false := rfl
  rw [e]; simp only [Bool.false_eq_true, if_false]
  rw [if_pos (by rw [hs]; omega), if_pos (by rw [hs]; omega), tail2, s_word' _ (by omega), b0, b2, w_ch, w_ch]
  simp only [Option.bind_some]
  by_cases cn : wordL (c :: r) ≥ 0
  · rw [if_pos cn, if_pos cn]
  · rw [if_neg cn, if_neg cn, if_pos (by rw [hs]; omega)]
    by_cases cr : r.length = 0
    · rw [if_pos cr, if_pos (by rw [hs]; omega)]
    · rw [if_neg cr, if_neg (by rw [hs]; omega)]
theorem word_letter {c : UInt8} (r : List UInt8) (h : 97 ≤ c.toNat) : wordL (c :: r) = -1 := by
  unfold wordL W
  by_cases q : (c :: r).length = 0 ∨ 5 < (c :: r).length ∨ ((c :: r)[0]? = some 48 ∧ 1 < (c :: r).length)
  · rw [if_pos q]
  · rw [if_neg q, if_neg (by omega), if_pos (by omega)]
theorem L_97 {v : Int} (h : 0 ≤ v ∧ v ≤ 7) : 97 ≤ (L v).toNat := by have := L_nat h; omega
theorem digits_cons (n : Nat) : ∃ c r, Lib.decDigits n = c :: r := by
  rcases (digits_facts n).2.2 with ⟨_, h⟩ | ⟨_, c, r, h, _⟩
  · exact ⟨_, _, h⟩
  · exact ⟨c, r, h⟩
/-- What a good step's fields are beside its kind: nothing. -/
theorem gI_form {x : I} (h : gI x = true) : (x.f0 = 1 → x.f2 = 0 ∧ x.f3 = 0) ∧ (x.f0 = 2 → x.f3 = 0 ∧ x.f4 = 0) ∧ (x.f0 = 8 → x.f1 = 0 ∧ x.f3 = 0 ∧ x.f4 = 0) ∧ (3 ≤ x.f0 ∧ x.f0 ≤ 7 → x.f4 = 0) := by
  unfold gI gi at h
  refine ⟨fun c => ?_, fun c => ?_, fun c => ?_, fun c => ?_⟩
  · rw [if_pos c] at h
    simp only [Bool.and_eq_true, beq_iff_eq] at h
    exact ⟨h.2.1, h.2.2.1⟩
  · have n1 : ¬ x.f0 = 1 := by omega
    rw [if_neg n1, if_pos c] at h
    simp only [Bool.and_eq_true, beq_iff_eq] at h
    exact ⟨h.2.2.1, h.2.2.2⟩
  · have n1 : ¬ x.f0 = 1 := by omega
    have n2 : ¬ x.f0 = 2 := by omega
    rw [if_neg n1, if_neg n2, if_pos c] at h
    simp only [Bool.and_eq_true, beq_iff_eq] at h
    exact ⟨h.1, h.2.2.1, h.2.2.2⟩
  · have n1 : ¬ x.f0 = 1 := by omega
    have n2 : ¬ x.f0 = 2 := by omega
    have n8 : ¬ x.f0 = 8 := by omega
    rw [if_neg n1, if_neg n2, if_neg n8] at h
    simp only [Bool.and_eq_true, beq_iff_eq] at h
    exact h.2.2.2.2
theorem s_step_text {x : I} (hg : gI x = true) : spec_l3Step.f 60 (B (txtL x)) = some (x.f0, x.f1, x.f2, x.f3, x.f4, true) := by
  obtain ⟨f1, f2, f3, f4⟩ := gI_form hg
  unfold txtL
  rcases gI_cases hg with ⟨c, h1, h2⟩ | ⟨c, h1, h2⟩ | ⟨c, h1, h2⟩ | ⟨c, h1, h2, h3⟩
  · obtain ⟨e2, e3⟩ := f1 c
    obtain ⟨d, r, hd⟩ := digits_cons x.f4.toNat
    have hw := word_digits (n := x.f4.toNat) (by omega)
    rw [hd] at hw
    rw [if_pos c, hd, s_step_3, hw, if_pos (by omega), ch_L h1, c, e2, e3]
    rw [show ((x.f4.toNat : Nat) : Int) = x.f4 by omega]
  · obtain ⟨e3, e4⟩ := f2 c
    have n1 : ¬ x.f0 = 1 := by omega
    rw [if_neg n1, if_pos c, s_step_3, word_letter _ (L_97 h2), if_neg (by decide), if_pos (show ([] : List UInt8).length = 0 from rfl), ch_L h1, ch_L h2, c, e3, e4]
  · obtain ⟨e1, e3, e4⟩ := f3 c
    have n1 : ¬ x.f0 = 1 := by omega
    have n2 : ¬ x.f0 = 2 := by omega
    rw [if_neg n1, if_neg n2, if_pos c]
    have hs : (B [33, L x.f2]).size = 2 := rfl
    unfold spec_l3Step.f
    rw [hs, b0]
    have e : (((33 : UInt8).toNat : Int) == 33) = true := rfl
    rw [e]; simp only [spec_l3Step.j0, if_true]; rw [b1, w_ch, hs, ch_L h2, c, e1, e3, e4]; rfl
  · have e4 := f4 c
    have n1 : ¬ x.f0 = 1 := by omega
    have n2 : ¬ x.f0 = 2 := by omega
    have n8 : ¬ x.f0 = 8 := by omega
    rw [if_neg n1, if_neg n2, if_neg n8, s_step_3, word_letter _ (L_97 h2), if_neg (by decide), if_neg (by simp)]
    obtain ⟨r, e, _, e2⟩ := sign_loop 5 58 3 (L x.f1) 61 (L x.f2) (Sg x.f0) (L x.f3) 0 (ch (L x.f1)) (ch (L x.f2)) 0 0 (by omega) (by omega) (by omega)
    rw [e, e2 x.f0 c.1 c.2 rfl, ch_L h1, ch_L h2, ch_L h3, e4]
def atR (u : List UInt8) : Option (Int × Option Int) := match Lib.atoiAll u with | .ok v => some (v, none) | .range => some (Lib.atoiSat u, some 3) | _ => some (0, some 2)
theorem i_atoi (u : List UInt8) (h : u.length ≤ 1000) : strconv_Atoi_36.f (B u) = atR u := by
  unfold strconv_Atoi_36.f atR
  rw [if_pos (by rw [B_size]; omega), B_data]
  cases Lib.atoiAll u <;> rfl
theorem atR_digits {n : Nat} (h : n ≤ 65535) : atR (Lib.decDigits n) = some ((n : Int), none) := by unfold atR; rw [atoi_digits h]
theorem atR_letter {c : UInt8} (r : List UInt8) (h : 97 ≤ c.toNat) : atR (c :: r) = some (0, some 2) := by
  unfold atR
  rw [Lib.atoiAll_plain c r (by omega) (by omega)]
  unfold Lib.parseMag Lib.parseUint10
  rw [if_neg (by simp), if_neg (by omega)]; rfl
theorem i_atoi_any (u : List UInt8) (h : u.length ≤ 1000) : ∃ r, strconv_Atoi_36.f (B u) = some r := by
  rw [i_atoi u h]
  unfold atR
  cases Lib.atoiAll u <;> exact ⟨_, rfl⟩
theorem i_read_3 (a c : UInt8) (r : List UInt8) : impl_readInstr.f 60 (B (a :: 61 :: c :: r)) = (strconv_Atoi_36.f (B (c :: r))).bind fun q => if q.2.isNone = true then some (1, ch a, 0, 0, q.1, true) else if ((r.length : Int) + 3) = 3 then some (2, ch a, ch c, 0, 0, true) else if ((r.length : Int) + 3) = 5 then
      (strings_IndexByte.f (⟨#[43, 45, 42, 60, 126]⟩ : ByteArray) (bt (B (a :: 61 :: c :: r)) 3)).bind fun t => some (wrap64 (3 + t), ch a, ch c, wrap64 (wrap64 (bt (B (a :: 61 :: c :: r)) 4) - 97), 0, decide (wrap64 (3 + t) ≥ 3)) else some (0, 0, 0, 0, 0, false) := by
  have hs : (((B (a :: 61 :: c :: r)).size : Nat) : Int) = (r.length : Int) + 3 := by rw [B_size]; rfl
  unfold impl_readInstr.f
  rw [if_neg (by omega)]
  simp only [impl_readInstr.j0, Bool.false_eq_true, if_false]
  rw [if_neg (by omega), if_pos (by omega), b1, if_pos (show ((61 : UInt8).toNat : Int) = 61 from rfl), if_pos (by omega), if_pos (by omega), if_pos (by omega), tail2, b0, b2, w_ch, w_ch, hs]
  congr 1
  funext q
  by_cases c1 : q.2.isNone = true
  · rw [if_pos c1, if_pos c1]
  · rw [if_neg c1, if_neg c1]
    by_cases c2 : (r.length : Int) + 3 = 3
    · rw [if_pos c2, if_pos c2]
    · rw [if_neg c2, if_neg c2]
      by_cases c3 : (r.length : Int) + 3 = 5
      · rw [if_pos c3, if_pos c3, if_pos (by omega)]
        congr 1
        funext t
        rw [if_pos (by omega)]
      · rw [if_neg c3, if_neg c3]
theorem i_read_any (t : List UInt8) (ht : t.length ≤ 900) : ∃ r : R6, impl_readInstr.f 60 (B t) = some r := by
  match t with
  | [] => exact ⟨_, rfl⟩
  | [a] => exact ⟨_, rfl⟩
  | [a, b] =>
    have hs : (B [a, b]).size = 2 := rfl
    unfold impl_readInstr.f
    rw [hs, b0]
    cases ((a.toNat : Int) == 33)
    · exact ⟨_, rfl⟩
    · simp only [impl_readInstr.j0, if_true]; rw [hs]; exact ⟨_, rfl⟩
  | a :: b :: c :: r =>
    by_cases eb : b = 61
    · subst eb
      rw [i_read_3]
      obtain ⟨q, hq⟩ := i_atoi_any (c :: r) (by simp at ht ⊢; omega)
      rw [hq]; simp only [Option.bind_some]
      by_cases c1 : q.2.isNone = true
      · rw [if_pos c1]; exact ⟨_, rfl⟩
      · rw [if_neg c1]
        by_cases c2 : (r.length : Int) + 3 = 3
        · rw [if_pos c2]; exact ⟨_, rfl⟩
        · rw [if_neg c2]
          by_cases c3 : (r.length : Int) + 3 = 5
          · rw [if_pos c3]; unfold strings_IndexByte.f; exact ⟨_, rfl⟩
          · rw [if_neg c3]; exact ⟨_, rfl⟩
    · have hs : (((B (a :: b :: c :: r)).size : Nat) : Int) = (r.length : Int) + 3 := by rw [B_size]; rfl
      unfold impl_readInstr.f
      rw [if_neg (by omega)]
      simp only [impl_readInstr.j0, Bool.false_eq_true, if_false]
      rw [if_neg (by omega), if_pos (by omega), b1, if_neg (fun h => eb (UInt8.toNat_inj.mp (by show b.toNat = 61; omega)))]
      exact ⟨_, rfl⟩
theorem ix_sign {o : Int} (h : 3 ≤ o ∧ o ≤ 7) : Lib.indexByte [43, 45, 42, 60, 126] (Sg o) = o - 3 := by
  obtain rfl | rfl | rfl | rfl | rfl : o = 3 ∨ o = 4 ∨ o = 5 ∨ o = 6 ∨ o = 7 := by omega
  all_goals rfl
theorem i_read_text {x : I} (hg : gI x = true) : impl_readInstr.f 60 (B (txtL x)) = some (x.f0, x.f1, x.f2, x.f3, x.f4, true) := by
  obtain ⟨f1, f2, f3, f4⟩ := gI_form hg
  unfold txtL
  rcases gI_cases hg with ⟨c, h1, h2⟩ | ⟨c, h1, h2⟩ | ⟨c, h1, h2⟩ | ⟨c, h1, h2, h3⟩
  · obtain ⟨e2, e3⟩ := f1 c
    obtain ⟨d, r, hd⟩ := digits_cons x.f4.toNat
    have hw := atR_digits (n := x.f4.toNat) (by omega)
    have hl := digits_le 4 x.f4.toNat (by omega)
    rw [hd] at hw hl
    rw [if_pos c, hd, i_read_3, i_atoi _ (by omega), hw]
    simp only [Option.bind_some, Option.isNone_none, if_true]
    rw [ch_L h1, c, e2, e3, show ((x.f4.toNat : Nat) : Int) = x.f4 by omega]
  · obtain ⟨e3, e4⟩ := f2 c
    have n1 : ¬ x.f0 = 1 := by omega
    rw [if_neg n1, if_pos c, i_read_3, i_atoi _ (by simp), atR_letter _ (L_97 h2)]
    simp only [Option.bind_some, Option.isNone_some, Bool.false_eq_true, if_false]
    rw [if_pos (show (([] : List UInt8).length : Int) + 3 = 3 from rfl), ch_L h1, ch_L h2, c, e3, e4]
  · obtain ⟨e1, e3, e4⟩ := f3 c
    have n1 : ¬ x.f0 = 1 := by omega
    have n2 : ¬ x.f0 = 2 := by omega
    rw [if_neg n1, if_neg n2, if_pos c]
    have hs : (B [33, L x.f2]).size = 2 := rfl
    unfold impl_readInstr.f
    rw [hs, b0]
    have e : (((33 : UInt8).toNat : Int) == 33) = true := rfl
    rw [e]; simp only [impl_readInstr.j0, if_true]; rw [b1, w_ch, hs, ch_L h2, c, e1, e3, e4]; rfl
  · have e4 := f4 c
    have n1 : ¬ x.f0 = 1 := by omega
    have n2 : ¬ x.f0 = 2 := by omega
    have n8 : ¬ x.f0 = 8 := by omega
    rw [if_neg n1, if_neg n2, if_neg n8, i_read_3, i_atoi _ (by simp), atR_letter _ (L_97 h2)]
    simp only [Option.bind_some, Option.isNone_some, Bool.false_eq_true, if_false]
    rw [if_neg (by simp), if_pos (by simp), b3, b4]
    unfold strings_IndexByte.f
    have hc := UInt8.toNat_lt (Sg x.f0)
    have ei : Lib.indexByte (⟨#[43, 45, 42, 60, 126]⟩ : ByteArray).data.toList (((Sg x.f0).toNat : Int)).toNat.toUInt8 = x.f0 - 3 := by
      rw [Int.toNat_natCast, show (Sg x.f0).toNat.toUInt8 = Sg x.f0 from UInt8.ofNat_toNat]
      exact ix_sign c
    rw [ei]
    simp only [Option.bind_some]
    rw [w64 (by omega) (by omega), w_ch, ch_L h1, ch_L h2, ch_L h3, e4, show (3 : Int) + (x.f0 - 3) = x.f0 by omega, decide_eq_true (show x.f0 ≥ 3 by omega)]
def stepS (t : List UInt8) : R6 := (spec_l3Step.f 60 (B t)).getD (0, 0, 0, 0, 0, false)
def readR (t : List UInt8) : R6 := (impl_readInstr.f 60 (B t)).getD (0, 0, 0, 0, 0, false)
theorem stepS_eq {k : Nat} (t : List UInt8) (hk : 60 ≤ k) : spec_l3Step.f k (B t) = some (stepS t) := by
  obtain ⟨r, h, _⟩ := s_step_any t
  unfold stepS
  rw [h, Option.getD_some]
  exact at_rounds (g := fun k => spec_l3Step.f k (B t)) (fun k => spec_l3Step.mono (B t) k) hk h
theorem readR_eq {k : Nat} (t : List UInt8) (ht : t.length ≤ 900) (hk : 60 ≤ k) : impl_readInstr.f k (B t) = some (readR t) := by
  obtain ⟨r, h⟩ := i_read_any t ht
  unfold readR
  rw [h, Option.getD_some]
  exact at_rounds (g := fun k => impl_readInstr.f k (B t)) (fun k => impl_readInstr.mono (B t) k) hk h
theorem stepS_back (t : List UInt8) (h1 : (stepS t).2.2.2.2.2 = true) (h2 : gI (rI (stepS t)) = true) : txtL (rI (stepS t)) = t := by
  obtain ⟨r, h, hb⟩ := s_step_any t
  have e : stepS t = r := by unfold stepS; rw [h]; rfl
  rw [e] at h1 h2 ⊢
  exact hb h1 h2
def fr (x : I) : R6 := (x.f0, x.f1, x.f2, x.f3, x.f4, true)
theorem stepS_txt {x : I} (h : gI x = true) : stepS (txtL x) = fr x := by unfold stepS; rw [s_step_text h]; rfl
theorem readR_txt {x : I} (h : gI x = true) : readR (txtL x) = fr x := by unfold readR; rw [i_read_text h]; rfl
theorem rI_fr (x : I) : rI (fr x) = x := rfl
theorem s_split_loop (m : Nat) : ∀ (k : Nat) (l : List UInt8) (i f : Nat) (acc : List ByteArray), f ≤ i → i ≤ l.length → l.length - i = m → m < k → l.length ≤ 1000 → acc.length ≤ i → (∀ c ∈ (l.take i).drop f, c ≠ 59) →
    spec_l3Split.l0 k (B l) 59 acc (f : Int) (i : Int) = some (acc ++ (sp (l.drop f)).map B) := by
  induction m with
  | zero =>
    intro k l i f acc hf h1 hd hk hn ha hp
    obtain ⟨k, rfl⟩ : ∃ m, k = m + 1 := ⟨k - 1, by omega⟩
    have hs := B_size l
    rw [List.take_of_length_le (by omega)] at hp
    simp only [spec_l3Split.l0]
    rw [if_neg (by rw [hs]; omega), if_pos (by omega), if_pos (by rw [hs]; omega), if_pos (by omega), sp_end _ hp, hs, B_extract, Int.toNat_natCast, List.take_of_length_le (Nat.le_refl _)]
    rfl
  | succ m ih =>
    intro k l i f acc hf h1 hd hk hn ha hp
    obtain ⟨k, rfl⟩ : ∃ m, k = m + 1 := ⟨k - 1, by omega⟩
    have hs := B_size l
    have hi : i < l.length := by omega
    have wi : wrap64 ((i : Int) + 1) = ((i + 1 : Nat) : Int) := by rw [w64 (by omega) (by omega)]; omega
    have e1 : l.drop f = (l.take i).drop f ++ l[i] :: l.drop (i + 1) := by
      rw [← List.drop_eq_getElem_cons hi]
      conv => lhs; rw [← List.take_append_drop i l]
      rw [List.drop_append_of_le_length (by rw [List.length_take]; omega)]
    simp only [spec_l3Split.l0]
    rw [if_pos (by rw [hs]; omega), if_pos (by omega), bt_B hi, wi]
    by_cases c : (l[i].toNat : Int) = 59
    · have ec : l[i] = 59 := UInt8.toNat_inj.mp (by show l[i].toNat = 59; omega)
      rw [if_pos c, if_pos (by omega), if_pos (by omega), if_pos (by rw [hs]; omega), if_pos (by omega), B_extract, Int.toNat_natCast, Int.toNat_natCast]
      rw [ih k l (i + 1) (i + 1) _ (Nat.le_refl _) (by omega) (by omega) (by omega) hn (by simp; omega) (by rw [List.drop_of_length_le (by rw [List.length_take]; omega)]; simp)]
      rw [e1, ec, sp_cut _ _ hp]
      simp
    · rw [if_neg c]
      refine ih k l (i + 1) f acc (by omega) (by omega) (by omega) (by omega) hn (by omega) ?_
      intro d hd2
      rw [List.take_add_one, List.getElem?_eq_getElem hi, List.drop_append_of_le_length (by rw [List.length_take]; omega)] at hd2
      rcases List.mem_append.mp hd2 with h | h
      · exact hp d h
      · simp only [Option.toList_some, List.mem_singleton] at h
        rw [h]; intro e; apply c; rw [e]; rfl
theorem s_split {k : Nat} (l : List UInt8) (hn : l.length ≤ 1000) (hk : 1001 < k) : spec_l3Split.f k (B l) 59 = some ((sp l).map B) := by
  unfold spec_l3Split.f
  have h := s_split_loop l.length k l 0 0 [] (Nat.le_refl _) (by omega) (by omega) (by omega) hn (by simp) (by simp)
  rw [List.nil_append, List.drop_zero] at h
  exact h
theorem i_split (l : List UInt8) (hn : l.length ≤ 1000) : strings_Split.f (B l) (⟨#[59]⟩ : ByteArray) = some ((sp l).map B) := by
  unfold strings_Split.f
  rw [if_pos ⟨by rw [B_size]; omega, by decide⟩, show (⟨#[59]⟩ : ByteArray) = B [59] from rfl, split_sp _ l rfl]
theorem rd_map (ts : List (List UInt8)) (i : Nat) (h : i < ts.length) : rdOf ByteArray.empty (ts.map B) (i : Int) = B ts[i] := by
  unfold rdOf
  rw [Int.toNat_natCast, List.getD_eq_getElem?_getD, List.getElem?_map, List.getElem?_eq_getElem h]; rfl
def okR (r : R6) : Bool := r.2.2.2.2.2
def goodS (l : List I) : List I × Bool := if gC l = true then (l, true) else ([], false)
def goodI (s : List UInt8) (l : List I) : List I × Bool := if gC l = true ∧ B s = J (l.map txt) then (l, true) else ([], false)
theorem s_read_loop (m : Nat) : ∀ (k : Nat) (s : List UInt8) (ts : List (List UInt8)) (i : Nat) (acc : List I), s ≠ [] → i ≤ ts.length → ts.length - i = m → 2 * m + 1000000 < k → ts.length ≤ 2000 → acc.length ≤ i →
    spec_ReadCode.l0 k (B s) acc (ts.map B) (ts.length : Int) (i : Int) = some (if ((ts.drop i).map stepS).all okR = true then goodS (acc ++ ((ts.drop i).map stepS).map rI) else ([], false)) := by
  induction m with
  | zero =>
    intro k s ts i acc hs h1 hd hk hn ha
    obtain ⟨k, rfl⟩ : ∃ m, k = m + 1 := ⟨k - 1, by omega⟩
    simp only [spec_ReadCode.l0]
    rw [if_neg (by omega), s_code k acc (by omega) (by omega), List.drop_of_length_le (by omega)]
    simp only [Option.bind_some, List.map_nil, List.all_nil, if_true, List.append_nil]
    unfold goodS
    by_cases c : gC acc = true
    · rw [if_pos c, if_pos c]
    · rw [if_neg c, if_neg c]
  | succ m ih =>
    intro k s ts i acc hs h1 hd hk hn ha
    obtain ⟨k, rfl⟩ : ∃ m, k = m + 2 := ⟨k - 2, by omega⟩
    have hi : i < ts.length := by omega
    have wi : wrap64 ((i : Int) + 1) = ((i + 1 : Nat) : Int) := by rw [w64 (by omega) (by omega)]; omega
    have hne : ¬ ((B s).toList = ([] : List UInt8)) := by rw [Lib.toList_data, B_data]; exact hs
    simp only [spec_ReadCode.l0, spec_ReadCode.j1]
    rw [if_pos (by omega), if_pos (by omega), if_pos (by rw [List.length_map]; omega), rd_map ts i hi, stepS_eq _ (by omega)]
    simp only [Option.bind_some]
    rw [if_neg hne, List.drop_eq_getElem_cons hi, List.map_cons, List.all_cons, List.map_cons]
    by_cases c : (stepS ts[i]).2.2.2.2.2 = true
    · have e : okR (stepS ts[i]) = true := c
      rw [c, e]
      simp only [Bool.not_true, Bool.false_eq_true, if_false, Bool.true_and]
      rw [if_neg hne, if_pos (by omega), wi]
      rw [ih k s ts (i + 1) _ hs (by omega) (by omega) (by omega) hn (by simp; omega), List.append_assoc]
      rfl
    · have e : okR (stepS ts[i]) = false := Bool.eq_false_iff.mpr c
      rw [Bool.eq_false_iff.mpr c, e]
      simp
theorem i_read_loop (m : Nat) : ∀ (k : Nat) (s : List UInt8) (ts : List (List UInt8)) (i : Nat) (acc : List I), i ≤ ts.length → ts.length - i = m → m + 1000000 < k → ts.length ≤ 2000 → acc.length ≤ i → (∀ t ∈ ts, t.length ≤ 900) →
    impl_ReadCode.l0 k (B s) acc (ts.map B) (ts.length : Int) (i : Int) = some (if ((ts.drop i).map readR).all okR = true then goodI s (acc ++ ((ts.drop i).map readR).map rI) else ([], false)) := by
  induction m with
  | zero =>
    intro k s ts i acc h1 hd hk hn ha ht
    obtain ⟨k, rfl⟩ : ∃ m, k = m + 2 := ⟨k - 2, by omega⟩
    simp only [impl_ReadCode.l0, impl_ReadCode.j1]
    rw [if_neg (by omega), i_code k acc (by omega) (by omega), List.drop_of_length_le (by omega)]
    simp only [Option.bind_some, List.map_nil, List.all_nil, if_true, List.append_nil]
    unfold goodI
    by_cases c : gC acc = true
    · rw [if_pos c, i_text k acc (by omega) c]
      simp only [Option.bind_some]
      by_cases e : B s = J (acc.map txt)
      · rw [if_pos (show (J (acc.map txt)).toList = (B s).toList by rw [e]), if_pos ⟨c, e⟩]
      · rw [if_neg (fun h => e ((B_toList _ _).mp h).symm), if_neg (fun h => e h.2)]
    · rw [if_neg c, if_neg (fun h => c h.1)]
  | succ m ih =>
    intro k s ts i acc h1 hd hk hn ha ht
    obtain ⟨k, rfl⟩ : ∃ m, k = m + 1 := ⟨k - 1, by omega⟩
    have hi : i < ts.length := by omega
    have wi : wrap64 ((i : Int) + 1) = ((i + 1 : Nat) : Int) := by rw [w64 (by omega) (by omega)]; omega
    simp only [impl_ReadCode.l0]
    rw [if_pos (by omega), if_pos (by omega), if_pos (by rw [List.length_map]; omega), rd_map ts i hi, readR_eq _ (ht _ (List.getElem_mem hi)) (by omega)]
    simp only [Option.bind_some]
    rw [List.drop_eq_getElem_cons hi, List.map_cons, List.all_cons, List.map_cons]
    by_cases c : (readR ts[i]).2.2.2.2.2 = true
    · have e : okR (readR ts[i]) = true := c
      rw [if_pos c, e, if_pos (by omega), wi]
      simp only [Bool.true_and]
      rw [ih k s ts (i + 1) _ (by omega) (by omega) (by omega) hn (by simp; omega) ht, List.append_assoc]
      rfl
    · have e : okR (readR ts[i]) = false := Bool.eq_false_iff.mpr c
      rw [if_neg c, e]
      simp
theorem J_txt {l : List I} (h : ∀ x ∈ l, gI x = true) : J (l.map txt) = B (Lib.join (l.map txtL) [59]) := by
  unfold J
  have e : (l.map txt).map (fun s : ByteArray => s.data.toList) = l.map txtL := by
    rw [List.map_map]
    apply List.map_congr_left
    intro x hx
    show (txt x).data.toList = txtL x
    rw [txt_B (h x hx), B_data]
  rw [e]
theorem gC_iff (l : List I) : gC l = true ↔ l.length ≤ 30 ∧ ∀ x ∈ l, gI x = true := by
  unfold gC; rw [Bool.and_eq_true, decide_eq_true_eq, List.all_eq_true]; exact ⟨fun h => ⟨h.2, h.1⟩, fun h => ⟨h.2, h.1⟩⟩
def resS (s : List UInt8) : List I × Bool := if s = [] then ([], true) else if ((sp s).map stepS).all okR = true then goodS (((sp s).map stepS).map rI) else ([], false)
/-- The two readings are one. -/
theorem res_same (s : List UInt8) (hs : s ≠ []) : (if ((sp s).map readR).all okR = true then goodI s (((sp s).map readR).map rI) else ([], false)) = resS s := by
  unfold resS
  rw [if_neg hs]
  by_cases cS : ((sp s).map stepS).all okR = true ∧ gC (((sp s).map stepS).map rI) = true
  · obtain ⟨c1, c2⟩ := cS
    obtain ⟨hl, hg⟩ := (gC_iff _).mp c2
    have hb : ∀ t ∈ sp s, okR (stepS t) = true ∧ gI (rI (stepS t)) = true ∧ txtL (rI (stepS t)) = t ∧ readR t = stepS t := by
      intro t ht
      have a1 : okR (stepS t) = true := List.all_eq_true.mp c1 _ (List.mem_map_of_mem ht)
      have a2 : gI (rI (stepS t)) = true := hg _ (List.mem_map_of_mem (List.mem_map_of_mem ht))
      have a3 := stepS_back t a1 a2
      refine ⟨a1, a2, a3, ?_⟩
      have a4 := readR_txt a2
      have a5 := stepS_txt a2
      rw [a3] at a4 a5
      rw [a4, ← a5]
    have e1 : (sp s).map readR = (sp s).map stepS := List.map_congr_left (fun t ht => (hb t ht).2.2.2)
    rw [e1, if_pos c1, if_pos c1]
    unfold goodI goodS
    have e2 : (((sp s).map stepS).map rI).map txtL = sp s := by
      rw [List.map_map, List.map_map]
      conv => rhs; rw [← List.map_id (sp s)]
      exact List.map_congr_left (fun t ht => (hb t ht).2.2.1)
    rw [if_pos c2, if_pos ⟨c2, by rw [J_txt hg, e2, join_sp]⟩]
  · have er : (if ((sp s).map stepS).all okR = true then goodS (((sp s).map stepS).map rI) else ([], false)) = (([] : List I), false) := by
      by_cases c1 : ((sp s).map stepS).all okR = true
      · rw [if_pos c1]; unfold goodS; rw [if_neg (fun h => cS ⟨c1, h⟩)]
      · rw [if_neg c1]
    rw [er]
    by_cases c1 : ((sp s).map readR).all okR = true
    · rw [if_pos c1]
      unfold goodI
      rw [if_neg]
      rintro ⟨c2, c3⟩
      obtain ⟨hl, hg⟩ := (gC_iff _).mp c2
      rw [J_txt hg] at c3
      have e0 := B_inj c3
      obtain ⟨y, q, hy⟩ : ∃ y q, sp s = y :: q := by
        cases h : sp s with
        | nil => exact absurd h (sp_ne s)
        | cons y q => exact ⟨y, q, rfl⟩
      have e1 : sp s = (((sp s).map readR).map rI).map txtL := by
        conv => lhs; rw [e0]
        rw [hy, List.map_cons, List.map_cons, List.map_cons]
        refine sp_of_join _ _ ?_
        intro t ht
        rw [hy] at hg
        rw [← List.map_cons (f := txtL), ← List.map_cons (f := rI), ← List.map_cons (f := readR)] at ht
        obtain ⟨x, hx, rfl⟩ := List.mem_map.mp ht
        exact txtL_no (hg x hx)
      have hb : ∀ t ∈ sp s, stepS t = fr (rI (readR t)) := by
        rw [List.map_map, List.map_map] at e1
        intro t ht
        have e2 : txtL (rI (readR t)) = t := by
          have : ∀ (ts : List (List UInt8)), ts = ts.map (txtL ∘ rI ∘ readR) → ∀ t ∈ ts, txtL (rI (readR t)) = t := by
            intro ts
            induction ts with
            | nil => intro _ t ht; cases ht
            | cons a ts ih =>
              intro h t ht
              rw [List.map_cons] at h
              injection h with h1 h2
              rcases List.mem_cons.mp ht with rfl | ht
              · exact h1.symm
              · exact ih h2 t ht
          exact this _ e1 t ht
        have hgt : gI (rI (readR t)) = true := hg _ (List.mem_map_of_mem (List.mem_map_of_mem ht))
        have := stepS_txt hgt
        rwa [e2] at this
      apply cS
      have e3 : ((sp s).map stepS).map rI = ((sp s).map readR).map rI := by
        rw [List.map_map, List.map_map]
        exact List.map_congr_left (fun t ht => by show rI (stepS t) = rI (readR t); rw [hb t ht, rI_fr])
      refine ⟨?_, by rw [e3]; exact c2⟩
      rw [List.all_eq_true]
      intro r hr
      obtain ⟨t, ht, rfl⟩ := List.mem_map.mp hr
      rw [hb t ht]; rfl
    · rw [if_neg c1]
theorem sp_part : ∀ (s : List UInt8), ∀ t ∈ sp s, t.length ≤ s.length
  | [], t, h => by simp [sp] at h; rw [h]; simp
  | c :: r, t, h => by
    have ih := sp_part r
    unfold sp at h
    by_cases hc : c = 59
    · rw [if_pos hc] at h
      rcases List.mem_cons.mp h with rfl | h
      · simp
      · have := ih t h; simp; omega
    · rw [if_neg hc] at h
      cases hq : sp r with
      | nil => exact absurd hq (sp_ne r)
      | cons y q =>
        rw [hq] at h ih
        rcases List.mem_cons.mp h with rfl | h
        · have := ih y (List.mem_cons_self ..); simp; omega
        · have := ih t (List.mem_cons_of_mem _ h); simp; omega
def resRead (s : ByteArray) : List I × Bool := if 400 < s.size then ([], false) else resS s.data.toList
theorem s_resRead (k : Nat) (s : ByteArray) (hk : 2000000 < k) : spec_ReadCode.f k s = some (resRead s) := by
  rw [← B_of s]
  generalize s.data.toList = l
  unfold spec_ReadCode.f resRead
  rw [B_size, B_data]
  by_cases c : (l.length : Int) > 400
  · rw [if_pos c, if_pos (by omega)]
  · rw [if_neg c, if_neg (by omega), s_split l (by omega) (by omega)]
    simp only [Option.bind_some]
    have hl := sp_len l
    rw [List.length_map]
    by_cases e : l = []
    · subst e
      unfold resS
      rw [if_pos rfl]
      obtain ⟨k, rfl⟩ : ∃ m, k = m + 3 := ⟨k - 3, by omega⟩
      have h1 : spec_l3Step.f (k + 2) (B []) = some (stepS []) := stepS_eq _ (by omega)
      have he : (B []).toList = ([] : List UInt8) := by rw [Lib.toList_data, B_data]
      have hg : spec_GoodCode.f k [] = some true := s_code k [] (by omega) (by simp)
      simp only [sp, List.map_cons, List.map_nil, List.length_cons, List.length_nil, spec_ReadCode.l0, spec_ReadCode.j1]
      have hr : rdOf ByteArray.empty [B []] 0 = B [] := rfl
      rw [if_pos (by omega), if_pos (by omega), if_pos (by omega), hr, h1]
      simp only [Option.bind_some]
      rw [if_pos he]
      simp only [Bool.false_eq_true, if_false]
      rw [if_pos he, show wrap64 (0 + 1) = 1 from by rw [w64 (by omega) (by omega)]; rfl, if_neg (by omega), hg]
      rfl
    · have h := s_read_loop (sp l).length k l (sp l) 0 [] e (by omega) (by omega) (by omega) (by omega) (by simp)
      rw [List.drop_zero, List.nil_append] at h
      unfold resS
      rw [if_neg e]
      exact h
theorem i_resRead (k : Nat) (s : ByteArray) (hk : 2000000 < k) : impl_ReadCode.f k s = some (resRead s) := by
  rw [← B_of s]
  generalize s.data.toList = l
  unfold impl_ReadCode.f resRead
  rw [B_size, B_data]
  by_cases c : (l.length : Int) > 400
  · rw [if_pos c, if_pos (by omega)]
  · rw [if_neg c, if_neg (by omega)]
    simp only [Option.bind_some]
    have hl := sp_len l
    rw [Lib.toList_data, B_data]
    by_cases e : l = []
    · subst e
      unfold resS
      rw [if_pos rfl, if_pos rfl]
      obtain ⟨k, rfl⟩ : ∃ m, k = m + 1 := ⟨k - 1, by omega⟩
      have hg : impl_isCode.f k [] = some true := i_code k [] (by omega) (by simp)
      simp only [impl_ReadCode.j1]
      rw [hg]
      simp only [Option.bind_some, if_true]
      rw [i_text k [] (by omega) rfl]
      simp only [Option.bind_some]
      rw [if_pos (congrArg ByteArray.toList (show J (List.map txt []) = B [] from rfl))]
    · rw [if_neg e, i_split l (by omega)]
      simp only [Option.bind_some]
      rw [List.length_map]
      have h := i_read_loop (sp l).length k l (sp l) 0 [] (by omega) (by omega) (by omega) (by omega) (by simp) (fun t ht => by have := sp_part l t ht; omega)
      rw [List.drop_zero, List.nil_append] at h
      have h' : impl_ReadCode.l0 k (B l) [] ((sp l).map B) ((sp l).length : Int) 0 = _ := h
      rw [h', res_same l e]
theorem resRead_le (s : ByteArray) : (resRead s).1.length ≤ 30 := by
  unfold resRead resS goodS
  by_cases c : 400 < s.size
  · rw [if_pos c]; simp
  · rw [if_neg c]
    by_cases e : s.data.toList = []
    · rw [if_pos e]; simp
    · rw [if_neg e]
      by_cases c1 : ((sp s.data.toList).map stepS).all okR = true
      · rw [if_pos c1]
        by_cases c2 : gC (((sp s.data.toList).map stepS).map rI) = true
        · rw [if_pos c2]; exact ((gC_iff _).mp c2).1
        · rw [if_neg c2]; simp
      · rw [if_neg c1]; simp
/-! Marks on steps, and that they hold. -/
def mk5 (a : Int) : I := ⟨a, a + 1, a + 2, a + 3, a + 4⟩
theorem rd_set5 (x : List I) (i : Nat) (v : I) (h : i < x.length) : rd_T41 (x.set i v) (i : Int) = v := by
  unfold rd_T41
  rw [Int.toNat_natCast, List.getD_eq_getElem?_getD, List.getElem?_set_self h]; rfl
theorem rd_of (x : List I) (i : Nat) (v : I) (h : x[i]? = some v) : rd_T41 x (i : Int) = v := by
  unfold rd_T41
  rw [Int.toNat_natCast, List.getD_eq_getElem?_getD, h]; rfl
theorem markh_loop (m : Nat) : ∀ (k : Nat) (x : List I) (a : Int) (i : Nat), i ≤ x.length → x.length - i = m → m < k → x.length ≤ 2000000 → 0 ≤ a → a ≤ 1000000000000000 + 5 * i →
    ∃ y, y.length = x.length ∧ laws_markInstrS.l0 k x a (i : Int) = some (a + 5 * m, y) ∧ (∀ j, j < i → y[j]? = x[j]?) ∧ ∀ j, i ≤ j → j < x.length → y[j]? = some (mk5 (a + 5 * ((j : Int) - i))) := by
  induction m with
  | zero =>
    intro k x a i h1 hd hk hn h0 h2
    obtain ⟨k, rfl⟩ : ∃ m, k = m + 1 := ⟨k - 1, by omega⟩
    simp only [laws_markInstrS.l0]
    rw [if_neg (by omega)]
    exact ⟨x, rfl, by simp, fun _ _ => rfl, fun j h h' => by omega⟩
  | succ m ih =>
    intro k x a i h1 hd hk hn h0 h2
    obtain ⟨k, rfl⟩ : ∃ m, k = m + 1 := ⟨k - 1, by omega⟩
    have hi : i < x.length := by omega
    simp only [laws_markInstrS.l0, Option.bind_some]
    have wi : wrap64 ((i : Int) + 1) = ((i + 1 : Nat) : Int) := by rw [w64 (by omega) (by omega)]; omega
    have e1 : wrap64 (a + 1) = a + 1 := w64 (by omega) (by omega)
    have e2 : wrap64 (a + 1 + 1) = a + 2 := by rw [w64 (by omega) (by omega)]; omega
    have e3 : wrap64 (a + 2 + 1) = a + 3 := by rw [w64 (by omega) (by omega)]; omega
    have e4 : wrap64 (a + 3 + 1) = a + 4 := by rw [w64 (by omega) (by omega)]; omega
    have e5 : wrap64 (a + 4 + 1) = a + 5 := by rw [w64 (by omega) (by omega)]; omega
    have r : ∀ v, rd_T41 (x.set i v) (i : Int) = v := fun v => rd_set5 x i v hi
    rw [if_pos (show (i : Int) < (x.length : Int) by omega), if_pos (show 0 ≤ (i : Int) by omega), wi, e1, e2, e3, e4, e5]
    simp only [Int.toNat_natCast, List.set_set, r]
    obtain ⟨y, hl, he, hlo, hhi⟩ := ih k (x.set i (mk5 a)) (a + 5) (i + 1) (by simp; omega) (by simp; omega) (by omega) (by simp; omega) (by omega) (by omega)
    rw [List.length_set] at hl hhi
    refine ⟨y, hl, ?_, fun j hj => ?_, fun j hj hj2 => ?_⟩
    · show laws_markInstrS.l0 k (x.set i (mk5 a)) (a + 5) ((i + 1 : Nat) : Int) = _
      rw [he]; congr 2; omega
    · rw [hlo j (by omega), List.getElem?_set_ne (by omega)]
    · by_cases c : j = i
      · subst c
        rw [hlo j (by omega), List.getElem?_set_self hi]
        congr 2; omega
      · rw [hhi j (by omega) hj2]
        congr 2; omega
theorem heldh_loop (m : Nat) : ∀ (k : Nat) (y : List I) (a : Int) (i : Nat), i ≤ y.length → y.length - i = m → m < k → y.length ≤ 2000000 → 0 ≤ a → a ≤ 1000000000000000 + 5 * i →
    (∀ j, i ≤ j → j < y.length → y[j]? = some (mk5 (a + 5 * ((j : Int) - i)))) → laws_heldInstrS.l0 k y a (i : Int) = some (a + 5 * m) := by
  induction m with
  | zero =>
    intro k y a i h1 hd hk hn h0 h2 h
    obtain ⟨k, rfl⟩ : ∃ m, k = m + 1 := ⟨k - 1, by omega⟩
    simp only [laws_heldInstrS.l0]
    rw [if_neg (by omega)]; simp
  | succ m ih =>
    intro k y a i h1 hd hk hn h0 h2 h
    obtain ⟨k, rfl⟩ : ∃ m, k = m + 1 := ⟨k - 1, by omega⟩
    have wi : wrap64 ((i : Int) + 1) = ((i + 1 : Nat) : Int) := by rw [w64 (by omega) (by omega)]; omega
    have e1 : wrap64 (a + 1) = a + 1 := w64 (by omega) (by omega)
    have e2 : wrap64 (a + 1 + 1) = a + 2 := by rw [w64 (by omega) (by omega)]; omega
    have e3 : wrap64 (a + 2 + 1) = a + 3 := by rw [w64 (by omega) (by omega)]; omega
    have e4 : wrap64 (a + 3 + 1) = a + 4 := by rw [w64 (by omega) (by omega)]; omega
    have e5 : wrap64 (a + 4 + 1) = a + 5 := by rw [w64 (by omega) (by omega)]; omega
    have hr := rd_of y i _ (h i (Nat.le_refl _) (by omega))
    rw [show a + 5 * ((i : Int) - i) = a by omega] at hr
    simp only [laws_heldInstrS.l0]
    rw [if_pos (show (i : Int) < (y.length : Int) by omega), if_pos (show 0 ≤ (i : Int) by omega), wi, hr, e1, e2, e3, e4, e5]
    simp only [mk5, if_true]
    rw [ih k y (a + 5) (i + 1) (by omega) (by omega) (by omega) hn (by omega) (by omega) (fun j hj hj2 => by rw [h j (by omega) hj2]; congr 2; omega)]
    congr 1; omega
theorem markedh (k : Nat) (x : List I) (a : Int) (hk : x.length < k) (hn : x.length ≤ 2000000) (h0 : 0 ≤ a) (h1 : a ≤ 1000000000000000) :
    ∃ y, y.length = x.length ∧ laws_markInstrS.f k x a = some (a + 5 * x.length, y) ∧ ∀ k', x.length < k' → laws_heldInstrS.f k' y a = some (a + 5 * x.length) := by
  obtain ⟨y, hl, he, _, h⟩ := markh_loop x.length k x a 0 (by omega) (by omega) hk hn h0 (by omega)
  refine ⟨y, hl, he, fun k' hk' => ?_⟩
  have := heldh_loop x.length k' y a 0 (by omega) (by omega) hk' (by omega) h0 (by omega) (fun j hj hj2 => h j hj (by omega))
  exact this
end FnExactReadCode
open FnExactReadCode in
theorem FnExactReadCode : laws_FnExactReadCode.Pure := by
  intro s hs
  obtain ⟨k, hk⟩ : ∃ k : Nat, k = 3000000 := ⟨_, rfl⟩
  refine ⟨k + 2, ?_⟩
  unfold laws_FnExactReadCode.f
  by_cases c : (s.size : Int) > 1048576
  · rw [if_pos c]
  · have hl := resRead_le s
    rw [if_neg c, s_resRead _ s (by omega), i_resRead _ s (by omega)]
    simp only [Option.bind_some]
    rw [eq_code (k + 2) _ (by omega) (by omega)]
    simp only [Option.bind_some, if_true, bne_self_eq_false]
    obtain ⟨y, hy, hm, hh⟩ := markedh (k + 1) (resRead s).1 1 (by omega) (by omega) (by omega) (by omega)
    simp only [laws_FnExactReadCode.j0, Bool.false_eq_true, if_false]
    rw [hm]; simp only [Option.bind_some]
    rw [hh (k + 1) (by omega)]; simp only [Option.bind_some]
    rw [if_neg (by omega)]; simp only [if_true]
    rw [i_resRead _ s (by omega)]; simp only [Option.bind_some]
    rw [eq_code (k + 1) _ (by omega) (by omega)]
    simp only [Option.bind_some, if_true, bne_self_eq_false]
    simp only [laws_FnExactReadCode.j1, Bool.false_eq_true, if_false]
    rw [hh k (by omega)]; simp only [Option.bind_some]
    rw [if_neg (by omega)]; simp

end Go.Proofs.YtapdpmfijijjfaaDoor.Pure
