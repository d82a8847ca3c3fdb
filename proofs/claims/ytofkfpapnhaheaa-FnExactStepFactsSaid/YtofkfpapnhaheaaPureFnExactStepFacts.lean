/- The program's StepFacts returns what the reference's returns, leaves its arguments as they were, and hands back memory of its own: for all code and facts. No condition. -/
import Derived.Test.YtofkfpapnhaheaaPFnExactStepFactsx11
import Derived.Test.YtofkfpapnhaheaaPlain
namespace Go.Proofs.Ytofkfpapnhaheaa.Pure
open Go.RowKit Go.Proofs.Ytofkfpapnhaheaa.PFnExactStepFacts Go.Proofs.YtofkfpapnhaheaaW.PrintWords Go.Proofs.YtofkfpapnhaheaaW.PrintLast Go.Proofs.Ytofkfpapnhaheaa.Plain

namespace FnExactStepFacts
theorem s_in (a l h : Int) : spec_l1In.f a l h = some (decide (l ≤ a ∧ a ≤ h)) := by
  unfold spec_l1In.f
  by_cases c : a ≥ l
  · rw [if_pos c]; simp [show l ≤ a from c]
  · rw [if_neg c]; simp; omega
theorem i_in (a l h : Int) : impl_in.f a l h = some (decide (l ≤ a ∧ a ≤ h)) := by
  unfold impl_in.f
  by_cases c : a ≥ l
  · rw [if_pos c]; simp [show l ≤ a from c]
  · rw [if_neg c]; simp; omega
/-! Code: steps and what makes them good. -/
abbrev I := S68
def cv (x : S71) : I := ⟨x.f0, x.f1, x.f2, x.f3, x.f4⟩
def nm (v : Int) : Bool := decide (0 ≤ v ∧ v ≤ 7)
def wd (v : Int) : Bool := decide (0 ≤ v ∧ v ≤ 65535)
def gi (o d a b n : Int) : Bool :=
  if o = 1 then nm d && (a == 0 && (b == 0 && wd n)) else if o = 2 then nm d && (nm a && (b == 0 && n == 0)) else if o = 8 then d == 0 && (nm a && (b == 0 && n == 0)) else decide (3 ≤ o ∧ o ≤ 7) && (nm d && (nm a && (nm b && n == 0)))
def gI (x : I) : Bool := gi x.f0 x.f1 x.f2 x.f3 x.f4
def gC (l : List I) : Bool := l.all gI && decide (l.length ≤ 30)

theorem s_name (v : Int) : spec_l3Name.f v = some (nm v) := by unfold spec_l3Name.f nm; rw [s_in]; rfl
theorem s_word (v : Int) : spec_l1Word.f v = some (wd v) := by unfold spec_l1Word.f wd; rw [s_in]; rfl
theorem s_two (v : Int) : spec_l3Two.f v = some (decide (3 ≤ v ∧ v ≤ 7)) := by unfold spec_l3Two.f; rw [s_in]; rfl
theorem i_name (v : Int) : impl_isName.f v = some (nm v) := by unfold impl_isName.f nm; rw [i_in]; rfl
theorem i_word (v : Int) : impl_isWord.f v = some (wd v) := by unfold impl_isWord.f wd; rw [i_in]; rfl
theorem nm0 : nm 0 = true := by decide
theorem wd0 : wd 0 = true := by decide

theorem s_good (o d a b n : Int) : spec_l3Good.f o d a b n = some (gi o d a b n) := by
  unfold spec_l3Good.f gi
  rw [s_name, s_name, s_name, s_word, s_two]; simp only [Option.bind_some]
  by_cases c1 : o = 1
  · rw [if_pos c1, if_pos c1]
    cases nm d
    · rfl
    · by_cases a0 : a = 0 <;> by_cases b0 : b = 0 <;> simp [a0, b0]
  · rw [if_neg c1, if_neg c1]
    by_cases c2 : o = 2
    · rw [if_pos c2, if_pos c2]
      cases nm d <;> cases nm a <;> by_cases b0 : b = 0 <;> simp [b0]
    · rw [if_neg c2, if_neg c2]
      by_cases c8 : o = 8
      · rw [if_pos c8, if_pos c8]
        by_cases d0 : d = 0 <;> cases nm a <;> by_cases b0 : b = 0 <;> simp [b0, d0]
      · rw [if_neg c8, if_neg c8]
        by_cases c3 : 3 ≤ o ∧ o ≤ 7
        · have h : decide (3 ≤ o ∧ o ≤ 7) = true := by simpa using c3
          rw [h]
          cases nm d <;> cases nm a <;> cases nm b <;> simp
        · have h : decide (3 ≤ o ∧ o ≤ 7) = false := by simpa using c3
          rw [h]; simp

theorem i_instr (k : Nat) (hk : 2 ≤ k) (o d a b n : Int) : impl_isInstr.f k o d a b n = some (gi o d a b n) := by
  obtain ⟨k, rfl⟩ : ∃ m, k = m + 2 := ⟨k - 2, by omega⟩
  unfold impl_isInstr.f gi
  rw [i_name, i_name, i_name, i_word]; simp only [Option.bind_some, impl_isInstr.j0, impl_isInstr.j1]
  by_cases c1 : o = 1
  · subst c1
    by_cases a0 : a = 0 <;> by_cases b0 : b = 0 <;> cases nm d <;> cases wd n <;> simp [a0, b0, nm0] <;> (try (cases nm a <;> cases nm b <;> simp))
  · by_cases c2 : o = 2
    · subst c2
      by_cases n0 : n = 0 <;> by_cases b0 : b = 0 <;> cases nm d <;> cases nm a <;> simp [n0, b0, nm0, wd0] <;> (try (cases nm b <;> cases wd n <;> simp))
    · by_cases c8 : o = 8
      · subst c8
        by_cases d0 : d = 0 <;> by_cases n0 : n = 0 <;> by_cases b0 : b = 0 <;> cases nm a <;> simp [d0, n0, b0, nm0, wd0] <;> (try (cases nm b <;> cases wd n <;> cases nm d <;> simp))
      · rw [if_neg c1, if_neg c2, if_neg c8]
        by_cases c3 : 3 ≤ o ∧ o ≤ 7
        · have h : decide (3 ≤ o ∧ o ≤ 7) = true := by simpa using c3
          rw [h]
          have ho : o = 3 ∨ o = 4 ∨ o = 5 ∨ o = 6 ∨ o = 7 := by omega
          by_cases n0 : n = 0
          · subst n0
            rcases ho with rfl | rfl | rfl | rfl | rfl <;> cases nm d <;> cases nm a <;> cases nm b <;> simp [wd0]
          · rcases ho with rfl | rfl | rfl | rfl | rfl <;> cases nm d <;> cases nm a <;> cases nm b <;> cases wd n <;> simp [n0]
        · have h : decide (3 ≤ o ∧ o ≤ 7) = false := by simpa using c3
          rw [h]
          have e3 : ¬ o = 3 := by omega
          have e4 : ¬ o = 4 := by omega
          have e5 : ¬ o = 5 := by omega
          have e6 : ¬ o = 6 := by omega
          have e7 : ¬ o = 7 := by omega
          cases nm d <;> cases nm a <;> cases nm b <;> cases wd n <;> simp [c1, c2, c8, e3, e4, e5, e6, e7]

theorem rdI_drop {l : List I} {i : Nat} (h : i < l.length) : l.drop i = rd_T68 l (i : Int) :: l.drop (i + 1) := by
  rw [List.drop_eq_getElem_cons h]
  unfold rd_T68
  rw [Int.toNat_natCast, List.getD_eq_getElem?_getD, List.getElem?_eq_getElem h]; rfl

theorem s_code_loop (m : Nat) : ∀ (k : Nat) (x0 l : List I) (i : Nat), i ≤ l.length → l.length - i = m → m < k → l.length ≤ 2000000 →
    spec_GoodCode.l0 k x0 l (l.length : Int) (i : Int) = some ((l.drop i).all gI && decide (x0.length ≤ 30)) := by
  induction m with
  | zero =>
    intro k x0 l i h1 hd hk hn
    obtain ⟨k, rfl⟩ : ∃ m, k = m + 1 := ⟨k - 1, by omega⟩
    simp only [spec_GoodCode.l0]
    rw [if_neg (by omega), List.drop_of_length_le (by omega)]
    have e : decide ((x0.length : Int) ≤ 30) = decide (x0.length ≤ 30) := by congr 1; apply propext; omega
    rw [e]; simp
  | succ m ih =>
    intro k x0 l i h1 hd hk hn
    obtain ⟨k, rfl⟩ : ∃ m, k = m + 1 := ⟨k - 1, by omega⟩
    simp only [spec_GoodCode.l0]
    have wi : wrap64 ((i : Int) + 1) = ((i + 1 : Nat) : Int) := by rw [w64 (by omega) (by omega)]; omega
    rw [if_pos (show (i : Int) < (l.length : Int) by omega), if_pos (show 0 ≤ (i : Int) by omega), if_pos (show (i : Int) < (l.length : Int) by omega), s_good, wi, rdI_drop (l := l) (i := i) (by omega)]
    simp only [Option.bind_some, List.all_cons]
    show (if gI (rd_T68 l (i : Int)) = true then _ else _) = _
    cases h : gI (rd_T68 l (i : Int))
    · simp
    · rw [if_pos rfl, ih k x0 l (i + 1) (by omega) (by omega) (by omega) hn]; simp
theorem s_code (k : Nat) (l : List I) (hk : l.length < k) (hn : l.length ≤ 2000000) : spec_GoodCode.f k l = some (gC l) := by
  unfold spec_GoodCode.f gC
  have h := s_code_loop l.length k l l 0 (by omega) (by omega) hk hn
  rw [List.drop_zero] at h
  exact h
theorem i_index_loop (m : Nat) : ∀ (k : Nat) (l : List I) (i : Nat), i ≤ l.length → l.length - i = m → m + 2 < k → l.length ≤ 2000000 →
    ∃ r, slices_IndexFunc_v81.l0 k l (l.length : Int) (i : Int) = some r ∧ decide (r ≥ 0) = !(l.drop i).all gI := by
  induction m with
  | zero =>
    intro k l i h1 hd hk hn
    obtain ⟨k, rfl⟩ : ∃ m, k = m + 1 := ⟨k - 1, by omega⟩
    simp only [slices_IndexFunc_v81.l0]
    rw [if_neg (by omega), List.drop_of_length_le (by omega)]
    exact ⟨_, rfl, by decide⟩
  | succ m ih =>
    intro k l i h1 hd hk hn
    obtain ⟨k, rfl⟩ : ∃ m, k = m + 1 := ⟨k - 1, by omega⟩
    simp only [slices_IndexFunc_v81.l0]
    have wi : wrap64 ((i : Int) + 1) = ((i + 1 : Nat) : Int) := by rw [w64 (by omega) (by omega)]; omega
    unfold impl_isCode_1.f
    rw [if_pos (show (i : Int) < (l.length : Int) by omega), if_pos (show 0 ≤ (i : Int) by omega), if_pos (show (i : Int) < (l.length : Int) by omega), i_instr k (by omega), wi, rdI_drop (l := l) (i := i) (by omega)]
    simp only [Option.bind_some, List.all_cons]
    show ∃ r, (if (!gI (rd_T68 l (i : Int))) = true then _ else _) = _ ∧ _
    cases h : gI (rd_T68 l (i : Int))
    · exact ⟨(i : Int), by simp, by simp⟩
    · obtain ⟨r, e1, e2⟩ := ih k l (i + 1) (by omega) (by omega) (by omega) hn
      exact ⟨r, by simpa using e1, by simpa using e2⟩
theorem i_code (k : Nat) (l : List I) (hk : l.length + 2 < k) (hn : l.length ≤ 2000000) : impl_isCode.f k l = some (gC l) := by
  unfold impl_isCode.f gC
  by_cases c : l.length ≤ 30
  · rw [if_pos (by omega)]
    unfold slices_ContainsFunc_v81.f slices_IndexFunc_v81.f
    obtain ⟨r, e1, e2⟩ := i_index_loop l.length k l 0 (by omega) (by omega) hk hn
    rw [show ((0 : Nat) : Int) = 0 from rfl] at e1
    rw [List.drop_zero] at e2
    rw [e1]; simp only [Option.bind_some]
    rw [e2]; simp [c]
  · rw [if_neg (by omega)]; simp [c]

/-! The law's own words. -/
theorem sz_code (l : List S71) (left : Int) (h0 : 0 ≤ left) (h1 : left ≤ 1048576) (hl : l.length ≤ 9223372036854775807) : ∃ r, laws_szInstrS.f l left = some r ∧ (r < 0 ∨ (l.length : Int) ≤ left ∧ r = left - l.length) := by
  unfold laws_szInstrS.f
  rw [w64 (by omega) (by omega)]
  by_cases c : left - (l.length : Int) < 0
  · rw [if_pos c]; exact ⟨_, rfl, .inl (by decide)⟩
  · rw [if_neg c]; exact ⟨_, rfl, .inr ⟨by omega, rfl⟩⟩
theorem to_loop (m : Nat) : ∀ (k : Nat) (x : List S71) (y : List I) (i : Nat), i ≤ x.length → x.length - i = m → m < k → x.length ≤ 2000000 → y.length = x.length →
    (∀ j, j < i → y[j]? = (x.map cv)[j]?) → laws_toInstrS.l0 k x y (i : Int) = some (x.map cv) := by
  induction m with
  | zero =>
    intro k x y i h1 hd hk hn hy hat
    obtain ⟨k, rfl⟩ : ∃ m, k = m + 1 := ⟨k - 1, by omega⟩
    simp only [laws_toInstrS.l0]
    rw [if_neg (by omega)]
    congr 1
    apply List.ext_getElem?
    intro j
    by_cases c : j < i
    · exact hat j c
    · rw [List.getElem?_eq_none (by omega), List.getElem?_eq_none (by rw [List.length_map]; omega)]
  | succ m ih =>
    intro k x y i h1 hd hk hn hy hat
    obtain ⟨k, rfl⟩ : ∃ m, k = m + 1 := ⟨k - 1, by omega⟩
    simp only [laws_toInstrS.l0]
    have wi : wrap64 ((i : Int) + 1) = ((i + 1 : Nat) : Int) := by rw [w64 (by omega) (by omega)]; omega
    rw [if_pos (show (i : Int) < (x.length : Int) by omega), if_pos (show 0 ≤ (i : Int) by omega)]
    unfold laws_toInstr.f
    simp only [Option.bind_some]
    rw [if_pos (show (i : Int) < (y.length : Int) by omega), wi]
    apply ih k x _ (i + 1) (by omega) (by omega) (by omega) hn (by simp [hy])
    intro j hj
    rw [Int.toNat_natCast]
    by_cases c : j = i
    · subst c
      rw [List.getElem?_set_self (by omega), List.getElem?_map]
      unfold rd_T71
      rw [Int.toNat_natCast, List.getD_eq_getElem?_getD, List.getElem?_eq_getElem (show j < x.length by omega)]
      rfl
    · rw [List.getElem?_set_ne (by omega)]; exact hat j (by omega)
theorem to_code (k : Nat) (x : List S71) (hk : x.length < k) (hn : x.length ≤ 2000000) : laws_toInstrS.f k x = some (x.map cv) := by
  unfold laws_toInstrS.f
  rw [if_pos (by omega), if_pos (by omega)]
  exact to_loop x.length k x _ 0 (by omega) (by omega) hk hn (by simp) (fun j hj => by omega)
theorem eq_code_loop (m : Nat) : ∀ (k : Nat) (l : List I) (i : Nat), i ≤ l.length → l.length - i = m → m < k → l.length ≤ 2000000 → laws_eqInstrS.l0 k l l (i : Int) = some true := by
  induction m with
  | zero =>
    intro k l i h1 hd hk hn
    obtain ⟨k, rfl⟩ : ∃ m, k = m + 1 := ⟨k - 1, by omega⟩
    simp only [laws_eqInstrS.l0]
    rw [if_neg (by omega)]
  | succ m ih =>
    intro k l i h1 hd hk hn
    obtain ⟨k, rfl⟩ : ∃ m, k = m + 1 := ⟨k - 1, by omega⟩
    have wi : wrap64 ((i : Int) + 1) = ((i + 1 : Nat) : Int) := by rw [w64 (by omega) (by omega)]; omega
    simp only [laws_eqInstrS.l0, laws_eqInstr.f]
    rw [if_pos (show (i : Int) < (l.length : Int) by omega), if_pos (show 0 ≤ (i : Int) by omega), if_pos (show (i : Int) < (l.length : Int) by omega), wi]
    simp only [if_true, Option.bind_some]
    exact ih k l (i + 1) (by omega) (by omega) (by omega) hn
theorem eq_code (k : Nat) (l : List I) (hk : l.length < k) (hn : l.length ≤ 2000000) : laws_eqInstrS.f k l l = some true := by
  unfold laws_eqInstrS.f
  rw [if_pos rfl]; exact eq_code_loop l.length k l 0 (by omega) (by omega) hk hn
def dv (o a b : Int) : Int := if o = 3 then Go.bits .and .i64 (wrap64 (a + b)) 65535 else if o = 4 then Go.bits .and .i64 (wrap64 (a - b)) 65535 else if o = 5 then Go.bits .and .i64 (wrap64 (a * b)) 65535 else if o = 6 then (if a < b then 1 else 0) else (if a = b then 1 else 0)
theorem s_do (o a b : Int) : spec_l3Do.f o a b = some (dv o a b) := by
  unfold spec_l3Do.f spec_l3Bit.f dv
  by_cases c3 : o = 3
  · rw [if_pos c3, if_pos c3]
  · by_cases c4 : o = 4
    · rw [if_neg c3, if_pos c4, if_neg c3, if_pos c4]
    · by_cases c5 : o = 5
      · rw [if_neg c3, if_neg c4, if_pos c5, if_neg c3, if_neg c4, if_pos c5]
      · by_cases c6 : o = 6
        · rw [if_neg c3, if_neg c4, if_neg c5, if_pos c6, if_neg c3, if_neg c4, if_neg c5, if_pos c6]
          by_cases c : a < b <;> simp [c]
        · rw [if_neg c3, if_neg c4, if_neg c5, if_neg c6, if_neg c3, if_neg c4, if_neg c5, if_neg c6]
          by_cases c : a = b <;> simp [c]
theorem i_do (o a b : Int) (h : 3 ≤ o ∧ o ≤ 7) : impl_reckon.f o a b = some (dv o a b) := by
  unfold impl_reckon.f dv
  have ho : o = 3 ∨ o = 4 ∨ o = 5 ∨ o = 6 ∨ o = 7 := by omega
  rcases ho with rfl | rfl | rfl | rfl | rfl
  · rfl
  · rfl
  · rfl
  · by_cases c : a < b <;> simp [c]
  · by_cases c : a = b <;> simp [c]
/-! Facts of words, and what steps make of them. -/
abbrev Fa := S89
def cf (x : S91) : Fa := ⟨x.f0, x.f1, x.f2⟩
def gf (t k : Bool) (n : Int) : Bool := if t = true then (n == 0 && !k) else if k = true then wd n else (n == 0)
def gFa (x : Fa) : Bool := gf x.f0 x.f1 x.f2 && !x.f0
def gFs (l : List Fa) : Bool := l.all gFa && decide (l.length = 8)
def fT (o : Int) (a b : Fa) : Fa := if (a.f1 && b.f1) = true then ⟨false, true, dv o a.f2 b.f2⟩ else if o = 5 then (if (!a.f0 && (a.f1 && (a.f2 == 0))) = true then ⟨false, true, 0⟩ else if (!b.f0 && (b.f1 && (b.f2 == 0))) = true then ⟨false, true, 0⟩ else ⟨false, false, 0⟩) else ⟨false, false, 0⟩
def fV (x : I) (l : List Fa) : Fa := if x.f0 = 1 then ⟨false, true, x.f4⟩ else if x.f0 = 2 then rd_T89 l x.f2 else fT x.f0 (rd_T89 l x.f2) (rd_T89 l x.f3)
def stF (x : I) (l : List Fa) : List Fa := if x.f0 = 8 then l else l.set x.f1.toNat (fV x l)
def foldF : List I → List Fa → List Fa
  | [], v => v
  | x :: l, v => foldF l (stF x v)
theorem stF_len (x : I) (v : List Fa) : (stF x v).length = v.length := by
  unfold stF; split <;> simp
theorem foldF_len (l : List I) : ∀ v, (foldF l v).length = v.length := by
  induction l with
  | nil => intro v; rfl
  | cons x l ih => intro v; show (foldF l (stF x v)).length = _; rw [ih, stF_len]
theorem s_fact (t k : Bool) (n : Int) : spec_GoodFact.f t k n = some (gf t k n) := by
  unfold spec_GoodFact.f gf
  rw [s_word]; simp only [Option.bind_some]
  cases t <;> cases k <;> by_cases c : n = 0 <;> simp [c]
theorem i_fact (t k : Bool) (n : Int) : impl_isFact.f t k n = some (gf t k n) := by
  unfold impl_isFact.f gf wd
  rw [i_word]; unfold wd; simp only [Option.bind_some]
  cases t <;> cases k <;> by_cases c : n = 0 <;> by_cases d : 0 ≤ n ∧ n ≤ 65535 <;> simp [c, d] <;> (try omega)
theorem rdF_drop {l : List Fa} {i : Nat} (h : i < l.length) : l.drop i = rd_T89 l (i : Int) :: l.drop (i + 1) := by
  rw [List.drop_eq_getElem_cons h]
  unfold rd_T89
  rw [Int.toNat_natCast, List.getD_eq_getElem?_getD, List.getElem?_eq_getElem h]; rfl
theorem s_facts_loop (m : Nat) : ∀ (k : Nat) (x0 l : List Fa) (i : Nat), i ≤ l.length → l.length - i = m → m < k → l.length ≤ 2000000 →
    spec_l5Facts.l0 k x0 l (l.length : Int) (i : Int) = some ((l.drop i).all gFa && decide (x0.length = 8)) := by
  induction m with
  | zero =>
    intro k x0 l i h1 hd hk hn
    obtain ⟨k, rfl⟩ : ∃ m, k = m + 1 := ⟨k - 1, by omega⟩
    simp only [spec_l5Facts.l0]
    rw [if_neg (by omega), List.drop_of_length_le (by omega)]
    by_cases c : x0.length = 8
    · simp [c]
    · have c' : ¬ (x0.length : Int) = 8 := by omega
      simp [c, c']
  | succ m ih =>
    intro k x0 l i h1 hd hk hn
    obtain ⟨k, rfl⟩ : ∃ m, k = m + 1 := ⟨k - 1, by omega⟩
    simp only [spec_l5Facts.l0]
    have wi : wrap64 ((i : Int) + 1) = ((i + 1 : Nat) : Int) := by rw [w64 (by omega) (by omega)]; omega
    rw [if_pos (show (i : Int) < (l.length : Int) by omega), if_pos (show 0 ≤ (i : Int) by omega), if_pos (show (i : Int) < (l.length : Int) by omega), s_fact, wi, rdF_drop (l := l) (i := i) (by omega)]
    simp only [Option.bind_some, List.all_cons]
    rw [ih k x0 l (i + 1) (by omega) (by omega) (by omega) hn]
    generalize rd_T89 l (i : Int) = x
    unfold gFa
    cases gf x.f0 x.f1 x.f2 <;> cases x.f0 <;> simp
theorem s_facts (k : Nat) (l : List Fa) (hk : l.length < k) (hn : l.length ≤ 2000000) : spec_l5Facts.f k l = some (gFs l) := by
  unfold spec_l5Facts.f gFs
  have h := s_facts_loop l.length k l l 0 (by omega) (by omega) hk hn
  rw [List.drop_zero] at h
  exact h
theorem i_facts_loop (m : Nat) : ∀ (k : Nat) (l : List Fa) (i : Nat), i ≤ l.length → l.length - i = m → m < k → l.length ≤ 2000000 →
    ∃ r, slices_IndexFunc_v91.l0 k l (l.length : Int) (i : Int) = some r ∧ decide (r ≥ 0) = !(l.drop i).all gFa := by
  induction m with
  | zero =>
    intro k l i h1 hd hk hn
    obtain ⟨k, rfl⟩ : ∃ m, k = m + 1 := ⟨k - 1, by omega⟩
    simp only [slices_IndexFunc_v91.l0]
    rw [if_neg (by omega), List.drop_of_length_le (by omega)]
    exact ⟨_, rfl, by decide⟩
  | succ m ih =>
    intro k l i h1 hd hk hn
    obtain ⟨k, rfl⟩ : ∃ m, k = m + 1 := ⟨k - 1, by omega⟩
    simp only [slices_IndexFunc_v91.l0]
    have wi : wrap64 ((i : Int) + 1) = ((i + 1 : Nat) : Int) := by rw [w64 (by omega) (by omega)]; omega
    unfold impl_areFacts_1.f
    rw [if_pos (show (i : Int) < (l.length : Int) by omega), if_pos (show 0 ≤ (i : Int) by omega), if_pos (show (i : Int) < (l.length : Int) by omega), i_fact, wi, rdF_drop (l := l) (i := i) (by omega)]
    simp only [Option.bind_some, List.all_cons]
    obtain ⟨r, e1, e2⟩ := ih k l (i + 1) (by omega) (by omega) (by omega) hn
    generalize rd_T89 l (i : Int) = x
    rw [e1]
    unfold gFa
    cases gf x.f0 x.f1 x.f2 <;> cases x.f0 <;> simp <;> first | omega | (have := e2; simp at this; exact this)
theorem i_facts (k : Nat) (l : List Fa) (hk : l.length < k) (hn : l.length ≤ 2000000) : impl_areFacts.f k l = some (gFs l) := by
  unfold impl_areFacts.f gFs
  by_cases c : l.length = 8
  · rw [if_pos (by omega)]
    unfold slices_ContainsFunc_v91.f slices_IndexFunc_v91.f
    obtain ⟨r, e1, e2⟩ := i_facts_loop l.length k l 0 (by omega) (by omega) hk hn
    rw [show ((0 : Nat) : Int) = 0 from rfl] at e1
    rw [List.drop_zero] at e2
    rw [e1]; simp only [Option.bind_some]
    rw [e2]; simp [c]
  · rw [if_neg (by omega)]; simp [c]
/-- What a good step is, whole. -/
theorem good_all {x : I} (h : gI x = true) : (x.f0 = 1 ∧ 0 ≤ x.f1 ∧ x.f1 ≤ 7 ∧ x.f2 = 0 ∧ x.f3 = 0) ∨ (x.f0 = 2 ∧ 0 ≤ x.f1 ∧ x.f1 ≤ 7 ∧ 0 ≤ x.f2 ∧ x.f2 ≤ 7 ∧ x.f3 = 0) ∨ (x.f0 = 8 ∧ 0 ≤ x.f2 ∧ x.f2 ≤ 7) ∨ ((3 ≤ x.f0 ∧ x.f0 ≤ 7) ∧ 0 ≤ x.f1 ∧ x.f1 ≤ 7 ∧ 0 ≤ x.f2 ∧ x.f2 ≤ 7 ∧ 0 ≤ x.f3 ∧ x.f3 ≤ 7) := by
  unfold gI gi nm at h
  by_cases c1 : x.f0 = 1
  · rw [if_pos c1] at h; simp only [Bool.and_eq_true, decide_eq_true_eq, beq_iff_eq] at h; omega
  · by_cases c2 : x.f0 = 2
    · rw [if_neg c1, if_pos c2] at h; simp only [Bool.and_eq_true, decide_eq_true_eq, beq_iff_eq] at h; omega
    · by_cases c8 : x.f0 = 8
      · rw [if_neg c1, if_neg c2, if_pos c8] at h; simp only [Bool.and_eq_true, decide_eq_true_eq] at h; omega
      · rw [if_neg c1, if_neg c2, if_neg c8] at h; simp only [Bool.and_eq_true, decide_eq_true_eq] at h; omega
theorem s_two2 (k : Nat) (hk : 1 ≤ k) (o : Int) (a b : Fa) : spec_l5Two.f k o a.f0 a.f1 a.f2 b.f0 b.f1 b.f2 = some ((fT o a b).f0, (fT o a b).f1, (fT o a b).f2) := by
  obtain ⟨k, rfl⟩ : ∃ m, k = m + 1 := ⟨k - 1, by omega⟩
  unfold spec_l5Two.f fT
  simp only [spec_l5Two.j0, s_do, Option.bind_some]
  obtain ⟨a0, a1, a2⟩ := a
  obtain ⟨b0, b1, b2⟩ := b
  by_cases c5 : o = 5 <;> by_cases ca : a2 = 0 <;> by_cases cb : b2 = 0 <;> cases a0 <;> cases a1 <;> cases b0 <;> cases b1 <;> simp [c5, ca, cb]
theorem i_fact2 (k : Nat) (hk : 1 ≤ k) (x : I) (l : List Fa) (hl : l.length = 8) (hg : gI x = true) (h8 : ¬ x.f0 = 8) : impl_Instr_fact.f k x.f0 x.f1 x.f2 x.f3 x.f4 l = some ((fV x l).f0, (fV x l).f1, (fV x l).f2) := by
  obtain ⟨k, rfl⟩ : ∃ m, k = m + 1 := ⟨k - 1, by omega⟩
  have hg2 := good_all hg
  unfold impl_Instr_fact.f fV
  rw [if_pos (by omega), if_pos (by omega), if_pos (by omega), if_pos (by omega)]
  by_cases c1 : x.f0 = 1
  · rw [if_pos c1, if_pos c1]
  · rw [if_neg c1, if_neg c1]
    by_cases c2 : x.f0 = 2
    · rw [if_pos c2, if_pos c2]
    · rw [if_neg c2, if_neg c2]
      have ho : 3 ≤ x.f0 ∧ x.f0 ≤ 7 := by omega
      simp only [impl_Instr_fact.j0, i_do _ _ _ ho, Option.bind_some]
      generalize rd_T89 l x.f2 = a
      generalize rd_T89 l x.f3 = b
      obtain ⟨a0, a1, a2⟩ := a
      obtain ⟨b0, b1, b2⟩ := b
      unfold fT
      by_cases c5 : x.f0 = 5 <;> by_cases ca : a2 = 0 <;> by_cases cb : b2 = 0 <;> cases a0 <;> cases a1 <;> cases b0 <;> cases b1 <;> simp [c5, ca, cb]
theorem s_sf_loop (m : Nat) : ∀ (k : Nat) (l : List I) (i : Nat) (v : List Fa), i ≤ l.length → l.length - i = m → m + 1 < k → l.length ≤ 1000000 → v.length = 8 → (l.drop i).all gI = true →
    spec_l5Step.l0 k v l (l.length : Int) (i : Int) = some (foldF (l.drop i) v) := by
  induction m with
  | zero =>
    intro k l i v h1 hd hk hn hv hg
    obtain ⟨k, rfl⟩ : ∃ m, k = m + 1 := ⟨k - 1, by omega⟩
    simp only [spec_l5Step.l0]
    rw [if_neg (by omega), List.drop_of_length_le (by omega)]; rfl
  | succ m ih =>
    intro k l i v h1 hd hk hn hv hg
    obtain ⟨k, rfl⟩ : ∃ m, k = m + 1 := ⟨k - 1, by omega⟩
    rw [rdI_drop (l := l) (i := i) (by omega), List.all_cons, Bool.and_eq_true] at hg
    have wi : wrap64 ((i : Int) + 1) = ((i + 1 : Nat) : Int) := by rw [w64 (by omega) (by omega)]; omega
    have hI := ih k l (i + 1) (stF (rd_T68 l (i : Int)) v) (by omega) (by omega) (by omega) hn (by rw [stF_len]; exact hv) hg.2
    rw [rdI_drop (l := l) (i := i) (by omega)]
    show _ = some (foldF (l.drop (i + 1)) (stF (rd_T68 l (i : Int)) v))
    rw [← hI]
    simp only [spec_l5Step.l0]
    rw [if_pos (show (i : Int) < (l.length : Int) by omega), if_pos (show 0 ≤ (i : Int) by omega), if_pos (show (i : Int) < (l.length : Int) by omega), wi]
    have hgx := hg.1
    clear hI hg
    generalize rd_T68 l (i : Int) = x at *
    have h := good_all hgx
    unfold stF fV
    by_cases c1 : x.f0 = 1
    · rw [if_pos c1, if_pos (by omega), if_pos (by omega)]; simp [c1]
    · rw [if_neg c1]
      by_cases c2 : x.f0 = 2
      · rw [if_pos c2, if_pos (by omega), if_pos (by omega), if_pos (by omega), if_pos (by omega)]; simp [c2]
      · rw [if_neg c2, s_two]; simp only [Option.bind_some]
        by_cases c8 : x.f0 = 8
        · rw [if_neg (by simp; omega)]; simp [c8]
        · rw [if_pos (by simp; omega), if_pos (by omega), if_pos (by omega), if_pos (by omega), if_pos (by omega), s_two2 k (by omega)]; simp only [Option.bind_some]
          rw [if_pos (by omega), if_pos (by omega), if_neg c8, if_neg c1, if_neg c2]
theorem i_sf_loop (m : Nat) : ∀ (k : Nat) (l : List I) (i : Nat) (v : List Fa), i ≤ l.length → l.length - i = m → m + 1 < k → l.length ≤ 1000000 → v.length = 8 → (l.drop i).all gI = true →
    impl_stepFacts.l0 k v l (l.length : Int) (i : Int) = some (foldF (l.drop i) v) := by
  induction m with
  | zero =>
    intro k l i v h1 hd hk hn hv hg
    obtain ⟨k, rfl⟩ : ∃ m, k = m + 1 := ⟨k - 1, by omega⟩
    simp only [impl_stepFacts.l0]
    rw [if_neg (by omega), List.drop_of_length_le (by omega)]; rfl
  | succ m ih =>
    intro k l i v h1 hd hk hn hv hg
    obtain ⟨k, rfl⟩ : ∃ m, k = m + 1 := ⟨k - 1, by omega⟩
    rw [rdI_drop (l := l) (i := i) (by omega), List.all_cons, Bool.and_eq_true] at hg
    have wi : wrap64 ((i : Int) + 1) = ((i + 1 : Nat) : Int) := by rw [w64 (by omega) (by omega)]; omega
    have hI := ih k l (i + 1) (stF (rd_T68 l (i : Int)) v) (by omega) (by omega) (by omega) hn (by rw [stF_len]; exact hv) hg.2
    rw [rdI_drop (l := l) (i := i) (by omega)]
    show _ = some (foldF (l.drop (i + 1)) (stF (rd_T68 l (i : Int)) v))
    rw [← hI]
    simp only [impl_stepFacts.l0]
    rw [if_pos (show (i : Int) < (l.length : Int) by omega), if_pos (show 0 ≤ (i : Int) by omega), if_pos (show (i : Int) < (l.length : Int) by omega), wi]
    have hgx := hg.1
    clear hI hg
    generalize rd_T68 l (i : Int) = x at *
    have h := good_all hgx
    by_cases c8 : x.f0 = 8
    · rw [if_pos c8]; unfold stF; rw [if_pos c8]
    · rw [if_neg c8, i_fact2 k (by omega) x v hv hgx c8]; simp only [Option.bind_some]
      rw [if_pos (by omega), if_pos (by omega)]; unfold stF; rw [if_neg c8]
def resF (l : List I) (v : List Fa) : List Fa × Bool := if gC l = true then (if gFs v = true then (foldF l v, true) else ([], false)) else ([], false)
theorem gC_len' {l : List I} (h : gC l = true) : l.all gI = true ∧ l.length ≤ 30 := by
  unfold gC at h; rw [Bool.and_eq_true, decide_eq_true_eq] at h; exact h
theorem gFs_len {v : List Fa} (h : gFs v = true) : v.length = 8 := by
  unfold gFs at h; rw [Bool.and_eq_true, decide_eq_true_eq] at h; exact h.2
theorem resF_len (l : List I) (v : List Fa) : (resF l v).1.length ≤ 8 := by
  unfold resF
  by_cases c : gC l = true
  · rw [if_pos c]
    by_cases d : gFs v = true
    · rw [if_pos d]; show (foldF l v).length ≤ 8; rw [foldF_len, gFs_len d]; omega
    · rw [if_neg d]; simp
  · rw [if_neg c]; simp
theorem s_resF (k : Nat) (l : List I) (v : List Fa) (hk : 1500000 < k) (hl : l.length ≤ 1048576) (hv : v.length ≤ 1048576) : spec_StepFacts.f k l v = some (resF l v) := by
  unfold spec_StepFacts.f resF
  rw [s_code k l (by omega) (by omega), s_facts k v (by omega) (by omega)]
  simp only [Option.bind_some]
  by_cases c : gC l = true
  · rw [if_pos c, if_pos c]
    by_cases d : gFs v = true
    · rw [if_pos d, if_pos d]
      have h := s_sf_loop l.length k l 0 v (by omega) (by omega) (by omega) (by have := (gC_len' c).2; omega) (gFs_len d) (by rw [List.drop_zero]; exact (gC_len' c).1)
      rw [List.drop_zero] at h
      unfold spec_l5Step.f
      simp only [Option.bind_some, List.length_nil, List.nil_append]
      rw [show ((0 : Nat) : Int) = 0 from rfl] at h
      rw [if_pos (by omega), h]; rfl
    · rw [if_neg d, if_neg d]
  · rw [if_neg c, if_neg c]
theorem i_resF (k : Nat) (l : List I) (v : List Fa) (hk : 1500000 < k) (hl : l.length ≤ 1048576) (hv : v.length ≤ 1048576) : impl_StepFacts.f k l v = some (resF l v) := by
  unfold impl_StepFacts.f resF
  rw [i_code k l (by omega) (by omega), i_facts k v (by omega) (by omega)]
  simp only [Option.bind_some]
  by_cases c : gC l = true
  · rw [if_pos c, if_pos c]
    by_cases d : gFs v = true
    · rw [if_pos d, if_pos d]
      have h := i_sf_loop l.length k l 0 v (by omega) (by omega) (by omega) (by have := (gC_len' c).2; omega) (gFs_len d) (by rw [List.drop_zero]; exact (gC_len' c).1)
      rw [List.drop_zero] at h
      unfold impl_stepFacts.f
      simp only [Option.bind_some, List.length_nil, List.nil_append]
      rw [show ((0 : Nat) : Int) = 0 from rfl] at h
      rw [if_pos (by omega), h]; rfl
    · rw [if_neg d, if_neg d]
  · rw [if_neg c, if_neg c]
/-! The law's own words on facts. -/
theorem sz_facts (l : List S91) (left : Int) (h0 : 0 ≤ left) (h1 : left ≤ 1048576) (hl : l.length ≤ 9223372036854775807) : ∃ r, laws_szFactS.f l left = some r ∧ (r < 0 ∨ (l.length : Int) ≤ left ∧ r = left - l.length) := by
  unfold laws_szFactS.f
  rw [w64 (by omega) (by omega)]
  by_cases c : left - (l.length : Int) < 0
  · rw [if_pos c]; exact ⟨_, rfl, .inl (by decide)⟩
  · rw [if_neg c]; exact ⟨_, rfl, .inr ⟨by omega, rfl⟩⟩
theorem tof_loop (m : Nat) : ∀ (k : Nat) (x : List S91) (y : List Fa) (i : Nat), i ≤ x.length → x.length - i = m → m < k → x.length ≤ 2000000 → y.length = x.length →
    (∀ j, j < i → y[j]? = (x.map cf)[j]?) → laws_toFactS.l0 k x y (i : Int) = some (x.map cf) := by
  induction m with
  | zero =>
    intro k x y i h1 hd hk hn hy hat
    obtain ⟨k, rfl⟩ : ∃ m, k = m + 1 := ⟨k - 1, by omega⟩
    simp only [laws_toFactS.l0]
    rw [if_neg (by omega)]
    congr 1
    apply List.ext_getElem?
    intro j
    by_cases c : j < i
    · exact hat j c
    · rw [List.getElem?_eq_none (by omega), List.getElem?_eq_none (by rw [List.length_map]; omega)]
  | succ m ih =>
    intro k x y i h1 hd hk hn hy hat
    obtain ⟨k, rfl⟩ : ∃ m, k = m + 1 := ⟨k - 1, by omega⟩
    simp only [laws_toFactS.l0]
    have wi : wrap64 ((i : Int) + 1) = ((i + 1 : Nat) : Int) := by rw [w64 (by omega) (by omega)]; omega
    rw [if_pos (show (i : Int) < (x.length : Int) by omega), if_pos (show 0 ≤ (i : Int) by omega)]
    unfold laws_toFact.f
    simp only [Option.bind_some]
    rw [if_pos (show (i : Int) < (y.length : Int) by omega), wi]
    apply ih k x _ (i + 1) (by omega) (by omega) (by omega) hn (by simp [hy])
    intro j hj
    rw [Int.toNat_natCast]
    by_cases c : j = i
    · subst c
      rw [List.getElem?_set_self (by omega), List.getElem?_map]
      unfold rd_T91
      rw [Int.toNat_natCast, List.getD_eq_getElem?_getD, List.getElem?_eq_getElem (show j < x.length by omega)]
      rfl
    · rw [List.getElem?_set_ne (by omega)]; exact hat j (by omega)
theorem to_facts (k : Nat) (x : List S91) (hk : x.length < k) (hn : x.length ≤ 2000000) : laws_toFactS.f k x = some (x.map cf) := by
  unfold laws_toFactS.f
  rw [if_pos (by omega), if_pos (by omega)]
  exact tof_loop x.length k x _ 0 (by omega) (by omega) hk hn (by simp) (fun j hj => by omega)
theorem eqf_loop (m : Nat) : ∀ (k : Nat) (l : List Fa) (i : Nat), i ≤ l.length → l.length - i = m → m < k → l.length ≤ 2000000 → laws_eqFactS.l0 k l l (i : Int) = some true := by
  induction m with
  | zero =>
    intro k l i h1 hd hk hn
    obtain ⟨k, rfl⟩ : ∃ m, k = m + 1 := ⟨k - 1, by omega⟩
    simp only [laws_eqFactS.l0]
    rw [if_neg (by omega)]
  | succ m ih =>
    intro k l i h1 hd hk hn
    obtain ⟨k, rfl⟩ : ∃ m, k = m + 1 := ⟨k - 1, by omega⟩
    have wi : wrap64 ((i : Int) + 1) = ((i + 1 : Nat) : Int) := by rw [w64 (by omega) (by omega)]; omega
    simp only [laws_eqFactS.l0, laws_eqFact.f]
    rw [if_pos (show (i : Int) < (l.length : Int) by omega), if_pos (show 0 ≤ (i : Int) by omega), if_pos (show (i : Int) < (l.length : Int) by omega), wi]
    simp only [bne_self_eq_false, Bool.false_eq_true, if_false, if_true, Option.bind_some]
    exact ih k l (i + 1) (by omega) (by omega) (by omega) hn
theorem eq_facts (k : Nat) (l : List Fa) (hk : l.length < k) (hn : l.length ≤ 2000000) : laws_eqFactS.f k l l = some true := by
  unfold laws_eqFactS.f
  rw [if_pos rfl]; exact eqf_loop l.length k l 0 (by omega) (by omega) hk hn
def mkf (m : Int) : Fa := ⟨Int.tmod m 3 == 0, Int.tmod (m + 1) 3 == 0, m + 2⟩
theorem rdF_set {x : List Fa} {i : Nat} (h : i < x.length) (v : Fa) : rd_T89 (x.set i v) (i : Int) = v := by
  unfold rd_T89
  rw [Int.toNat_natCast, List.getD_eq_getElem?_getD, List.getElem?_set_self h]; rfl
theorem rdF_at {x : List Fa} {i : Nat} {v : Fa} (h : x[i]? = some v) : rd_T89 x (i : Int) = v := by
  unfold rd_T89
  rw [Int.toNat_natCast, List.getD_eq_getElem?_getD, h]; rfl
theorem markf_loop (m : Nat) : ∀ (k : Nat) (x : List Fa) (a : Int) (i : Nat), i ≤ x.length → x.length - i = m → m < k → x.length ≤ 2000000 → 0 ≤ a → a + 3 * m ≤ 1000000000000 →
    ∃ y, laws_markFactS.l0 k x a (i : Int) = some (a + 3 * m, y) ∧ y.length = x.length ∧ (∀ j, j < i → y[j]? = x[j]?) ∧ ∀ j, i ≤ j → j < x.length → y[j]? = some (mkf (a + 3 * ((j : Int) - i))) := by
  induction m with
  | zero =>
    intro k x a i h1 hd hk hn h0 h2
    obtain ⟨k, rfl⟩ : ∃ m, k = m + 1 := ⟨k - 1, by omega⟩
    simp only [laws_markFactS.l0]
    rw [if_neg (by omega)]
    exact ⟨x, by simp, rfl, fun _ _ => rfl, fun j h3 h4 => by omega⟩
  | succ m ih =>
    intro k x a i h1 hd hk hn h0 h2
    obtain ⟨k, rfl⟩ : ∃ m, k = m + 1 := ⟨k - 1, by omega⟩
    simp only [laws_markFactS.l0, Option.bind_some]
    have wi : wrap64 ((i : Int) + 1) = ((i + 1 : Nat) : Int) := by rw [w64 (by omega) (by omega)]; omega
    have e1 : wrap64 (a + 1) = a + 1 := w64 (by omega) (by omega)
    have e2 : wrap64 (a + 1 + 1) = a + 2 := by rw [w64 (by omega) (by omega)]; omega
    have e3 : wrap64 (a + 2 + 1) = a + 3 := by rw [w64 (by omega) (by omega)]; omega
    rw [if_pos (show (i : Int) < (x.length : Int) by omega), if_pos (show 0 ≤ (i : Int) by omega), wi, e1, e2, e3]
    have hi : i < x.length := by omega
    simp only [Int.toNat_natCast, rdF_set, List.set_set, hi]
    obtain ⟨y, e, hl, hlo, hhi⟩ := ih k (x.set i (mkf a)) (a + 3) (i + 1) (by simp; omega) (by simp; omega) (by omega) (by simp; omega) (by omega) (by omega)
    refine ⟨y, ?_, by rw [hl]; simp, ?_, ?_⟩
    · show laws_markFactS.l0 k (x.set i (mkf a)) (a + 3) ((i + 1 : Nat) : Int) = _
      rw [e]; congr 2; omega
    · intro j hj
      rw [hlo j (by omega), List.getElem?_set_ne (by omega)]
    · intro j h3 h4
      by_cases c : j = i
      · subst c
        rw [hlo j (by omega), List.getElem?_set_self (by omega)]
        congr 2; omega
      · rw [hhi j (by omega) (by simpa using h4)]
        congr 2; omega
theorem markf (k : Nat) (x : List Fa) (a : Int) (hk : x.length < k) (hn : x.length ≤ 2000000) (h0 : 0 ≤ a) (h1 : a ≤ 100000000000) : ∃ y, laws_markFactS.f k x a = some (a + 3 * x.length, y) ∧ y.length = x.length ∧ ∀ j, j < x.length → y[j]? = some (mkf (a + 3 * (j : Int))) := by
  obtain ⟨y, e, hl, _, h⟩ := markf_loop x.length k x a 0 (by omega) (by omega) hk hn h0 (by omega)
  exact ⟨y, e, hl, fun j hj => by rw [h j (by omega) hj]; congr 2; try omega⟩
theorem heldf_loop (m : Nat) : ∀ (k : Nat) (x : List Fa) (a : Int) (i : Nat), i ≤ x.length → x.length - i = m → m < k → x.length ≤ 2000000 → 0 ≤ a → a + 3 * m ≤ 1000000000000 →
    (∀ j, i ≤ j → j < x.length → x[j]? = some (mkf (a + 3 * ((j : Int) - i)))) → laws_heldFactS.l0 k x a (i : Int) = some (a + 3 * m) := by
  induction m with
  | zero =>
    intro k x a i h1 hd hk hn h0 h2 hat
    obtain ⟨k, rfl⟩ : ∃ m, k = m + 1 := ⟨k - 1, by omega⟩
    simp only [laws_heldFactS.l0]
    rw [if_neg (by omega)]; simp
  | succ m ih =>
    intro k x a i h1 hd hk hn h0 h2 hat
    obtain ⟨k, rfl⟩ : ∃ m, k = m + 1 := ⟨k - 1, by omega⟩
    simp only [laws_heldFactS.l0]
    have wi : wrap64 ((i : Int) + 1) = ((i + 1 : Nat) : Int) := by rw [w64 (by omega) (by omega)]; omega
    have e1 : wrap64 (a + 1) = a + 1 := w64 (by omega) (by omega)
    have e2 : wrap64 (a + 1 + 1) = a + 2 := by rw [w64 (by omega) (by omega)]; omega
    have e3 : wrap64 (a + 2 + 1) = a + 3 := by rw [w64 (by omega) (by omega)]; omega
    have hx := hat i (by omega) (by omega)
    rw [show a + 3 * ((i : Int) - i) = a by omega] at hx
    rw [if_pos (show (i : Int) < (x.length : Int) by omega), if_pos (show 0 ≤ (i : Int) by omega), wi, e1, e2, e3, rdF_at hx]
    unfold mkf
    simp only [bne_self_eq_false, Bool.false_eq_true, if_false, if_true]
    rw [ih k x (a + 3) (i + 1) (by omega) (by omega) (by omega) hn (by omega) (by omega) (fun j h3 h4 => by rw [hat j (by omega) h4]; congr 2; try omega)]
    congr 1; omega
theorem heldf (k : Nat) (x : List Fa) (a : Int) (hk : x.length < k) (hn : x.length ≤ 2000000) (h0 : 0 ≤ a) (h1 : a ≤ 100000000000) (h : ∀ j, j < x.length → x[j]? = some (mkf (a + 3 * (j : Int)))) : laws_heldFactS.f k x a = some (a + 3 * x.length) :=
  heldf_loop x.length k x a 0 (by omega) (by omega) hk hn h0 (by omega) (fun j _ h4 => by rw [h j h4]; congr 2; try omega)
theorem marki_loop (m : Nat) : ∀ (k : Nat) (x : List I) (a : Int) (i : Nat), i ≤ x.length → x.length - i = m → m < k → x.length ≤ 2000000 → 0 ≤ a → a ≤ 1000000000 + 5 * i →
    ∃ y, laws_markInstrS.l0 k x a (i : Int) = some (a + 5 * m, y) := by
  induction m with
  | zero =>
    intro k x a i h1 hd hk hn h0 h2
    obtain ⟨k, rfl⟩ : ∃ m, k = m + 1 := ⟨k - 1, by omega⟩
    simp only [laws_markInstrS.l0]
    rw [if_neg (by omega)]
    exact ⟨x, by simp⟩
  | succ m ih =>
    intro k x a i h1 hd hk hn h0 h2
    obtain ⟨k, rfl⟩ : ∃ m, k = m + 1 := ⟨k - 1, by omega⟩
    simp only [laws_markInstrS.l0, Option.bind_some]
    have wi : wrap64 ((i : Int) + 1) = ((i + 1 : Nat) : Int) := by rw [w64 (by omega) (by omega)]; omega
    have e1 : wrap64 (a + 1) = a + 1 := w64 (by omega) (by omega)
    have e2 : wrap64 (a + 1 + 1) = a + 2 := by rw [w64 (by omega) (by omega)]; omega
    have e3 : wrap64 (a + 2 + 1) = a + 3 := by rw [w64 (by omega) (by omega)]; omega
    have e4 : wrap64 (a + 3 + 1) = a + 4 := by rw [w64 (by omega) (by omega)]; omega
    have e5 : wrap64 (a + 4 + 1) = a + 5 := by rw [w64 (by omega) (by omega)]; omega
    rw [if_pos (show (i : Int) < (x.length : Int) by omega), if_pos (show 0 ≤ (i : Int) by omega), wi, e1, e2, e3, e4, e5]
    generalize hy : List.set _ _ _ = y
    have hl : y.length = x.length := by rw [← hy]; simp
    obtain ⟨z, e⟩ := ih k y (a + 5) (i + 1) (by omega) (by omega) (by omega) (by omega) (by omega) (by omega)
    exact ⟨z, by rw [e]; congr 2; omega⟩
theorem marki (k : Nat) (x : List I) (a : Int) (hk : x.length < k) (hn : x.length ≤ 2000000) (h0 : 0 ≤ a) (h1 : a ≤ 1000000000) : ∃ y, laws_markInstrS.f k x a = some (a + 5 * x.length, y) :=
  marki_loop x.length k x a 0 (by omega) (by omega) hk hn h0 (by omega)
end FnExactStepFacts
open FnExactStepFacts in
theorem FnExactStepFacts : laws_FnExactStepFacts.Pure := by
  intro l v hF hV
  obtain ⟨k, hk⟩ : ∃ k : Nat, k = 3000000 := ⟨_, rfl⟩
  refine ⟨k + 3, ?_⟩
  unfold laws_FnExactStepFacts.f
  obtain ⟨r, e, h⟩ := sz_code l 1048576 (by omega) (by omega) hF.1
  rw [e]; simp only [Option.bind_some]
  by_cases c : r < 0
  · rw [if_pos c]
  · rw [if_neg c]
    obtain ⟨r2, e2, h2⟩ := sz_facts v r (by omega) (by omega) hV.1
    rw [e2]; simp only [Option.bind_some]
    by_cases c2 : r2 < 0
    · rw [if_pos c2]
    · rw [if_neg c2]
      have hl : l.length ≤ 1048576 := by omega
      have hv : v.length ≤ 1048576 := by omega
      have hm : (l.map cv).length = l.length := List.length_map ..
      have hm2 : (v.map cf).length = v.length := List.length_map ..
      have hlen := resF_len (l.map cv) (v.map cf)
      rw [to_code (k + 3) l (by omega) (by omega), to_facts (k + 3) v (by omega) (by omega)]; simp only [Option.bind_some]
      rw [s_resF (k + 3) (l.map cv) (v.map cf) (by omega) (by omega) (by omega), i_resF (k + 3) (l.map cv) (v.map cf) (by omega) (by omega) (by omega)]; simp only [Option.bind_some]
      rw [eq_facts (k + 3) _ (by omega) (by omega)]
      simp only [Option.bind_some, if_true, bne_self_eq_false]
      simp only [laws_FnExactStepFacts.j0, Bool.false_eq_true, if_false]
      rw [to_code (k + 2) l (by omega) (by omega), to_facts (k + 2) v (by omega) (by omega)]; simp only [Option.bind_some]
      rw [eq_code (k + 2) (l.map cv) (by omega) (by omega)]; simp only [Option.bind_some, if_true]
      rw [eq_facts (k + 2) (v.map cf) (by omega) (by omega)]; simp only [Option.bind_some, if_true]
      obtain ⟨y1, m1⟩ := marki (k + 2) (l.map cv) 1 (by omega) (by omega) (by omega) (by omega)
      rw [m1]; simp only [Option.bind_some]
      obtain ⟨y2, m2, _⟩ := markf (k + 2) (v.map cf) (1 + 5 * ((l.map cv).length : Int)) (by omega) (by omega) (by omega) (by omega)
      rw [m2]; simp only [Option.bind_some]
      rw [if_neg (by omega), eq_facts (k + 2) _ (by omega) (by omega)]
      simp only [Option.bind_some, if_true, bne_self_eq_false]
      simp only [laws_FnExactStepFacts.j1, Bool.false_eq_true, if_false]
      obtain ⟨g1, ge1, gl1, gh1⟩ := markf (k + 1) (resF (l.map cv) (v.map cf)).1 1 (by omega) (by omega) (by omega) (by omega)
      rw [ge1]; simp only [Option.bind_some]
      rw [heldf (k + 1) g1 1 (by omega) (by omega) (by omega) (by omega) (fun j j1 => gh1 j (by omega))]; simp only [Option.bind_some]
      rw [if_neg (by omega), gl1, if_pos rfl, to_code (k + 1) l (by omega) (by omega), to_facts (k + 1) v (by omega) (by omega)]; simp only [Option.bind_some]
      rw [i_resF (k + 1) (l.map cv) (v.map cf) (by omega) (by omega) (by omega)]; simp only [Option.bind_some]
      rw [eq_facts (k + 1) _ (by omega) (by omega)]
      simp only [Option.bind_some, if_true, bne_self_eq_false]
      simp only [laws_FnExactStepFacts.j2, Bool.false_eq_true, if_false]
      rw [heldf k g1 1 (by omega) (by omega) (by omega) (by omega) (fun j j1 => gh1 j (by omega))]; simp only [Option.bind_some]
      rw [if_neg (by omega), gl1, if_pos rfl]

end Go.Proofs.Ytofkfpapnhaheaa.Pure
