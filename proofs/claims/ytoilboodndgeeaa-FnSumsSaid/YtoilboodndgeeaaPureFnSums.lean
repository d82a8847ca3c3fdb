/- FnSums: sums, differences and products on tagged words are those of their numbers, and the program's are the reference's: for all drawn bytes. No condition. -/
import Derived.Test.YtoilboodndgeeaaPFnSumsx3
import Derived.Test.YtoilboodndgeeaaPlain
namespace Go.Proofs.Ytoilboodndgeeaa.Pure
open Go.RowKit Go.Proofs.Ytoilboodndgeeaa.PFnSums Go.Proofs.YtoilboodndgeeaaW.PrintWords Go.Proofs.YtoilboodndgeeaaW.PrintLast Go.Proofs.Ytoilboodndgeeaa.Plain

namespace FnSums
/-- What is known of drawn bytes. -/
def Bytes (l : List Int) : Prop := l.length ≤ 1048576 ∧ ∀ x ∈ l, 0 ≤ x ∧ x ≤ 255
theorem bytes_rd {l : List Int} (h : Bytes l) (i : Int) : 0 ≤ rd l i ∧ rd l i ≤ 255 := by
  unfold rd
  rw [List.getD_eq_getElem?_getD]
  by_cases c : i.toNat < l.length
  · rw [List.getElem?_eq_getElem c]; exact h.2 _ (List.getElem_mem c)
  · rw [List.getElem?_eq_none (by omega)]; simp
theorem next_ok {l : List Int} (h : Bytes l) (s1 s2 : Int) (h0 : 0 ≤ s1) (h1 : s1 ≤ 1000000000) :
    ∃ b s2', spec_l1Cur_next.f l s1 s2 = some (b, s1 + 1, s2') ∧ 0 ≤ b ∧ b ≤ 255 := by
  have hr := bytes_rd h s1
  have hl := h.1
  unfold spec_l1Cur_next.f
  rw [w64 (n := s1 + 1) (by omega) (by omega)]
  by_cases c : s1 < (l.length : Int)
  · rw [if_pos c, if_pos h0, if_pos (by omega), w64 (n := rd l s1) (by omega) (by omega)]
    exact ⟨_, _, rfl, hr.1, hr.2⟩
  · rw [if_neg c, if_neg (by omega)]
    refine ⟨_, _, rfl, ?_⟩
    have := and_u64_255 ((IntKind.u64.wrap ((IntKind.u64.wrap ((IntKind.u64.wrap (s2 * 6364136223846793005)))) + 1442695040888963407)) / 1099511627776)
    rw [w64 (by omega) (by omega)]
    exact this
theorem pick_ok {l : List Int} (h : Bytes l) (s1 s2 n : Int) (h0 : 0 ≤ s1) (h1 : s1 ≤ 900000000) :
    ∃ x s1' s2', spec_l1Cur_pick.f l s1 s2 n = some (x, s1', s2') ∧ s1 ≤ s1' ∧ s1' ≤ s1 + 2 ∧ 0 ≤ x ∧ (1 ≤ n → x < n) ∧ x ≤ 65535 := by
  unfold spec_l1Cur_pick.f
  by_cases c : n ≤ 1
  · rw [if_pos c]; exact ⟨_, _, _, rfl, by omega, by omega, by omega, fun _ => by omega, by omega⟩
  · rw [if_neg c]
    obtain ⟨b, t, hb, b0, b1⟩ := next_ok h s1 s2 h0 (by omega)
    rw [hb]; simp only [Option.bind_some]
    by_cases d : n > 200
    · rw [if_pos d]
      obtain ⟨b', t', hb', b0', b1'⟩ := next_ok h (s1 + 1) t (by omega) (by omega)
      rw [hb']; simp only [Option.bind_some]
      rw [if_neg (by omega), w64 (n := b * 256) (by omega) (by omega), w64 (n := b * 256 + b') (by omega) (by omega), Int.tmod_eq_emod_of_nonneg (by omega)]
      have m := emod_in (b * 256 + b') n (by omega)
      have m2 : (b * 256 + b') % n ≤ b * 256 + b' := by
        have e1 := Int.mul_ediv_add_emod (b * 256 + b') n
        have e2 : 0 ≤ n * ((b * 256 + b') / n) := Int.mul_nonneg (by omega) (Int.ediv_nonneg (by omega) (by omega))
        omega
      exact ⟨_, _, _, rfl, by omega, by omega, by omega, fun _ => by omega, by omega⟩
    · rw [if_neg d, if_neg (by omega), Int.tmod_eq_emod_of_nonneg (by omega)]
      have m := emod_in b n (by omega)
      exact ⟨_, _, _, rfl, by omega, by omega, by omega, fun _ => by omega, by omega⟩
theorem one_ok {l : List Int} (h : Bytes l) (s1 s2 n : Int) (h0 : 0 ≤ s1) (h1 : s1 ≤ 900000000) :
    ∃ b s1' s2', spec_l1Cur_one.f l s1 s2 n = some (b, s1', s2') ∧ s1 ≤ s1' ∧ s1' ≤ s1 + 2 := by
  unfold spec_l1Cur_one.f
  obtain ⟨x, s1', s2', e, a, b, _⟩ := pick_ok h s1 s2 n h0 h1
  rw [e]; exact ⟨_, _, _, rfl, a, b⟩
theorem among_ok {l : List Int} (h : Bytes l) (s1 s2 : Int) (q : List Int) (hq : 1 ≤ q.length) (h0 : 0 ≤ s1) (h1 : s1 ≤ 900000000) :
    ∃ x s1' s2', spec_l1Cur_among.f l s1 s2 q = some (x, s1', s2') ∧ s1 ≤ s1' ∧ s1' ≤ s1 + 2 ∧ x ∈ q := by
  unfold spec_l1Cur_among.f
  obtain ⟨x, s1', s2', e, a, b, x0, x1, _⟩ := pick_ok h s1 s2 (q.length : Int) h0 h1
  have x1 := x1 (by omega)
  rw [e]; simp only [Option.bind_some]
  rw [if_pos x0, if_pos x1]
  refine ⟨_, _, _, rfl, a, b, ?_⟩
  have hl : x.toNat < q.length := by omega
  unfold rd
  rw [List.getD_eq_getElem?_getD, List.getElem?_eq_getElem hl]
  exact List.getElem_mem hl
theorem word_ok {l : List Int} (h : Bytes l) (s1 s2 : Int) (h0 : 0 ≤ s1) (h1 : s1 ≤ 800000000) :
    ∃ x s1' s2', spec_l1Cur_word.f l s1 s2 = some (x, s1', s2') ∧ s1 ≤ s1' ∧ s1' ≤ s1 + 6 ∧ -1 ≤ x ∧ x ≤ 65536 := by
  unfold spec_l1Cur_word.f
  obtain ⟨b, t1, t2, e, a1, a2⟩ := one_ok h s1 s2 3 h0 (by omega)
  rw [e]; simp only [Option.bind_some]
  by_cases c : b = true
  · rw [if_pos c]
    obtain ⟨x, u1, u2, e', b1, b2, hx⟩ := among_ok h t1 t2 [(-1), 0, 1, 2, 3, 32767, 32768, 32769, 65534, 65535, 65536] (by decide) (by omega) (by omega)
    rw [e']; refine ⟨_, _, _, rfl, by show s1 ≤ u1; omega, by show u1 ≤ s1 + 6; omega, ?_⟩
    show -1 ≤ x ∧ x ≤ 65536
    simp at hx; omega
  · rw [if_neg c]
    obtain ⟨x, u1, u2, e', b1, b2, x0, x1, _⟩ := pick_ok h t1 t2 256 (by omega) (by omega)
    rw [e']; simp only [Option.bind_some]
    obtain ⟨y, v1, v2, e2, c1, c2, y0, y1, _⟩ := pick_ok h u1 u2 256 (by omega) (by omega)
    rw [e2]
    have x1 := x1 (by omega)
    have y1 := y1 (by omega)
    refine ⟨_, _, _, rfl, by show s1 ≤ v1; omega, by show v1 ≤ s1 + 6; omega, ?_⟩
    show -1 ≤ wrap64 (wrap64 (x * 256) + y) ∧ wrap64 (wrap64 (x * 256) + y) ≤ 65536
    rw [w64 (n := x * 256) (by omega) (by omega), w64 (by omega) (by omega)]; omega
def tg (a : Int) : Bool := decide (0 ≤ a ∧ a ≤ 65535 ∧ a % 2 = 1)
def num (a : Int) : Int := (if a > 32767 then a - 65536 else a) / 2
def tw (n : Int) : Int × Bool := if -16384 ≤ n ∧ n ≤ 16383 then ((2 * n + 1) % 65536, true) else (0, false)

theorem tg_iff {a : Int} : tg a = true ↔ 0 ≤ a ∧ a ≤ 65535 ∧ a % 2 = 1 := by simp [tg]
theorem tg_not {a : Int} : tg a = false ↔ ¬ (0 ≤ a ∧ a ≤ 65535 ∧ a % 2 = 1) := by simp [tg]

theorem s_in (a l h : Int) : spec_l1In.f a l h = some (decide (l ≤ a ∧ a ≤ h)) := by
  unfold spec_l1In.f
  by_cases c : a ≥ l
  · rw [if_pos c]; simp [show l ≤ a from c]
  · rw [if_neg c]; simp; omega
theorem i_in (a l h : Int) : impl_in.f a l h = some (decide (l ≤ a ∧ a ≤ h)) := by
  unfold impl_in.f
  by_cases c : a ≥ l
  · rw [if_pos c]; simp [show l ≤ a from c]
  · rw [if_neg c]; simp; omega

theorem s_small (a : Int) : spec_IsSmall.f a = some (tg a) := by
  unfold spec_IsSmall.f spec_l1Word.f
  rw [s_in]; simp only [Option.bind_some]
  by_cases c : 0 ≤ a ∧ a ≤ 65535
  · rw [if_pos (by simpa using c), and1]
    congr 1
    rw [Bool.eq_iff_iff, tg_iff]; simp; omega
  · rw [if_neg (by simpa using c), (tg_not (a := a)).2 (by omega)]

theorem num_lo {a : Int} (h : tg a = true) : -16384 ≤ num a := by
  have := tg_iff.1 h; unfold num; split <;> omega
theorem num_hi {a : Int} (h : tg a = true) : num a ≤ 16383 := by
  have := tg_iff.1 h; unfold num; split <;> omega

theorem s_untag (a : Int) : spec_UntagSmall.f a = some (if tg a = true then (num a, true) else (0, false)) := by
  unfold spec_UntagSmall.f
  rw [s_small]; simp only [Option.bind_some]
  by_cases c : tg a = true
  · have b := tg_iff.1 c
    rw [if_pos c, if_pos c]
    unfold spec_l1Signed.f num
    by_cases d : a ≥ 32768
    · rw [if_pos d, if_pos (by omega), w64 (by omega) (by omega)]; rfl
    · rw [if_neg d, if_neg (by omega)]; rfl
  · rw [if_neg c, if_neg c]

theorem i_tagged (a : Int) : impl_isTagged.f a = some (tg a) := by
  unfold impl_isTagged.f impl_isWord.f
  rw [i_in]; simp only [Option.bind_some]
  by_cases c : 0 ≤ a ∧ a ≤ 65535
  · rw [if_pos (by simpa using c), Int.tmod_eq_emod_of_nonneg c.1]
    congr 1
    rw [Bool.eq_iff_iff, tg_iff]; simp; omega
  · rw [if_neg (by simpa using c), (tg_not (a := a)).2 (by omega)]

theorem tdiv2 (x : Int) (h : x % 2 = 0) : Int.tdiv x 2 = x / 2 := by
  rw [Int.tdiv_eq_ediv]
  have : (2 : Int) ∣ x := Int.dvd_of_emod_eq_zero h
  simp [this]

theorem i_untag {a : Int} (h : tg a = true) : impl_untag.f a = some (num a) := by
  have b := tg_iff.1 h
  unfold impl_untag.f num
  by_cases d : a > 32767
  · rw [if_pos d, if_pos d, w64 (n := a - 65536) (by omega) (by omega), w64 (n := a - 65536 - 1) (by omega) (by omega), tdiv2 _ (by omega), w64 (by omega) (by omega)]
    congr 1; omega
  · rw [if_neg d, if_neg d, w64 (n := a - 1) (by omega) (by omega), tdiv2 _ (by omega), w64 (by omega) (by omega)]
    congr 1; omega

theorem s_tag (n : Int) (h0 : -1000000000 ≤ n) (h1 : n ≤ 1000000000) : spec_TagSmall.f n = some (tw n) := by
  unfold spec_TagSmall.f spec_l1Small.f tw
  rw [s_in]; simp only [Option.bind_some]
  by_cases c : -16384 ≤ n ∧ n ≤ 16383
  · rw [if_pos (by simpa using c), if_pos c, and65535, w64 (n := 2 * n) (by omega) (by omega), w64 (by omega) (by omega)]
  · rw [if_neg (by simpa using c), if_neg c]

theorem i_told (n : Int) (h0 : -1000000000 ≤ n) (h1 : n ≤ 1000000000) : impl_told.f n = some ((tw n).1, (tw n).2, true) := by
  unfold impl_told.f impl_isSmall.f impl_tag.f tw
  rw [i_in]; simp only [Option.bind_some]
  by_cases c : -16384 ≤ n ∧ n ≤ 16383
  · rw [if_pos (by simpa using c), if_pos c, and65535, w64 (n := 2 * n) (by omega) (by omega), w64 (by omega) (by omega)]
  · rw [if_neg (by simpa using c), if_neg c]

theorem tw_num {a : Int} (h : tg a = true) : (2 * num a + 1) % 65536 = a := by
  have := tg_iff.1 h; unfold num; split <;> omega
theorem num_tw {n : Int} (h0 : -16384 ≤ n) (h1 : n ≤ 16383) : tg ((2 * n + 1) % 65536) = true ∧ num ((2 * n + 1) % 65536) = n := by
  refine ⟨tg_iff.2 (by omega), ?_⟩
  unfold num; split <;> omega

theorem i_UntagSmall (a : Int) : impl_UntagSmall.f a = some (if tg a = true then (num a, true) else (0, false)) := by
  unfold impl_UntagSmall.f
  rw [i_tagged]; simp only [Option.bind_some]
  by_cases c : tg a = true
  · rw [if_pos c, if_pos c, i_untag c]; rfl
  · rw [if_neg c, if_neg c]

theorem small_ok {l : List Int} (h : Bytes l) (s1 s2 : Int) (h0 : 0 ≤ s1) (h1 : s1 ≤ 700000000) :
    ∃ x s1' s2', spec_l1Cur_smallWord.f l s1 s2 = some (x, s1', s2') ∧ s1 ≤ s1' ∧ s1' ≤ s1 + 20 := by
  unfold spec_l1Cur_smallWord.f
  obtain ⟨b, t1, t2, e, a1, a2⟩ := one_ok h s1 s2 8 h0 (by omega)
  rw [e]; simp only [Option.bind_some]
  by_cases c : b = true
  · rw [if_pos c]
    obtain ⟨x, u1, u2, e', b1, b2, _⟩ := word_ok h t1 t2 (by omega) (by omega)
    rw [e']; exact ⟨_, _, _, rfl, by show s1 ≤ u1; omega, by show u1 ≤ s1 + 20; omega⟩
  · rw [if_neg c]
    obtain ⟨b', u1, u2, e', b1, b2⟩ := one_ok h t1 t2 2 (by omega) (by omega)
    rw [e']; simp only [Option.bind_some]
    by_cases c' : b' = true
    · rw [if_pos c']
      obtain ⟨x, v1, v2, e2, c1, c2, x0, x1, _⟩ := pick_ok h u1 u2 40 (by omega) (by omega)
      have x1 := x1 (by omega)
      rw [e2]; simp only [Option.bind_some]
      rw [w64 (n := x - 20) (by omega) (by omega), s_tag _ (by omega) (by omega)]
      exact ⟨_, _, _, rfl, by show s1 ≤ v1; omega, by show v1 ≤ s1 + 20; omega⟩
    · rw [if_neg c']
      obtain ⟨x, v1, v2, e2, c1, c2, _⟩ := word_ok h u1 u2 (by omega) (by omega)
      rw [e2]; exact ⟨_, _, _, rfl, by show s1 ≤ v1; omega, by show v1 ≤ s1 + 20; omega⟩
theorem draw_ok {l : List Int} (h : Bytes l) : ∃ a b, spec_DrawAddTagged.f l = some (a, b) := by
  unfold spec_DrawAddTagged.f
  obtain ⟨x, u1, u2, e, b1, b2⟩ := small_ok h 0 0 (by omega) (by omega)
  rw [e]; simp only [Option.bind_some]
  obtain ⟨y, v1, v2, e', c1, c2⟩ := small_ok h u1 u2 (by omega) (by omega)
  rw [e']; exact ⟨_, _, rfl⟩

theorem mul_bound {a b : Int} (ha : tg a = true) (hb : tg b = true) : -1000000000 ≤ num a * num b ∧ num a * num b ≤ 1000000000 := by
  have a0 := num_lo ha; have a1 := num_hi ha; have b0 := num_lo hb; have b1 := num_hi hb
  generalize num a = x at *
  generalize num b = y at *
  have h1 : (x + 16384) * (y + 16384) ≥ 0 := Int.mul_nonneg (by omega) (by omega)
  have h2 : (16384 - x) * (16384 - y) ≥ 0 := Int.mul_nonneg (by omega) (by omega)
  have h3 : (x + 16384) * (16384 - y) ≥ 0 := Int.mul_nonneg (by omega) (by omega)
  have h4 : (16384 - x) * (y + 16384) ≥ 0 := Int.mul_nonneg (by omega) (by omega)
  simp only [Int.add_mul, Int.mul_add, Int.sub_mul, Int.mul_sub] at h1 h2 h3 h4
  generalize x * y = z at *
  omega

section
variable (k : Nat) {a b : Int}
theorem s_add (ha : tg a = true) (hb : tg b = true) : spec_AddTagged.f a b = some ((tw (num a + num b)).1, (tw (num a + num b)).2, true) := by
  have a0 := num_lo ha; have a1 := num_hi ha; have b0 := num_lo hb; have b1 := num_hi hb
  unfold spec_AddTagged.f spec_l1Two.f spec_l1Tagged.f
  rw [s_untag, s_untag]; simp only [Option.bind_some]
  rw [if_pos ha, if_pos hb]; simp only [Option.bind_some, if_true]
  rw [w64 (by omega) (by omega), s_tag _ (by omega) (by omega)]; rfl
theorem s_sub (ha : tg a = true) (hb : tg b = true) : spec_SubTagged.f a b = some ((tw (num a - num b)).1, (tw (num a - num b)).2, true) := by
  have a0 := num_lo ha; have a1 := num_hi ha; have b0 := num_lo hb; have b1 := num_hi hb
  unfold spec_SubTagged.f spec_l1Two.f spec_l1Tagged.f
  rw [s_untag, s_untag]; simp only [Option.bind_some]
  rw [if_pos ha, if_pos hb]; simp only [Option.bind_some, if_true]
  rw [w64 (by omega) (by omega), s_tag _ (by omega) (by omega)]; rfl
theorem s_mul (ha : tg a = true) (hb : tg b = true) : spec_MulTagged.f a b = some ((tw (num a * num b)).1, (tw (num a * num b)).2, true) := by
  have g := mul_bound ha hb
  unfold spec_MulTagged.f spec_l1Two.f spec_l1Tagged.f
  rw [s_untag, s_untag]; simp only [Option.bind_some]
  rw [if_pos ha, if_pos hb]; simp only [Option.bind_some, if_true]
  rw [w64 (by omega) (by omega), s_tag _ (by omega) (by omega)]; rfl
theorem s_less (ha : tg a = true) (hb : tg b = true) : spec_LessTagged.f a b = some (decide (num a < num b), true) := by
  unfold spec_LessTagged.f spec_l1Two.f
  rw [s_untag, s_untag]; simp only [Option.bind_some]
  rw [if_pos ha, if_pos hb]; simp only [Option.bind_some, if_true]
theorem i_add (ha : tg a = true) (hb : tg b = true) : impl_AddTagged.f (k + 1) a b = some ((tw (num a + num b)).1, (tw (num a + num b)).2, true) := by
  have a0 := num_lo ha; have a1 := num_hi ha; have b0 := num_lo hb; have b1 := num_hi hb
  unfold impl_AddTagged.f
  rw [i_tagged, i_tagged]; simp only [Option.bind_some]
  rw [if_pos ha]; simp only [impl_AddTagged.j0]
  rw [if_neg (by simp [hb]), i_untag ha, i_untag hb]; simp only [Option.bind_some]
  rw [w64 (by omega) (by omega), i_told _ (by omega) (by omega)]; rfl
theorem i_sub (ha : tg a = true) (hb : tg b = true) : impl_SubTagged.f (k + 1) a b = some ((tw (num a - num b)).1, (tw (num a - num b)).2, true) := by
  have a0 := num_lo ha; have a1 := num_hi ha; have b0 := num_lo hb; have b1 := num_hi hb
  unfold impl_SubTagged.f
  rw [i_tagged, i_tagged]; simp only [Option.bind_some]
  rw [if_pos ha]; simp only [impl_SubTagged.j0]
  rw [if_neg (by simp [hb]), i_untag ha, i_untag hb]; simp only [Option.bind_some]
  rw [w64 (by omega) (by omega), i_told _ (by omega) (by omega)]; rfl
theorem i_mul (ha : tg a = true) (hb : tg b = true) : impl_MulTagged.f (k + 1) a b = some ((tw (num a * num b)).1, (tw (num a * num b)).2, true) := by
  have g := mul_bound ha hb
  unfold impl_MulTagged.f
  rw [i_tagged, i_tagged]; simp only [Option.bind_some]
  rw [if_pos ha]; simp only [impl_MulTagged.j0]
  rw [if_neg (by simp [hb]), i_untag ha, i_untag hb]; simp only [Option.bind_some]
  rw [w64 (by omega) (by omega), i_told _ (by omega) (by omega)]; rfl
theorem i_less (ha : tg a = true) (hb : tg b = true) : impl_LessTagged.f (k + 1) a b = some (decide (num a < num b), true) := by
  unfold impl_LessTagged.f
  rw [i_tagged, i_tagged]; simp only [Option.bind_some]
  rw [if_pos ha]; simp only [impl_LessTagged.j0]
  rw [if_neg (by simp [hb]), i_untag ha, i_untag hb]; rfl
theorem two_no (h : ¬ (tg a = true ∧ tg b = true)) : spec_AddTagged.f a b = some (0, false, false) ∧ spec_SubTagged.f a b = some (0, false, false) ∧ spec_MulTagged.f a b = some (0, false, false) ∧ spec_LessTagged.f a b = some (false, false) := by
  unfold spec_AddTagged.f spec_SubTagged.f spec_MulTagged.f spec_LessTagged.f spec_l1Two.f
  rw [s_untag, s_untag]; simp only [Option.bind_some]
  by_cases ha : tg a = true <;> by_cases hb : tg b = true
  · exact absurd ⟨ha, hb⟩ h
  · simp [ha, hb]
  · simp [ha, hb]
  · simp [ha, hb]
theorem one_no (h : ¬ (tg a = true ∧ tg b = true)) : impl_AddTagged.f (k + 1) a b = some (0, false, false) ∧ impl_SubTagged.f (k + 1) a b = some (0, false, false) ∧ impl_MulTagged.f (k + 1) a b = some (0, false, false) ∧ impl_LessTagged.f (k + 1) a b = some (false, false) := by
  unfold impl_AddTagged.f impl_SubTagged.f impl_MulTagged.f impl_LessTagged.f
  rw [i_tagged, i_tagged]; simp only [Option.bind_some]
  by_cases ha : tg a = true <;> by_cases hb : tg b = true
  · exact absurd ⟨ha, hb⟩ h
  · simp [ha, hb, impl_AddTagged.j0, impl_SubTagged.j0, impl_MulTagged.j0, impl_LessTagged.j0]
  · simp [ha, impl_AddTagged.j0, impl_SubTagged.j0, impl_MulTagged.j0, impl_LessTagged.j0]
  · simp [ha, impl_AddTagged.j0, impl_SubTagged.j0, impl_MulTagged.j0, impl_LessTagged.j0]
end
theorem tw_in {n : Int} (h : -16384 ≤ n ∧ n ≤ 16383) : tw n = ((2 * n + 1) % 65536, true) := by unfold tw; rw [if_pos h]
theorem tw_out {n : Int} (h : ¬ (-16384 ≤ n ∧ n ≤ 16383)) : tw n = (0, false) := by unfold tw; rw [if_neg h]
theorem last (k : Nat) (x y : Int) (hm : -1000000000 ≤ x * y ∧ x * y ≤ 1000000000) : laws_FnSums.j2 (k + 1) (tw (x * y)).1 (tw (x * y)).2 x y false = some true := by
  simp only [laws_FnSums.j2]
  rw [if_neg (by decide)]
  by_cases c : -16384 ≤ x * y ∧ x * y ≤ 16383
  · have t := num_tw c.1 c.2
    rw [tw_in c]; simp only [if_true]
    rw [i_UntagSmall, if_pos t.1]; simp only [Option.bind_some, if_true]
    rw [t.2, w64 (by omega) (by omega)]; simp
  · rw [tw_out c]; simp
theorem mid (k : Nat) {a b : Int} (ha : tg a = true) (hb : tg b = true) :
    laws_FnSums.j1 (k + 2) a b (tw (num a + num b)).1 (tw (num a + num b)).2 (tw (num a - num b)).1 (tw (num a - num b)).2 (tw (num a * num b)).1 (tw (num a * num b)).2 (num a) (num b) false = some true := by
  have a0 := num_lo ha; have a1 := num_hi ha; have b0 := num_lo hb; have b1 := num_hi hb
  have wa := tw_num ha
  have wb := tw_num hb
  have ta := tg_iff.1 ha
  have tb := tg_iff.1 hb
  have hl := last k (num a) (num b) (mul_bound ha hb)
  have hd : (if (tw (num a - num b)).2 = true then laws_FnSums.j2 (k + 1) (tw (num a * num b)).1 (tw (num a * num b)).2 (num a) (num b) ((tw (num a - num b)).1 != (Go.bits .and .i64 (wrap64 ((wrap64 (a - b)) + 1)) 65535)) else laws_FnSums.j2 (k + 1) (tw (num a * num b)).1 (tw (num a * num b)).2 (num a) (num b) false) = some true := by
    by_cases c : -16384 ≤ num a - num b ∧ num a - num b ≤ 16383
    · have e : ((tw (num a - num b)).1 != (Go.bits .and .i64 (wrap64 ((wrap64 (a - b)) + 1)) 65535)) = false := by
        rw [tw_in c, w64 (n := a - b) (by omega) (by omega), w64 (by omega) (by omega), and65535]
        simp; omega
      rw [e, tw_in c, if_pos rfl]; exact hl
    · rw [tw_out c, if_neg (by decide)]; exact hl
  simp only [laws_FnSums.j1]
  rw [if_neg (by decide)]
  by_cases c : -16384 ≤ num a + num b ∧ num a + num b ≤ 16383
  · rw [tw_in c, if_pos rfl]
    rw [if_pos (by rw [w64 (n := a + b) (by omega) (by omega), w64 (by omega) (by omega), and65535]; show (2 * (num a + num b) + 1) % 65536 = _; omega)]
    exact hd
  · rw [tw_out c, if_neg (by decide)]
    exact hd
end FnSums
open FnSums in
theorem FnSums : laws_FnSums.Pure := by
  intro l _ _ hw
  refine ⟨4, ?_⟩
  unfold laws_FnSums.f
  by_cases hl : (l.length : Int) > 1048576
  · rw [if_pos hl]
  rw [if_neg hl]
  have hB : Bytes l := ⟨by omega, fun x hx => ⟨wf_u8_lo (hw x hx), wf_u8_hi (hw x hx)⟩⟩
  obtain ⟨a, b, hd⟩ := draw_ok hB
  rw [hd]; simp only [Option.bind_some]
  by_cases h : tg a = true ∧ tg b = true
  · obtain ⟨ha, hb⟩ := h
    have a0 := num_lo ha; have a1 := num_hi ha; have b0 := num_lo hb; have b1 := num_hi hb
    rw [s_add ha hb, s_sub ha hb, s_mul ha hb, s_less ha hb, i_add 3 ha hb, i_sub 3 ha hb, i_mul 3 ha hb, i_less 3 ha hb]
    simp only [Option.bind_some, bne_self_eq_false, if_true, Bool.false_eq_true, if_false]
    simp only [laws_FnSums.j0]
    rw [if_neg (by decide), if_pos trivial, i_UntagSmall, i_UntagSmall, if_pos ha, if_pos hb]
    simp only [Option.bind_some, bne_self_eq_false, Bool.false_eq_true, if_false]
    rw [w64 (n := num a + num b) (by omega) (by omega)]
    have hm := mid 1 ha hb
    by_cases c : -16384 ≤ num a + num b ∧ num a + num b ≤ 16383
    · rw [if_pos c.1]
      have e : ((tw (num a + num b)).2 != decide (num a + num b ≤ 16383)) = false := by rw [tw_in c]; simp [c.2]
      rw [e]; exact hm
    · have e : (tw (num a + num b)).2 = false := by rw [tw_out c]
      by_cases d : num a + num b ≥ -16384
      · rw [if_pos d]
        have e2 : ((tw (num a + num b)).2 != decide (num a + num b ≤ 16383)) = false := by rw [e]; simp; omega
        rw [e2]; exact hm
      · rw [if_neg d]
        have e2 : ((tw (num a + num b)).2 != false) = false := by rw [e]; rfl
        rw [e2]; exact hm
  · obtain ⟨e1, e2, e3, e4⟩ := two_no h
    obtain ⟨f1, f2, f3, f4⟩ := one_no 3 h
    rw [e1, e2, e3, e4, f1, f2, f3, f4]
    simp [laws_FnSums.j0]

end Go.Proofs.Ytoilboodndgeeaa.Pure
