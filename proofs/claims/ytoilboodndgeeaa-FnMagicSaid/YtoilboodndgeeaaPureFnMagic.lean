/- FnMagic: by the number and the shift that MagicFor tells each word is divided rightly, and the program's answers are the reference's: for all drawn bytes. No condition. -/
import Derived.Test.YtoilboodndgeeaaPFnMagicx6
import Derived.Test.YtoilboodndgeeaaPlain
namespace Go.Proofs.Ytoilboodndgeeaa.Pure
open Go.RowKit Go.Proofs.Ytoilboodndgeeaa.PFnMagic Go.Proofs.YtoilboodndgeeaaW.PrintWords Go.Proofs.YtoilboodndgeeaaW.PrintLast Go.Proofs.YtoilboodndgeeaaW.PrintMore Go.Proofs.Ytoilboodndgeeaa.Plain

namespace FnMagic
theorem s_in (a l h : Int) : spec_l1In.f a l h = some (decide (l ≤ a ∧ a ≤ h)) := by
  unfold spec_l1In.f
  by_cases c : a ≥ l
  · rw [if_pos c]; simp [show l ≤ a from c]
  · rw [if_neg c]; simp; omega
theorem i_in (a l h : Int) : impl_in.f a l h = some (decide (l ≤ a ∧ a ≤ h)) := by
  unfold impl_in.f
  by_cases c : a ≥ l
  · rw [if_pos c]; simp [show l ≤ a from c]
  · rw [if_neg c]; simp; omega
/-- What is known of drawn bytes. -/
def Bytes (l : List Int) : Prop := l.length ≤ 1048576 ∧ ∀ x ∈ l, 0 ≤ x ∧ x ≤ 255
theorem bytes_rd {l : List Int} (h : Bytes l) (i : Int) : 0 ≤ rd l i ∧ rd l i ≤ 255 := by
  unfold rd
  rw [List.getD_eq_getElem?_getD]
  by_cases c : i.toNat < l.length
  · rw [List.getElem?_eq_getElem c]; exact h.2 _ (List.getElem_mem c)
  · rw [List.getElem?_eq_none (by omega)]; simp
theorem next_ok {l : List Int} (h : Bytes l) (s1 s2 : Int) (h0 : 0 ≤ s1) (h1 : s1 ≤ 1000000000) :
    ∃ b s2', spec_l1Cur_next.f l s1 s2 = some (b, s1 + 1, s2') ∧ 0 ≤ b ∧ b ≤ 255 := by
  have hr := bytes_rd h s1
  have hl := h.1
  unfold spec_l1Cur_next.f
  rw [w64 (n := s1 + 1) (by omega) (by omega)]
  by_cases c : s1 < (l.length : Int)
  · rw [if_pos c, if_pos h0, if_pos (by omega), w64 (n := rd l s1) (by omega) (by omega)]
    exact ⟨_, _, rfl, hr.1, hr.2⟩
  · rw [if_neg c, if_neg (by omega)]
    refine ⟨_, _, rfl, ?_⟩
    have := and_u64_255 ((IntKind.u64.wrap ((IntKind.u64.wrap ((IntKind.u64.wrap (s2 * 6364136223846793005)))) + 1442695040888963407)) / 1099511627776)
    rw [w64 (by omega) (by omega)]
    exact this
theorem pick_ok {l : List Int} (h : Bytes l) (s1 s2 n : Int) (h0 : 0 ≤ s1) (h1 : s1 ≤ 900000000) :
    ∃ x s1' s2', spec_l1Cur_pick.f l s1 s2 n = some (x, s1', s2') ∧ s1 ≤ s1' ∧ s1' ≤ s1 + 2 ∧ 0 ≤ x ∧ (1 ≤ n → x < n) ∧ x ≤ 65535 := by
  unfold spec_l1Cur_pick.f
  by_cases c : n ≤ 1
  · rw [if_pos c]; exact ⟨_, _, _, rfl, by omega, by omega, by omega, fun _ => by omega, by omega⟩
  · rw [if_neg c]
    obtain ⟨b, t, hb, b0, b1⟩ := next_ok h s1 s2 h0 (by omega)
    rw [hb]; simp only [Option.bind_some]
    by_cases d : n > 200
    · rw [if_pos d]
      obtain ⟨b', t', hb', b0', b1'⟩ := next_ok h (s1 + 1) t (by omega) (by omega)
      rw [hb']; simp only [Option.bind_some]
      rw [if_neg (by omega), w64 (n := b * 256) (by omega) (by omega), w64 (n := b * 256 + b') (by omega) (by omega), Int.tmod_eq_emod_of_nonneg (by omega)]
      have m := emod_in (b * 256 + b') n (by omega)
      have m2 : (b * 256 + b') % n ≤ b * 256 + b' := by
        have e1 := Int.mul_ediv_add_emod (b * 256 + b') n
        have e2 : 0 ≤ n * ((b * 256 + b') / n) := Int.mul_nonneg (by omega) (Int.ediv_nonneg (by omega) (by omega))
        omega
      exact ⟨_, _, _, rfl, by omega, by omega, by omega, fun _ => by omega, by omega⟩
    · rw [if_neg d, if_neg (by omega), Int.tmod_eq_emod_of_nonneg (by omega)]
      have m := emod_in b n (by omega)
      exact ⟨_, _, _, rfl, by omega, by omega, by omega, fun _ => by omega, by omega⟩
theorem one_ok {l : List Int} (h : Bytes l) (s1 s2 n : Int) (h0 : 0 ≤ s1) (h1 : s1 ≤ 900000000) :
    ∃ b s1' s2', spec_l1Cur_one.f l s1 s2 n = some (b, s1', s2') ∧ s1 ≤ s1' ∧ s1' ≤ s1 + 2 := by
  unfold spec_l1Cur_one.f
  obtain ⟨x, s1', s2', e, a, b, _⟩ := pick_ok h s1 s2 n h0 h1
  rw [e]; exact ⟨_, _, _, rfl, a, b⟩
theorem among_ok {l : List Int} (h : Bytes l) (s1 s2 : Int) (q : List Int) (hq : 1 ≤ q.length) (h0 : 0 ≤ s1) (h1 : s1 ≤ 900000000) :
    ∃ x s1' s2', spec_l1Cur_among.f l s1 s2 q = some (x, s1', s2') ∧ s1 ≤ s1' ∧ s1' ≤ s1 + 2 ∧ x ∈ q := by
  unfold spec_l1Cur_among.f
  obtain ⟨x, s1', s2', e, a, b, x0, x1, _⟩ := pick_ok h s1 s2 (q.length : Int) h0 h1
  have x1 := x1 (by omega)
  rw [e]; simp only [Option.bind_some]
  rw [if_pos x0, if_pos x1]
  refine ⟨_, _, _, rfl, a, b, ?_⟩
  have hl : x.toNat < q.length := by omega
  unfold rd
  rw [List.getD_eq_getElem?_getD, List.getElem?_eq_getElem hl]
  exact List.getElem_mem hl
theorem word_ok {l : List Int} (h : Bytes l) (s1 s2 : Int) (h0 : 0 ≤ s1) (h1 : s1 ≤ 800000000) :
    ∃ x s1' s2', spec_l1Cur_word.f l s1 s2 = some (x, s1', s2') ∧ s1 ≤ s1' ∧ s1' ≤ s1 + 6 ∧ -1 ≤ x ∧ x ≤ 65536 := by
  unfold spec_l1Cur_word.f
  obtain ⟨b, t1, t2, e, a1, a2⟩ := one_ok h s1 s2 3 h0 (by omega)
  rw [e]; simp only [Option.bind_some]
  by_cases c : b = true
  · rw [if_pos c]
    obtain ⟨x, u1, u2, e', b1, b2, hx⟩ := among_ok h t1 t2 [(-1), 0, 1, 2, 3, 32767, 32768, 32769, 65534, 65535, 65536] (by decide) (by omega) (by omega)
    rw [e']; refine ⟨_, _, _, rfl, by show s1 ≤ u1; omega, by show u1 ≤ s1 + 6; omega, ?_⟩
    show -1 ≤ x ∧ x ≤ 65536
    simp at hx; omega
  · rw [if_neg c]
    obtain ⟨x, u1, u2, e', b1, b2, x0, x1, _⟩ := pick_ok h t1 t2 256 (by omega) (by omega)
    rw [e']; simp only [Option.bind_some]
    obtain ⟨y, v1, v2, e2, c1, c2, y0, y1, _⟩ := pick_ok h u1 u2 256 (by omega) (by omega)
    rw [e2]
    have x1 := x1 (by omega)
    have y1 := y1 (by omega)
    refine ⟨_, _, _, rfl, by show s1 ≤ v1; omega, by show v1 ≤ s1 + 6; omega, ?_⟩
    show -1 ≤ wrap64 (wrap64 (x * 256) + y) ∧ wrap64 (wrap64 (x * 256) + y) ≤ 65536
    rw [w64 (n := x * 256) (by omega) (by omega), w64 (by omega) (by omega)]; omega
theorem divisor_ok {l : List Int} (h : Bytes l) (s1 s2 : Int) (h0 : 0 ≤ s1) (h1 : s1 ≤ 700000000) :
    ∃ x s1' s2', spec_l1Cur_divisor.f l s1 s2 = some (x, s1', s2') ∧ s1 ≤ s1' ∧ s1' ≤ s1 + 6 ∧ 0 ≤ x ∧ x ≤ 65536 := by
  unfold spec_l1Cur_divisor.f
  obtain ⟨b, t1, t2, e, a1, a2⟩ := one_ok h s1 s2 3 h0 (by omega)
  rw [e]; simp only [Option.bind_some]
  by_cases c : b = true
  · rw [if_pos c]
    obtain ⟨x, u1, u2, e', b1, b2, hx⟩ := among_ok h t1 t2 [0, 1, 2, 3, 5, 7, 641, 32768, 65535, 65536] (by decide) (by omega) (by omega)
    rw [e']; refine ⟨_, _, _, rfl, by show s1 ≤ u1; omega, by show u1 ≤ s1 + 6; omega, ?_⟩
    show 0 ≤ x ∧ x ≤ 65536
    simp at hx; omega
  · rw [if_neg c]
    obtain ⟨x, u1, u2, e', b1, b2, x0, x1, _⟩ := pick_ok h t1 t2 256 (by omega) (by omega)
    rw [e']; simp only [Option.bind_some]
    obtain ⟨y, v1, v2, e2, c1, c2, y0, y1, _⟩ := pick_ok h u1 u2 256 (by omega) (by omega)
    rw [e2]
    have x1 := x1 (by omega)
    have y1 := y1 (by omega)
    have m0 : 0 ≤ x * (1 + y) := Int.mul_nonneg x0 (by omega)
    have m1 : x * (1 + y) ≤ 255 * 256 := Int.mul_le_mul (by omega) (by omega) (by omega) (by omega)
    refine ⟨_, _, _, rfl, by show s1 ≤ v1; omega, by show v1 ≤ s1 + 6; omega, ?_⟩
    show 0 ≤ wrap64 (1 + wrap64 (x * wrap64 (1 + y))) ∧ wrap64 (1 + wrap64 (x * wrap64 (1 + y))) ≤ 65536
    rw [w64 (n := 1 + y) (by omega) (by omega), w64 (n := x * (1 + y)) (by omega) (by omega), w64 (by omega) (by omega)]; omega
theorem number_loop (d : Nat) : ∀ (k : Nat) (n : Int) (l : List Int) (i : Int), 0 ≤ i → i ≤ l.length → (l.length : Int) - i = d → d < k → Bytes l → 0 ≤ n → n ≤ 1000003 →
    ∃ r, laws_numberOf.l0 k n l (l.length : Int) i = some r ∧ 0 ≤ r ∧ r ≤ 1000003 := by
  induction d with
  | zero =>
    intro k n l i h0 h1 hd hk hB n0 n1
    obtain ⟨k, rfl⟩ : ∃ m, k = m + 1 := ⟨k - 1, by omega⟩
    simp only [laws_numberOf.l0]; rw [if_neg (by omega)]; exact ⟨_, rfl, n0, n1⟩
  | succ d ih =>
    intro k n l i h0 h1 hd hk hB n0 n1
    obtain ⟨k, rfl⟩ : ∃ m, k = m + 1 := ⟨k - 1, by omega⟩
    have hr := bytes_rd hB i
    have hl := hB.1
    simp only [laws_numberOf.l0]
    rw [if_pos (by omega), if_pos h0, if_pos (by omega), w64 (n := rd l i) (by omega) (by omega), w64 (n := 31 * n) (by omega) (by omega), w64 (n := 31 * n + rd l i) (by omega) (by omega), w64 (n := i + 1) (by omega) (by omega), Int.tmod_eq_emod_of_nonneg (by omega)]
    have t := emod_in (31 * n + rd l i) 1000003 (by omega)
    exact ih k _ l (i + 1) (by omega) (by omega) (by omega) (by omega) hB t.1 (by omega)
theorem number (k : Nat) (l : List Int) (hk : l.length < k) (hB : Bytes l) : ∃ r, laws_numberOf.f k l = some r ∧ 0 ≤ r ∧ r ≤ 1000003 := by
  unfold laws_numberOf.f
  exact number_loop l.length k 0 l 0 (by omega) (by omega) (by omega) hk hB (by omega) (by omega)

theorem u64_small {n : Int} (h0 : 0 ≤ n) (h1 : n ≤ 1000000) : IntKind.u64.wrap n = n := by
  have hw : IntKind.u64.wrap n = n % 18446744073709551616 := by simp [IntKind.wrap, IntKind.bits, IntKind.signed]
  rw [hw]; omega

/-! Powers: P is 2^j, so 2^(j+16) is 65536 P. -/
theorem pow16 (j : Nat) : (2 : Int) ^ (j + 16) = 65536 * 2 ^ j := by rw [Int.pow_add]; omega
theorem powP {j : Nat} (h : j ≤ 16) : 1 ≤ (2 : Int) ^ j ∧ (2 : Int) ^ j ≤ 65536 := by
  have h1 : 2 ^ j ≤ 65536 := Nat.pow_le_pow_right (n := 2) (by decide) h
  have h0 : 0 < 2 ^ j := Nat.two_pow_pos j
  have h2 : ((2 ^ j : Nat) : Int) = (2 : Int) ^ j := by simp
  rw [← h2]
  exact ⟨Int.ofNat_le.2 h0, Int.ofNat_le.2 h1⟩
theorem shl1 {j : Nat} (h : j ≤ 16) : shl .i64 1 ((j : Int) + 16) = 65536 * 2 ^ j ∧ shl .i64 1 (j : Int) = 2 ^ j := by
  obtain ⟨p0, p1⟩ := powP h
  constructor
  · unfold shl
    rw [Nat.min_eq_left (by simp [IntKind.bits]; omega), show ((j : Int) + 16).toNat = j + 16 by omega, pow16, IntKind.wrap_i64]
    generalize (2 : Int) ^ j = P at *; omega
  · unfold shl
    rw [Nat.min_eq_left (by simp [IntKind.bits]; omega), Int.toNat_natCast, IntKind.wrap_i64]
    generalize (2 : Int) ^ j = P at *; omega

/-! What makes a magic right. -/
/-- e: how far it is off. -/
theorem right_div {by_ mul P n e : Int} (hb : 1 ≤ by_) (hP : 1 ≤ P) (he0 : 0 ≤ e) (he1 : e ≤ P) (hm : by_ * mul = 65536 * P + e) (hn0 : 0 ≤ n) (hn1 : n ≤ 65535) :
    n * mul / (65536 * P) = n / by_ := by
  have hq := Int.mul_ediv_add_emod n by_
  have hr0 := Int.emod_nonneg n (show by_ ≠ 0 by omega)
  have hr1 := Int.emod_lt_of_pos n (show 0 < by_ by omega)
  generalize n / by_ = q at *
  generalize n % by_ = r at *
  -- by * (n * mul) = n * (65536 P) + n e
  have e1 : by_ * (n * mul) = n * (65536 * P) + n * e := by
    rw [← Int.mul_assoc, Int.mul_comm by_ n, Int.mul_assoc, hm, Int.mul_add]
  have ne0 : 0 ≤ n * e := Int.mul_nonneg hn0 he0
  have ne1 : n * e ≤ 65535 * P := by
    have h1 : 0 ≤ n * (P - e) := Int.mul_nonneg hn0 (by omega)
    have h2 : 0 ≤ (65535 - n) * P := Int.mul_nonneg (by omega) (by omega)
    rw [Int.mul_sub] at h1; rw [Int.sub_mul] at h2; omega
  have lo : by_ * (q * (65536 * P)) ≤ by_ * (n * mul) := by
    rw [e1]
    have h1 : 0 ≤ r * (65536 * P) := Int.mul_nonneg hr0 (by omega)
    have h2 : n * (65536 * P) = by_ * q * (65536 * P) + r * (65536 * P) := by rw [← Int.add_mul, hq]
    rw [← Int.mul_assoc]; omega
  have hi : by_ * (n * mul) < by_ * ((q + 1) * (65536 * P)) := by
    rw [e1]
    have h2 : n * (65536 * P) = by_ * q * (65536 * P) + r * (65536 * P) := by rw [← Int.add_mul, hq]
    have h3 : by_ * ((q + 1) * (65536 * P)) = by_ * q * (65536 * P) + by_ * (65536 * P) := by
      rw [← Int.mul_assoc, Int.mul_add, Int.mul_one, Int.add_mul]
    have h4 : 0 ≤ (by_ - r - 1) * (65536 * P) := Int.mul_nonneg (by omega) (by omega)
    rw [Int.sub_mul, Int.sub_mul, Int.one_mul] at h4
    rw [h2, h3]; omega
  have lo' : q * (65536 * P) ≤ n * mul := Int.le_of_mul_le_mul_left lo (by omega)
  have hi' : n * mul < (q + 1) * (65536 * P) := Int.lt_of_mul_lt_mul_left hi (by omega)
  have h1 : q ≤ n * mul / (65536 * P) := (Int.le_ediv_iff_mul_le (by omega)).2 lo'
  have h2 : n * mul / (65536 * P) < q + 1 := (Int.ediv_lt_iff_lt_mul (by omega)).2 hi'
  omega

/-- A magic that MagicFor tells. -/
def Told (b mul : Int) (j : Nat) : Prop := j ≤ 16 ∧ 0 ≤ mul ∧ mul ≤ 131071 ∧ ∃ e, 0 ≤ e ∧ e ≤ 2 ^ j ∧ b * mul = 65536 * 2 ^ j + e

theorem magic_loop (m : Nat) : ∀ (k : Nat) (b : Int) (j : Nat), 1 ≤ b → b ≤ 65535 → j ≤ 16 → 16 - j = m → m < k → (1 ≤ j → 2 ^ (j - 1) + 1 ≤ b) →
    ∃ (mul : Int) (j' : Nat), impl_MagicFor.l0 k b ((j : Int) + 16) = some (b, mul, (j' : Int) + 16, true) ∧ spec_MagicFor.l0 k b ((j : Int) + 16) = some (b, mul, (j' : Int) + 16, true) ∧ Told b mul j' := by
  induction m with
  | zero =>
    intro k b j hb0 hb1 hj hm hk hlow
    obtain ⟨k, rfl⟩ : ∃ m, k = m + 1 := ⟨k - 1, by omega⟩
    exact step k b j hb0 hb1 hj hlow (fun h => by omega)
  | succ m ih =>
    intro k b j hb0 hb1 hj hm hk hlow
    obtain ⟨k, rfl⟩ : ∃ m, k = m + 1 := ⟨k - 1, by omega⟩
    exact step k b j hb0 hb1 hj hlow (fun h hn => ih k b (j + 1) hb0 hb1 (by omega) (by omega) (by omega) hn)
where
  step (k : Nat) (b : Int) (j : Nat) (hb0 : 1 ≤ b) (hb1 : b ≤ 65535) (hj : j ≤ 16) (hlow : 1 ≤ j → 2 ^ (j - 1) + 1 ≤ b)
      (next : j < 16 → (1 ≤ j + 1 → 2 ^ (j + 1 - 1) + 1 ≤ b) → ∃ (mul : Int) (j' : Nat), impl_MagicFor.l0 k b (((j + 1 : Nat) : Int) + 16) = some (b, mul, (j' : Int) + 16, true) ∧ spec_MagicFor.l0 k b (((j + 1 : Nat) : Int) + 16) = some (b, mul, (j' : Int) + 16, true) ∧ Told b mul j') :
      ∃ (mul : Int) (j' : Nat), impl_MagicFor.l0 (k + 1) b ((j : Int) + 16) = some (b, mul, (j' : Int) + 16, true) ∧ spec_MagicFor.l0 (k + 1) b ((j : Int) + 16) = some (b, mul, (j' : Int) + 16, true) ∧ Told b mul j' := by
    obtain ⟨p0, p1⟩ := powP hj
    obtain ⟨s1, s2⟩ := shl1 hj
    have es : wrap64 ((j : Int) + 16 - 16) = (j : Int) := by rw [w64 (by omega) (by omega)]; omega
    have u1 : IntKind.u64.wrap ((j : Int) + 16) = (j : Int) + 16 := u64_small (by omega) (by omega)
    have u2 : IntKind.u64.wrap (j : Int) = (j : Int) := u64_small (by omega) (by omega)
    simp only [impl_MagicFor.l0, spec_MagicFor.l0]
    rw [es, u1, u2, s1, s2]
    have q1 := Int.mul_ediv_add_emod (65536 * 2 ^ j + b - 1) b
    have q2 := Int.emod_nonneg (65536 * 2 ^ j + b - 1) (show b ≠ 0 by omega)
    have q3 := Int.emod_lt_of_pos (65536 * 2 ^ j + b - 1) (show 0 < b by omega)
    have q4 : 0 ≤ (65536 * 2 ^ j + b - 1) / b := Int.ediv_nonneg (by omega) (by omega)
    have q5 : (65536 * 2 ^ j + b - 1) / b ≤ 65536 * 2 ^ j + b - 1 := Int.ediv_le_self _ (by omega)
    have w1 : wrap64 (65536 * 2 ^ j + b) = 65536 * 2 ^ j + b := w64 (by omega) (by omega)
    have w2 : wrap64 (65536 * 2 ^ j + b - 1) = 65536 * 2 ^ j + b - 1 := w64 (by omega) (by omega)
    rw [w1, w2, Int.tdiv_eq_ediv_of_nonneg (by omega)]
    have w3 : wrap64 ((65536 * 2 ^ j + b - 1) / b) = (65536 * 2 ^ j + b - 1) / b := w64 (by omega) (by omega)
    rw [w3]
    have w4 : wrap64 ((65536 * 2 ^ j + b - 1) / b * b) = (65536 * 2 ^ j + b - 1) / b * b := by rw [Int.mul_comm]; exact w64 (by omega) (by omega)
    rw [w4]
    have w5 : wrap64 ((65536 * 2 ^ j + b - 1) / b * b - 65536 * 2 ^ j) = (65536 * 2 ^ j + b - 1) / b * b - 65536 * 2 ^ j := by rw [Int.mul_comm ((65536 * 2 ^ j + b - 1) / b) b]; exact w64 (by omega) (by omega)
    rw [w5, if_pos (show 0 ≤ (j : Int) + 16 by omega), if_pos (show (j : Int) + 16 ≤ 32 by omega), if_pos (show 0 ≤ (j : Int) + 16 by omega)]
    rw [if_neg (show ¬ b = 0 by omega), if_neg (show ¬ b = 0 by omega), if_pos (show 0 ≤ (j : Int) by omega), if_pos (show 0 ≤ (j : Int) by omega)]
    by_cases c : (65536 * 2 ^ j + b - 1) / b * b - 65536 * 2 ^ j ≤ 2 ^ j
    · rw [if_pos c, if_pos c]
      refine ⟨(65536 * 2 ^ j + b - 1) / b, j, rfl, rfl, hj, q4, ?_, b * ((65536 * 2 ^ j + b - 1) / b) - 65536 * 2 ^ j, by omega, by rw [Int.mul_comm]; exact c, by omega⟩
      by_cases j0 : j = 0
      · subst j0
        have : (2 : Int) ^ 0 = 1 := rfl
        omega
      · obtain ⟨i, rfl⟩ : ∃ i, j = i + 1 := ⟨j - 1, by omega⟩
        have hl := hlow (by omega)
        have ep : (2 : Int) ^ (i + 1) = 2 * 2 ^ i := by rw [Int.pow_succ]; omega
        rw [show i + 1 - 1 = i by omega] at hl
        have pi := powP (j := i) (by omega)
        rw [ep] at q1 q2 q3 q4 p1 ⊢
        generalize (2 : Int) ^ i = Q at *
        generalize (65536 * (2 * Q) + b - 1) % b = r at *
        have hlt : (65536 * (2 * Q) + b - 1) / b < 131072 := by
          rw [Int.ediv_lt_iff_lt_mul (by omega)]
          have : 131072 * (Q + 1) ≤ 131072 * b := by omega
          omega
        omega
    · rw [if_neg c, if_neg c]
      have hb : (65536 * 2 ^ j + b - 1) / b * b - 65536 * 2 ^ j ≤ b - 1 := by rw [Int.mul_comm]; omega
      have hfin : 2 ^ j + 1 ≤ b := by
        clear q1 q2 q3 q4 q5 w1 w2 w3 w4 w5 s1 s2 p1 hlow next u1 u2 es
        generalize (65536 * 2 ^ j + b - 1) / b * b = X at c hb
        generalize (2 : Int) ^ j = P at *
        omega
      have hj16 : j < 16 := by
        by_cases e : j = 16
        · subst e
          have h16 := pow16 0
          rw [Nat.zero_add, Int.pow_zero] at h16
          omega
        · omega
      have en : wrap64 ((j : Int) + 16 + 1) = ((j + 1 : Nat) : Int) + 16 := by rw [w64 (by omega) (by omega)]; omega
      rw [en]
      exact next hj16 (fun _ => hfin)

theorem magic_for (k : Nat) (hk : 17 < k) (a : Int) : (¬ (1 ≤ a ∧ a ≤ 65535) ∧ impl_MagicFor.f k a = some (0, 0, 0, false) ∧ spec_MagicFor.f k a = some (0, 0, 0, false)) ∨
    (1 ≤ a ∧ a ≤ 65535) ∧ ∃ (mul : Int) (j : Nat), impl_MagicFor.f k a = some (a, mul, (j : Int) + 16, true) ∧ spec_MagicFor.f k a = some (a, mul, (j : Int) + 16, true) ∧ Told a mul j := by
  unfold impl_MagicFor.f spec_MagicFor.f
  rw [i_in, s_in]; simp only [Option.bind_some]
  by_cases c : 1 ≤ a ∧ a ≤ 65535
  · have hd : decide (1 ≤ a ∧ a ≤ 65535) = true := by simpa using c
    rw [hd]; simp only [if_true]
    exact .inr ⟨c, magic_loop 16 k a 0 c.1 c.2 (by omega) rfl (by omega) (fun h => by omega)⟩
  · have hd : decide (1 ≤ a ∧ a ≤ 65535) = false := by simpa using c
    rw [hd]; simp only [Bool.false_eq_true, if_false]
    exact .inl ⟨c, trivial, trivial⟩

/-! Dividing. -/
def good (b m s : Int) : Bool := decide (1 ≤ b ∧ b ≤ 65535) && (decide (0 ≤ m ∧ m ≤ 131071) && decide (0 ≤ s ∧ s ≤ 32))
theorem good_iff {b m s : Int} : good b m s = true ↔ (1 ≤ b ∧ b ≤ 65535) ∧ (0 ≤ m ∧ m ≤ 131071) ∧ (0 ≤ s ∧ s ≤ 32) := by simp [good]
theorem i_good (b m s : Int) : impl_isMagic.f b m s = some (good b m s) := by
  unfold impl_isMagic.f good
  rw [i_in, i_in, i_in]; simp only [Option.bind_some]
  by_cases c : 1 ≤ b ∧ b ≤ 65535
  · have hd : decide (1 ≤ b ∧ b ≤ 65535) = true := by simpa using c
    rw [hd]
    by_cases c' : 0 ≤ m ∧ m ≤ 131071
    · have hd' : decide (0 ≤ m ∧ m ≤ 131071) = true := by simpa using c'
      rw [hd']; simp
    · have hd' : decide (0 ≤ m ∧ m ≤ 131071) = false := by simpa using c'
      rw [hd']; simp
  · have hd : decide (1 ≤ b ∧ b ≤ 65535) = false := by simpa using c
    rw [hd]; simp
theorem s_good (b m s : Int) : spec_GoodMagic.f b m s = some (good b m s) := by
  unfold spec_GoodMagic.f good
  rw [s_in, s_in, s_in]; simp only [Option.bind_some]
  by_cases c : 1 ≤ b ∧ b ≤ 65535
  · have hd : decide (1 ≤ b ∧ b ≤ 65535) = true := by simpa using c
    rw [hd]
    by_cases c' : 0 ≤ m ∧ m ≤ 131071
    · have hd' : decide (0 ≤ m ∧ m ≤ 131071) = true := by simpa using c'
      rw [hd']; simp
    · have hd' : decide (0 ≤ m ∧ m ≤ 131071) = false := by simpa using c'
      rw [hd']; simp
  · have hd : decide (1 ≤ b ∧ b ≤ 65535) = false := by simpa using c
    rw [hd]; simp

def dv (m s n : Int) : Int := shr .i64 (wrap64 (n * m)) s
theorem s_l2 {b m s n : Int} (h : good b m s = true) : spec_l2Div.f b m s n = some (dv m s n) := by
  have g := good_iff.1 h
  unfold spec_l2Div.f dv
  rw [u64_small (n := s) (by omega) (by omega), if_pos (by omega)]
theorem i_divby (b m s n : Int) : impl_DivBy.f b m s n = some (if good b m s = true ∧ 0 ≤ n ∧ n ≤ 65535 then (dv m s n, true) else (0, false)) := by
  unfold impl_DivBy.f
  rw [i_good, i_in]; simp only [Option.bind_some]
  by_cases c : good b m s = true
  · have g := good_iff.1 c
    by_cases d : 0 ≤ n ∧ n ≤ 65535
    · simp [c, d, g, dv]
    · simp [c, d]
  · simp [c]
theorem s_divby (b m s n : Int) : spec_DivBy.f b m s n = some (if good b m s = true ∧ 0 ≤ n ∧ n ≤ 65535 then (dv m s n, true) else (0, false)) := by
  unfold spec_DivBy.f
  rw [s_good, s_in]; simp only [Option.bind_some]
  by_cases c : good b m s = true
  · rw [s_l2 c]
    by_cases d : 0 ≤ n ∧ n ≤ 65535
    · simp [c, d]
    · simp [c, d]
  · simp [c]
theorem i_modby (b m s n : Int) : impl_ModBy.f b m s n = some (if good b m s = true ∧ 0 ≤ n ∧ n ≤ 65535 then (wrap64 (n - wrap64 (b * dv m s n)), true) else (0, false)) := by
  unfold impl_ModBy.f
  rw [i_good, i_in]; simp only [Option.bind_some]
  by_cases c : good b m s = true
  · have g := good_iff.1 c
    by_cases d : 0 ≤ n ∧ n ≤ 65535
    · simp [c, d, g, dv]
    · simp [c, d]
  · simp [c]
theorem s_modby (b m s n : Int) : spec_ModBy.f b m s n = some (if good b m s = true ∧ 0 ≤ n ∧ n ≤ 65535 then (wrap64 (n - wrap64 (b * dv m s n)), true) else (0, false)) := by
  unfold spec_ModBy.f
  rw [s_good, s_in]; simp only [Option.bind_some]
  by_cases c : good b m s = true
  · rw [s_l2 c]
    by_cases d : 0 ≤ n ∧ n ≤ 65535
    · simp [c, d]
    · simp [c, d]
  · simp [c]
theorem signed_same (k : Nat) (b m s n : Int) : ∃ r, impl_DivSigned.f (k + 1) b m s n = some r ∧ spec_DivSigned.f (k + 1) b m s n = some r := by
  unfold impl_DivSigned.f spec_DivSigned.f
  rw [i_good, s_good, i_in, s_in]; simp only [Option.bind_some, impl_DivSigned.j0, spec_DivSigned.j0]
  by_cases c : good b m s = true
  · have g := good_iff.1 c
    rw [s_l2 c, s_l2 c, c]
    simp only [if_true, Option.bind_some]
    by_cases d : -32768 ≤ n ∧ n ≤ 32767
    · have hd : decide (-32768 ≤ n ∧ n ≤ 32767) = true := by simpa using d
      have h0 : 0 ≤ s := g.2.2.1
      rw [hd]
      simp only [Bool.not_true, Bool.false_eq_true, if_false, h0, if_true, dv]
      by_cases e : n < 0
      · simp [e]
      · simp [e]
    · have hd : decide (-32768 ≤ n ∧ n ≤ 32767) = false := by simpa using d
      rw [hd]; simp
  · have c' : good b m s = false := by simpa using c
    rw [c']; simp
theorem right_loop (d : Nat) : ∀ (k : Nat) (b m s i : Int), good b m s = true → 0 ≤ i → i ≤ 65536 → 65536 - i = d → d < k →
    ∃ r, impl_IsRight.l0 k i b m s = some (r, true) ∧ spec_IsRight.l0 k i b m s = some (r, true) ∧ (r = true → ∀ n, i ≤ n → n ≤ 65535 → dv m s n = wrap64 (Int.tdiv n b)) := by
  induction d with
  | zero =>
    intro k b m s i hg h0 h1 hd hk
    obtain ⟨k, rfl⟩ : ∃ m, k = m + 1 := ⟨k - 1, by omega⟩
    refine ⟨true, ?_, ?_, fun _ n h h' => by omega⟩
    · simp only [impl_IsRight.l0]; rw [if_neg (by omega)]
    · simp only [spec_IsRight.l0]; rw [if_neg (by omega)]
  | succ d ih =>
    intro k b m s i hg h0 h1 hd hk
    obtain ⟨k, rfl⟩ : ∃ m, k = m + 1 := ⟨k - 1, by omega⟩
    have g := good_iff.1 hg
    have wi : wrap64 (i + 1) = i + 1 := w64 (by omega) (by omega)
    simp only [impl_IsRight.l0, spec_IsRight.l0]
    rw [if_pos (show i < 65536 by omega), if_pos (show i ≤ 65535 by omega), if_pos (show 0 ≤ s by omega), s_l2 hg]
    simp only [Option.bind_some]
    rw [if_neg (show ¬ b = 0 by omega), if_neg (show ¬ b = 0 by omega), wi]
    show ∃ r, (if dv m s i = wrap64 (Int.tdiv i b) then _ else _) = _ ∧ _
    by_cases c : dv m s i = wrap64 (Int.tdiv i b)
    · obtain ⟨r, e1, e2, e3⟩ := ih k b m s (i + 1) hg (by omega) (by omega) (by omega) (by omega)
      refine ⟨r, by rw [if_pos c]; exact e1, by rw [if_pos c]; exact e2, fun hr n h h' => ?_⟩
      by_cases e : n = i
      · subst e; exact c
      · exact e3 hr n (by omega) h'
    · exact ⟨false, by rw [if_neg c], by rw [if_neg c], fun h => by cases h⟩
theorem is_right (k : Nat) (hk : 65536 < k) (b m s : Int) : ∃ r, impl_IsRight.f k b m s = some (r, good b m s) ∧ spec_IsRight.f k b m s = some (r, good b m s) ∧ (good b m s = true → r = true → ∀ n, 0 ≤ n → n ≤ 65535 → dv m s n = wrap64 (Int.tdiv n b)) := by
  unfold impl_IsRight.f spec_IsRight.f
  rw [i_good, s_good]; simp only [Option.bind_some]
  by_cases c : good b m s = true
  · obtain ⟨r, e1, e2, e3⟩ := right_loop 65536 k b m s 0 c (by omega) (by omega) (by omega) hk
    rw [if_pos c, if_pos c, e1, e2, c]
    exact ⟨r, rfl, rfl, fun _ hr n h h' => e3 hr n h h'⟩
  · have c' : good b m s = false := by simpa using c
    rw [c']; exact ⟨false, by simp, by simp, fun h => by cases h⟩

/-! Drawing. -/
theorem magic_draw (k : Nat) (hk : 20 < k) {l : List Int} (h : Bytes l) : ∃ b m s t1 t2, spec_l1Cur_magic.f k l 0 0 = some (b, m, s, t1, t2) ∧ 0 ≤ t1 ∧ t1 ≤ 100 := by
  obtain ⟨k, rfl⟩ : ∃ m, k = m + 1 := ⟨k - 1, by omega⟩
  unfold spec_l1Cur_magic.f
  obtain ⟨x, u1, u2, e, b1, b2, _⟩ := divisor_ok h 0 0 (by omega) (by omega)
  rw [e]; simp only [Option.bind_some]
  have tail : ∀ (p q r : Int), ∃ b m s t1 t2, spec_l1Cur_magic.j0 (k + 1) l u1 u2 p q r = some (b, m, s, t1, t2) ∧ 0 ≤ t1 ∧ t1 ≤ 100 := by
    intro p q r
    simp only [spec_l1Cur_magic.j0]
    obtain ⟨y, v1, v2, e2, c1, c2, _⟩ := pick_ok h u1 u2 12 (by omega) (by omega)
    rw [e2]; simp only [Option.bind_some]
    by_cases y0 : y = 0
    · rw [if_pos y0]
      obtain ⟨z, w1, w2, e3, d1, d2, _⟩ := pick_ok h v1 v2 5 (by omega) (by omega)
      rw [e3]; exact ⟨_, _, _, _, _, rfl, by show 0 ≤ w1; omega, by show w1 ≤ 100; omega⟩
    · rw [if_neg y0]
      by_cases y1 : y = 1
      · rw [if_pos y1]
        obtain ⟨z, w1, w2, e3, d1, d2, _⟩ := among_ok h v1 v2 [(-1), 0, 15, 32, 33] (by decide) (by omega) (by omega)
        rw [e3]; exact ⟨_, _, _, _, _, rfl, by show 0 ≤ w1; omega, by show w1 ≤ 100; omega⟩
      · rw [if_neg y1]
        by_cases y2 : y = 2
        · rw [if_pos y2]
          obtain ⟨z, w1, w2, e3, d1, d2, _⟩ := divisor_ok h v1 v2 (by omega) (by omega)
          rw [e3]; exact ⟨_, _, _, _, _, rfl, by show 0 ≤ w1; omega, by show w1 ≤ 100; omega⟩
        · rw [if_neg y2]; exact ⟨_, _, _, _, _, rfl, by show 0 ≤ v1; omega, by show v1 ≤ 100; omega⟩
  rcases magic_for (k + 1) (by omega) x with ⟨_, _, hs⟩ | ⟨_, mul, j, _, hs, _⟩
  · rw [hs]; simp only [Option.bind_some, Bool.false_eq_true, if_false]; exact tail _ _ _
  · rw [hs]; simp only [Option.bind_some, if_true]; exact tail _ _ _
theorem drawdiv (k : Nat) (hk : 20 < k) {l : List Int} (h : Bytes l) : ∃ b m s n, spec_DrawDivBy.f k l = some (b, m, s, n) := by
  unfold spec_DrawDivBy.f
  obtain ⟨b, m, s, t1, t2, e, h0, h1⟩ := magic_draw k hk h
  rw [e]; simp only [Option.bind_some]
  obtain ⟨z, w1, w2, e3, _⟩ := word_ok h t1 t2 h0 (by omega)
  rw [e3]; exact ⟨_, _, _, _, rfl⟩
theorem drawsigned (k : Nat) (hk : 20 < k) {l : List Int} (h : Bytes l) : ∃ b m s n, spec_DrawDivSigned.f k l = some (b, m, s, n) := by
  unfold spec_DrawDivSigned.f
  obtain ⟨b, m, s, t1, t2, e, h0, h1⟩ := magic_draw k hk h
  rw [e]; simp only [Option.bind_some]
  obtain ⟨y, v1, v2, e2, c1, c2, _⟩ := pick_ok h t1 t2 60000 h0 (by omega)
  rw [e2]; simp only [Option.bind_some]
  obtain ⟨z, w1, w2, e3, _⟩ := among_ok h v1 v2 [(-32769), (-32768), (-1), 0, 1, 32767, 32768, wrap64 (y - 30000)] (by simp) (by omega) (by omega)
  rw [e3]; exact ⟨_, _, _, _, rfl⟩

theorem told_good {b mul : Int} {j : Nat} (hb : 1 ≤ b ∧ b ≤ 65535) (h : Told b mul j) : good b mul ((j : Int) + 16) = true := by
  obtain ⟨h1, h2, h3, _⟩ := h
  exact good_iff.2 ⟨hb, ⟨h2, h3⟩, by omega, by omega⟩
theorem told_div {b mul : Int} {j : Nat} (hb : 1 ≤ b ∧ b ≤ 65535) (h : Told b mul j) (n : Int) (hn0 : 0 ≤ n) (hn1 : n ≤ 65535) : dv mul ((j : Int) + 16) n = n / b := by
  obtain ⟨h1, h2, h3, e, he0, he1, hm⟩ := h
  obtain ⟨p0, p1⟩ := powP h1
  have m0 : 0 ≤ n * mul := Int.mul_nonneg hn0 h2
  have m1 : n * mul ≤ 65535 * 131071 := Int.mul_le_mul hn1 h3 h2 (by omega)
  unfold dv shr
  rw [w64 (by omega) (by omega), Nat.min_eq_left (by simp [IntKind.bits]; omega), show ((j : Int) + 16).toNat = j + 16 by omega, pow16]
  exact right_div hb.1 p0 he0 he1 hm hn0 hn1

theorem tail1 (k : Nat) (hk : 70000 < k) {l : List Int} (h : Bytes l) : laws_FnMagic.j1 k l = some true := by
  obtain ⟨k, rfl⟩ : ∃ m, k = m + 1 := ⟨k - 1, by omega⟩
  obtain ⟨b, m, s, n, e⟩ := drawdiv k (by omega) h
  obtain ⟨b', m', s', n', e'⟩ := drawsigned k (by omega) h
  simp only [laws_FnMagic.j1]
  rw [e]; simp only [Option.bind_some]
  rw [i_divby, s_divby, i_modby, s_modby]; simp only [Option.bind_some]
  generalize hA : (if good b m s = true ∧ 0 ≤ n ∧ n ≤ 65535 then (dv m s n, true) else (0, false)) = A
  rw [e']; simp only [Option.bind_some]
  obtain ⟨k, rfl⟩ : ∃ m, k = m + 1 := ⟨k - 1, by omega⟩
  obtain ⟨r, h1, h2⟩ := signed_same k b' m' s' n'
  rw [h1, h2]; simp only [Option.bind_some, bne_self_eq_false, Bool.false_eq_true, if_false, if_true]
  unfold impl_GoodMagic.f
  rw [i_good, s_good]; simp only [Option.bind_some, bne_self_eq_false]
  simp only [laws_FnMagic.j2, Bool.false_eq_true, if_false]
  obtain ⟨q, f1, f2, f3⟩ := is_right k (by omega) b m s
  rw [f1, f2]; simp only [Option.bind_some, beq_self_eq_true, if_true]
  by_cases c : good b m s = true
  · rw [if_pos c]
    have g := good_iff.1 c
    by_cases d : q = true
    · rw [if_pos d]
      by_cases hn : 0 ≤ n ∧ n ≤ 65535
      · rw [if_pos ⟨c, hn⟩] at hA
        subst hA
        simp only [if_true]
        rw [if_neg (show ¬ b = 0 by omega), f3 c d n hn.1 hn.2]; simp
      · rw [if_neg (fun h => hn h.2)] at hA
        subst hA
        simp
    · rw [if_neg d]
  · rw [if_neg c]
end FnMagic
open FnMagic in
theorem FnMagic : laws_FnMagic.Pure := by
  intro l0 l1 h1 h2 hw0 h3 h4 hw1
  refine ⟨1100000, ?_⟩
  unfold laws_FnMagic.f
  by_cases hl : wrap64 ((l0.length : Int) + (l1.length : Int)) > 1048576
  · rw [if_pos hl]
  rw [if_neg hl]
  have hl' : l0.length + l1.length ≤ 1048576 := by
    unfold maxLen at *
    rw [w64 (by omega) (by omega)] at hl; omega
  have hB0 : Bytes l0 := ⟨by omega, fun x hx => ⟨wf_u8_lo (hw0 x hx), wf_u8_hi (hw0 x hx)⟩⟩
  have hB1 : Bytes l1 := ⟨by omega, fun x hx => ⟨wf_u8_lo (hw1 x hx), wf_u8_hi (hw1 x hx)⟩⟩
  obtain ⟨b, u1, u2, e, b1, b2, x0, x1⟩ := divisor_ok hB0 0 0 (by omega) (by omega)
  unfold spec_DrawMagicFor.f
  rw [e]; simp only [Option.bind_some]
  rcases magic_for 1100000 (by omega) b with ⟨_, p1, p2⟩ | ⟨hb, mul, j, p1, p2, ht⟩
  · rw [p1, p2]; simp only [Option.bind_some, bne_self_eq_false, Bool.false_eq_true, if_false, beq_self_eq_true, Bool.not_true, Bool.or_self]
    simp only [laws_FnMagic.j0, Bool.false_eq_true, if_false]
    exact tail1 1099999 (by omega) hB1
  · rw [p1, p2]; simp only [Option.bind_some, bne_self_eq_false, Bool.false_eq_true, if_false, beq_self_eq_true, Bool.not_true, Bool.or_self]
    simp only [laws_FnMagic.j0, Bool.false_eq_true, if_false, if_true]
    obtain ⟨n, hn, n0, n1⟩ := number 1099999 l1 (by omega) hB1
    have t := emod_in n 65536 (by omega)
    rw [hn]; simp only [Option.bind_some]
    rw [Int.tmod_eq_emod_of_nonneg n0]
    generalize n % 65536 = z at *
    have hg := told_good hb ht
    have dz := told_div hb ht z (by omega) (by omega)
    have d6 := told_div hb ht 65535 (by omega) (by omega)
    have q0 : 0 ≤ z / b := Int.ediv_nonneg (by omega) (by omega)
    have q1 : z / b ≤ z := Int.ediv_le_self _ (by omega)
    have q2 : 0 ≤ (65535 : Int) / b := Int.ediv_nonneg (by omega) (by omega)
    have q3 : (65535 : Int) / b ≤ 65535 := Int.ediv_le_self _ (by omega)
    have qm := Int.mul_ediv_add_emod z b
    have qr := emod_in z b (by omega)
    rw [i_divby, i_divby, i_modby]
    rw [if_pos ⟨hg, by omega, by omega⟩, if_pos ⟨hg, by omega, by omega⟩, if_pos ⟨hg, by omega, by omega⟩]
    unfold impl_GoodMagic.f
    rw [i_good, hg]; simp only [Option.bind_some, if_true]
    rw [if_neg (show ¬ b = 0 by omega), dz, d6, Int.tdiv_eq_ediv_of_nonneg (show 0 ≤ z by omega), w64 (n := z / b) (by omega) (by omega), if_pos rfl]
    rw [Int.tmod_eq_emod_of_nonneg (show 0 ≤ z by omega), w64 (n := b * (z / b)) (by omega) (by omega), w64 (n := z - b * (z / b)) (by omega) (by omega), if_pos (by omega)]
    rw [Int.tdiv_eq_ediv_of_nonneg (show (0 : Int) ≤ 65535 by omega), w64 (n := (65535 : Int) / b) (by omega) (by omega), if_pos rfl]
    exact tail1 1099999 (by omega) hB1

end Go.Proofs.Ytoilboodndgeeaa.Pure
