/- FnTags: words of numbers and of addresses come back, counts of ones and lowest ones are right, and the program's are the reference's: for all drawn bytes. No condition. -/
import Derived.Test.YtoilboodndgeeaaDoorPFnTagsx3
import Derived.Test.YtoilboodndgeeaaDoorPlain
import Derived.Laws.Bits64b
namespace Go.Proofs.YtoilboodndgeeaaDoor.Pure
open Go.RowKit Go.Proofs.YtoilboodndgeeaaDoor.PFnTags Go.Proofs.YtoilboodndgeeaaDoorW.PrintWords Go.Proofs.YtoilboodndgeeaaDoorW.PrintLast Go.Proofs.YtoilboodndgeeaaDoorW.PrintMore Go.Proofs.YtoilboodndgeeaaDoor.Plain

namespace FnTags
/-- What is known of drawn bytes. -/
def Bytes (l : List Int) : Prop := l.length ≤ 1048576 ∧ ∀ x ∈ l, 0 ≤ x ∧ x ≤ 255
theorem bytes_rd {l : List Int} (h : Bytes l) (i : Int) : 0 ≤ rd l i ∧ rd l i ≤ 255 := by
  unfold rd
  rw [List.getD_eq_getElem?_getD]
  by_cases c : i.toNat < l.length
  · rw [List.getElem?_eq_getElem c]; exact h.2 _ (List.getElem_mem c)
  · rw [List.getElem?_eq_none (by omega)]; simp
theorem next_ok {l : List Int} (h : Bytes l) (s1 s2 : Int) (h0 : 0 ≤ s1) (h1 : s1 ≤ 1000000000) :
    ∃ b s2', spec_l1Cur_next.f l s1 s2 = some (b, s1 + 1, s2') ∧ 0 ≤ b ∧ b ≤ 255 := by
  have hr := bytes_rd h s1
  have hl := h.1
  unfold spec_l1Cur_next.f
  rw [w64 (n := s1 + 1) (by omega) (by omega)]
  by_cases c : s1 < (l.length : Int)
  · rw [if_pos c, if_pos h0, if_pos (by omega), w64 (n := rd l s1) (by omega) (by omega)]
    exact ⟨_, _, rfl, hr.1, hr.2⟩
  · rw [if_neg c, if_neg (by omega)]
    refine ⟨_, _, rfl, ?_⟩
    have := and_u64_255 ((IntKind.u64.wrap ((IntKind.u64.wrap ((IntKind.u64.wrap (s2 * 6364136223846793005)))) + 1442695040888963407)) / 1099511627776)
    rw [w64 (by omega) (by omega)]
    exact this
theorem pick_ok {l : List Int} (h : Bytes l) (s1 s2 n : Int) (h0 : 0 ≤ s1) (h1 : s1 ≤ 900000000) :
    ∃ x s1' s2', spec_l1Cur_pick.f l s1 s2 n = some (x, s1', s2') ∧ s1 ≤ s1' ∧ s1' ≤ s1 + 2 ∧ 0 ≤ x ∧ (1 ≤ n → x < n) ∧ x ≤ 65535 := by
  unfold spec_l1Cur_pick.f
  by_cases c : n ≤ 1
  · rw [if_pos c]; exact ⟨_, _, _, rfl, by omega, by omega, by omega, fun _ => by omega, by omega⟩
  · rw [if_neg c]
    obtain ⟨b, t, hb, b0, b1⟩ := next_ok h s1 s2 h0 (by omega)
    rw [hb]; simp only [Option.bind_some]
    by_cases d : n > 200
    · rw [if_pos d]
      obtain ⟨b', t', hb', b0', b1'⟩ := next_ok h (s1 + 1) t (by omega) (by omega)
      rw [hb']; simp only [Option.bind_some]
      rw [if_neg (by omega), w64 (n := b * 256) (by omega) (by omega), w64 (n := b * 256 + b') (by omega) (by omega), Int.tmod_eq_emod_of_nonneg (by omega)]
      have m := emod_in (b * 256 + b') n (by omega)
      have m2 : (b * 256 + b') % n ≤ b * 256 + b' := by
        have e1 := Int.mul_ediv_add_emod (b * 256 + b') n
        have e2 : 0 ≤ n * ((b * 256 + b') / n) := Int.mul_nonneg (by omega) (Int.ediv_nonneg (by omega) (by omega))
        omega
      exact ⟨_, _, _, rfl, by omega, by omega, by omega, fun _ => by omega, by omega⟩
    · rw [if_neg d, if_neg (by omega), Int.tmod_eq_emod_of_nonneg (by omega)]
      have m := emod_in b n (by omega)
      exact ⟨_, _, _, rfl, by omega, by omega, by omega, fun _ => by omega, by omega⟩
theorem one_ok {l : List Int} (h : Bytes l) (s1 s2 n : Int) (h0 : 0 ≤ s1) (h1 : s1 ≤ 900000000) :
    ∃ b s1' s2', spec_l1Cur_one.f l s1 s2 n = some (b, s1', s2') ∧ s1 ≤ s1' ∧ s1' ≤ s1 + 2 := by
  unfold spec_l1Cur_one.f
  obtain ⟨x, s1', s2', e, a, b, _⟩ := pick_ok h s1 s2 n h0 h1
  rw [e]; exact ⟨_, _, _, rfl, a, b⟩
theorem among_ok {l : List Int} (h : Bytes l) (s1 s2 : Int) (q : List Int) (hq : 1 ≤ q.length) (h0 : 0 ≤ s1) (h1 : s1 ≤ 900000000) :
    ∃ x s1' s2', spec_l1Cur_among.f l s1 s2 q = some (x, s1', s2') ∧ s1 ≤ s1' ∧ s1' ≤ s1 + 2 ∧ x ∈ q := by
  unfold spec_l1Cur_among.f
  obtain ⟨x, s1', s2', e, a, b, x0, x1, _⟩ := pick_ok h s1 s2 (q.length : Int) h0 h1
  have x1 := x1 (by omega)
  rw [e]; simp only [Option.bind_some]
  rw [if_pos x0, if_pos x1]
  refine ⟨_, _, _, rfl, a, b, ?_⟩
  have hl : x.toNat < q.length := by omega
  unfold rd
  rw [List.getD_eq_getElem?_getD, List.getElem?_eq_getElem hl]
  exact List.getElem_mem hl
theorem word_ok {l : List Int} (h : Bytes l) (s1 s2 : Int) (h0 : 0 ≤ s1) (h1 : s1 ≤ 800000000) :
    ∃ x s1' s2', spec_l1Cur_word.f l s1 s2 = some (x, s1', s2') ∧ s1 ≤ s1' ∧ s1' ≤ s1 + 6 ∧ -1 ≤ x ∧ x ≤ 65536 := by
  unfold spec_l1Cur_word.f
  obtain ⟨b, t1, t2, e, a1, a2⟩ := one_ok h s1 s2 3 h0 (by omega)
  rw [e]; simp only [Option.bind_some]
  by_cases c : b = true
  · rw [if_pos c]
    obtain ⟨x, u1, u2, e', b1, b2, hx⟩ := among_ok h t1 t2 [(-1), 0, 1, 2, 3, 32767, 32768, 32769, 65534, 65535, 65536] (by decide) (by omega) (by omega)
    rw [e']; refine ⟨_, _, _, rfl, by show s1 ≤ u1; omega, by show u1 ≤ s1 + 6; omega, ?_⟩
    show -1 ≤ x ∧ x ≤ 65536
    simp at hx; omega
  · rw [if_neg c]
    obtain ⟨x, u1, u2, e', b1, b2, x0, x1, _⟩ := pick_ok h t1 t2 256 (by omega) (by omega)
    rw [e']; simp only [Option.bind_some]
    obtain ⟨y, v1, v2, e2, c1, c2, y0, y1, _⟩ := pick_ok h u1 u2 256 (by omega) (by omega)
    rw [e2]
    have x1 := x1 (by omega)
    have y1 := y1 (by omega)
    refine ⟨_, _, _, rfl, by show s1 ≤ v1; omega, by show v1 ≤ s1 + 6; omega, ?_⟩
    show -1 ≤ wrap64 (wrap64 (x * 256) + y) ∧ wrap64 (wrap64 (x * 256) + y) ≤ 65536
    rw [w64 (n := x * 256) (by omega) (by omega), w64 (by omega) (by omega)]; omega
def tg (a : Int) : Bool := decide (0 ≤ a ∧ a ≤ 65535 ∧ a % 2 = 1)
def num (a : Int) : Int := (if a > 32767 then a - 65536 else a) / 2
def tw (n : Int) : Int × Bool := if -16384 ≤ n ∧ n ≤ 16383 then ((2 * n + 1) % 65536, true) else (0, false)

theorem tg_iff {a : Int} : tg a = true ↔ 0 ≤ a ∧ a ≤ 65535 ∧ a % 2 = 1 := by simp [tg]
theorem tg_not {a : Int} : tg a = false ↔ ¬ (0 ≤ a ∧ a ≤ 65535 ∧ a % 2 = 1) := by simp [tg]

theorem s_in (a l h : Int) : spec_l1In.f a l h = some (decide (l ≤ a ∧ a ≤ h)) := by
  unfold spec_l1In.f
  by_cases c : a ≥ l
  · rw [if_pos c]; simp [show l ≤ a from c]
  · rw [if_neg c]; simp; omega
theorem i_in (a l h : Int) : impl_in.f a l h = some (decide (l ≤ a ∧ a ≤ h)) := by
  unfold impl_in.f
  by_cases c : a ≥ l
  · rw [if_pos c]; simp [show l ≤ a from c]
  · rw [if_neg c]; simp; omega

theorem s_small (a : Int) : spec_IsSmall.f a = some (tg a) := by
  unfold spec_IsSmall.f spec_l1Word.f
  rw [s_in]; simp only [Option.bind_some]
  by_cases c : 0 ≤ a ∧ a ≤ 65535
  · rw [if_pos (by simpa using c), and1]
    congr 1
    rw [Bool.eq_iff_iff, tg_iff]; simp; omega
  · rw [if_neg (by simpa using c), (tg_not (a := a)).2 (by omega)]

theorem num_lo {a : Int} (h : tg a = true) : -16384 ≤ num a := by
  have := tg_iff.1 h; unfold num; split <;> omega
theorem num_hi {a : Int} (h : tg a = true) : num a ≤ 16383 := by
  have := tg_iff.1 h; unfold num; split <;> omega

theorem s_untag (a : Int) : spec_UntagSmall.f a = some (if tg a = true then (num a, true) else (0, false)) := by
  unfold spec_UntagSmall.f
  rw [s_small]; simp only [Option.bind_some]
  by_cases c : tg a = true
  · have b := tg_iff.1 c
    rw [if_pos c, if_pos c]
    unfold spec_l1Signed.f num
    by_cases d : a ≥ 32768
    · rw [if_pos d, if_pos (by omega), w64 (by omega) (by omega)]; rfl
    · rw [if_neg d, if_neg (by omega)]; rfl
  · rw [if_neg c, if_neg c]

theorem i_tagged (a : Int) : impl_isTagged.f a = some (tg a) := by
  unfold impl_isTagged.f impl_isWord.f
  rw [i_in]; simp only [Option.bind_some]
  by_cases c : 0 ≤ a ∧ a ≤ 65535
  · rw [if_pos (by simpa using c), Int.tmod_eq_emod_of_nonneg c.1]
    congr 1
    rw [Bool.eq_iff_iff, tg_iff]; simp; omega
  · rw [if_neg (by simpa using c), (tg_not (a := a)).2 (by omega)]

theorem tdiv2 (x : Int) (h : x % 2 = 0) : Int.tdiv x 2 = x / 2 := by
  rw [Int.tdiv_eq_ediv]
  have : (2 : Int) ∣ x := Int.dvd_of_emod_eq_zero h
  simp [this]

theorem i_untag {a : Int} (h : tg a = true) : impl_untag.f a = some (num a) := by
  have b := tg_iff.1 h
  unfold impl_untag.f num
  by_cases d : a > 32767
  · rw [if_pos d, if_pos d, w64 (n := a - 65536) (by omega) (by omega), w64 (n := a - 65536 - 1) (by omega) (by omega), tdiv2 _ (by omega), w64 (by omega) (by omega)]
    congr 1; omega
  · rw [if_neg d, if_neg d, w64 (n := a - 1) (by omega) (by omega), tdiv2 _ (by omega), w64 (by omega) (by omega)]
    congr 1; omega

theorem s_tag (n : Int) (h0 : -1000000000 ≤ n) (h1 : n ≤ 1000000000) : spec_TagSmall.f n = some (tw n) := by
  unfold spec_TagSmall.f spec_l1Small.f tw
  rw [s_in]; simp only [Option.bind_some]
  by_cases c : -16384 ≤ n ∧ n ≤ 16383
  · rw [if_pos (by simpa using c), if_pos c, and65535, w64 (n := 2 * n) (by omega) (by omega), w64 (by omega) (by omega)]
  · rw [if_neg (by simpa using c), if_neg c]

theorem tw_num {a : Int} (h : tg a = true) : (2 * num a + 1) % 65536 = a := by
  have := tg_iff.1 h; unfold num; split <;> omega
theorem num_tw {n : Int} (h0 : -16384 ≤ n) (h1 : n ≤ 16383) : tg ((2 * n + 1) % 65536) = true ∧ num ((2 * n + 1) % 65536) = n := by
  refine ⟨tg_iff.2 (by omega), ?_⟩
  unfold num; split <;> omega
theorem tw_in {n : Int} (h : -16384 ≤ n ∧ n ≤ 16383) : tw n = ((2 * n + 1) % 65536, true) := by unfold tw; rw [if_pos h]
theorem tw_out {n : Int} (h : ¬ (-16384 ≤ n ∧ n ≤ 16383)) : tw n = (0, false) := by unfold tw; rw [if_neg h]
theorem i_tag (n : Int) (h0 : -1000000000 ≤ n) (h1 : n ≤ 1000000000) : impl_TagSmall.f n = some (tw n) := by
  unfold impl_TagSmall.f impl_isSmall.f impl_tag.f tw
  rw [i_in]; simp only [Option.bind_some]
  by_cases c : -16384 ≤ n ∧ n ≤ 16383
  · rw [if_pos (by simpa using c), if_pos c, and65535, w64 (n := 2 * n) (by omega) (by omega), w64 (by omega) (by omega)]
  · rw [if_neg (by simpa using c), if_neg c]
theorem i_UntagSmall (a : Int) : impl_UntagSmall.f a = some (if tg a = true then (num a, true) else (0, false)) := by
  unfold impl_UntagSmall.f
  rw [i_tagged]; simp only [Option.bind_some]
  by_cases c : tg a = true
  · rw [if_pos c, if_pos c, i_untag c]; rfl
  · rw [if_neg c, if_neg c]
theorem i_IsSmall (a : Int) : impl_IsSmall.f a = some (tg a) := by
  unfold impl_IsSmall.f
  rw [i_tagged]; rfl
/-- An address's word. -/
def ta (a : Int) : Bool := decide (0 ≤ a ∧ a ≤ 65535 ∧ a % 2 = 0)
theorem ta_iff {a : Int} : ta a = true ↔ 0 ≤ a ∧ a ≤ 65535 ∧ a % 2 = 0 := by simp [ta]
theorem ta_not {a : Int} : ta a = false ↔ ¬ (0 ≤ a ∧ a ≤ 65535 ∧ a % 2 = 0) := by simp [ta]
def un (a : Int) : Int × Bool := if ta a = true then (a / 2, true) else (0, false)
theorem i_addr (a : Int) : impl_UntagAddr.f a = some (un a) := by
  unfold impl_UntagAddr.f impl_isWord.f un
  rw [i_in]; simp only [Option.bind_some]
  by_cases c : 0 ≤ a ∧ a ≤ 65535
  · rw [if_pos (by simpa using c), Int.tmod_eq_emod_of_nonneg c.1]
    by_cases d : a % 2 = 1
    · rw [if_pos d, if_neg (by rw [ta_iff]; omega)]
    · rw [if_neg d, if_pos (ta_iff.2 (by omega)), tdiv2 _ (by omega), w64 (by omega) (by omega)]
  · rw [if_neg (by simpa using c), if_neg (by rw [ta_iff]; omega)]
theorem s_addr (a : Int) : spec_UntagAddr.f a = some (un a) := by
  unfold spec_UntagAddr.f spec_l1Word.f un
  rw [s_in]; simp only [Option.bind_some]
  by_cases c : 0 ≤ a ∧ a ≤ 65535
  · rw [if_pos (by simpa using c), and1]
    by_cases d : a % 2 = 1
    · rw [if_pos d, if_neg (by rw [ta_iff]; omega)]
    · rw [if_neg d, if_pos (ta_iff.2 (by omega)), tdiv2 _ (by omega), w64 (by omega) (by omega)]
  · rw [if_neg (by simpa using c), if_neg (by rw [ta_iff]; omega)]
def tad (a : Int) : Int × Bool := if 0 ≤ a ∧ a ≤ 32767 then (2 * a, true) else (0, false)
theorem i_TagAddr (a : Int) : impl_TagAddr.f a = some (tad a) := by
  unfold impl_TagAddr.f tad
  rw [i_in]; simp only [Option.bind_some]
  by_cases c : 0 ≤ a ∧ a ≤ 32767
  · rw [if_pos (by simpa using c), if_pos c, w64 (by omega) (by omega)]
  · rw [if_neg (by simpa using c), if_neg c]
theorem s_TagAddr (a : Int) : spec_TagAddr.f a = some (tad a) := by
  unfold spec_TagAddr.f tad
  rw [s_in]; simp only [Option.bind_some]
  by_cases c : 0 ≤ a ∧ a ≤ 32767
  · rw [if_pos (by simpa using c), if_pos c, w64 (by omega) (by omega)]
  · rw [if_neg (by simpa using c), if_neg c]

/-! ### how many ones -/
/-- The ones of a word's sixteen bits. -/
def cnt : Nat → Nat → Nat
  | 0, _ => 0
  | f + 1, x => x % 2 + cnt f (x / 2)
theorem cnt_zero : ∀ f, cnt f 0 = 0
  | 0 => rfl
  | f + 1 => by simp [cnt, cnt_zero f]
theorem cnt_more : ∀ (f x : Nat), x < 2 ^ f → ∀ j, cnt (f + j) x = cnt f x
  | 0, x, h, j => by
    obtain rfl : x = 0 := by simpa using h
    rw [cnt_zero, cnt_zero]
  | f + 1, x, h, j => by
    rw [show f + 1 + j = (f + j) + 1 by omega]
    simp only [cnt]
    rw [cnt_more f (x / 2) (by rw [Nat.pow_succ] at h; omega) j]
theorem cnt_shift : ∀ (j f x : Nat), cnt (f + j) (2 ^ j * x) = cnt f x
  | 0, f, x => by simp
  | j + 1, f, x => by
    rw [show f + (j + 1) = (f + j) + 1 by omega]
    simp only [cnt]
    have e : 2 ^ (j + 1) * x = 2 * (2 ^ j * x) := by rw [Nat.pow_succ]; simp [Nat.mul_comm, Nat.mul_left_comm]
    rw [e, show 2 * (2 ^ j * x) % 2 = 0 by omega, show 2 * (2 ^ j * x) / 2 = 2 ^ j * x by omega, cnt_shift j f x]; simp
/-- math/bits' sum of a word, as it is written there. -/
def pop (n : Nat) : Nat :=
  let x1 := Nat.add (Nat.land (Nat.div n 2) 6148914691236517205) (Nat.land n 6148914691236517205)
  let x2 := Nat.add (Nat.land (Nat.div x1 4) 3689348814741910323) (Nat.land x1 3689348814741910323)
  let x3 := Nat.land (Nat.add (Nat.div x2 16) x2) 1085102592571150095
  let x4 := Nat.add x3 (Nat.div x3 256)
  let x5 := Nat.add x4 (Nat.div x4 65536)
  let x6 := Nat.add x5 (Nat.div x5 4294967296)
  Nat.land x6 127
def c16 (n : Nat) : Nat :=
  Nat.add (Nat.mod n 2) (Nat.add (Nat.mod (Nat.div n 2) 2) (Nat.add (Nat.mod (Nat.div n 4) 2) (Nat.add (Nat.mod (Nat.div n 8) 2) (Nat.add (Nat.mod (Nat.div n 16) 2) (Nat.add (Nat.mod (Nat.div n 32) 2) (Nat.add (Nat.mod (Nat.div n 64) 2) (Nat.add (Nat.mod (Nat.div n 128) 2)
    (Nat.add (Nat.mod (Nat.div n 256) 2) (Nat.add (Nat.mod (Nat.div n 512) 2) (Nat.add (Nat.mod (Nat.div n 1024) 2) (Nat.add (Nat.mod (Nat.div n 2048) 2) (Nat.add (Nat.mod (Nat.div n 4096) 2) (Nat.add (Nat.mod (Nat.div n 8192) 2) (Nat.add (Nat.mod (Nat.div n 16384) 2) (Nat.mod (Nat.div n 32768) 2)))))))))))))))
def upto : Nat → (Nat → Bool) → Bool
  | 0, _ => true
  | k + 1, p => p k && upto k p
theorem upto_ok {p : Nat → Bool} : ∀ {k : Nat}, upto k p = true → ∀ j, j < k → p j = true
  | 0, _, j, hj => by omega
  | k + 1, h, j, hj => by
    simp only [upto, Bool.and_eq_true] at h
    rcases Nat.lt_succ_iff_lt_or_eq.1 hj with hlt | rfl
    · exact upto_ok h.2 j hlt
    · exact h.1
theorem pop_all : upto 256 (fun a => upto 256 fun b => Nat.beq (pop (Nat.add (Nat.mul 256 a) b)) (c16 (Nat.add (Nat.mul 256 a) b))) = true := by decide +kernel
theorem pop_c16 (n : Nat) (h : n < 65536) : pop n = c16 n := by
  have h1 := upto_ok (upto_ok pop_all (n / 256) (by omega)) (n % 256) (by omega)
  have e : Nat.add (Nat.mul 256 (n / 256)) (n % 256) = n := Nat.div_add_mod n 256
  rw [e] at h1
  exact Nat.eq_of_beq_eq_true h1
theorem c16_cnt (n : Nat) : c16 n = cnt 16 n := by
  simp only [cnt, Nat.div_div_eq_div_mul]
  show _ = _
  unfold c16
  rfl
theorem and_nat (a b : Nat) (ha : a < 18446744073709551616) (hb : b < 18446744073709551616) : Go.bits .and .u64 (a : Int) (b : Int) = ((a &&& b : Nat) : Int) := bits_and_u64_nat a b ha hb
theorem wrap_nat (a : Nat) (ha : a < 18446744073709551616) : IntKind.u64.wrap (a : Int) = (a : Int) := by
  have hw : IntKind.u64.wrap (a : Int) = (a : Int) % 18446744073709551616 := by simp [IntKind.wrap, IntKind.bits, IntKind.signed]
  rw [hw]; omega
theorem i_ones (n : Nat) (h : n < 65536) : bits_OnesCount64.f (n : Int) = some (cnt 16 n : Int) := by
  rw [← c16_cnt, ← pop_c16 n h]
  unfold bits_OnesCount64.f pop
  have m : ∀ a b : Nat, a &&& b ≤ a := fun a b => Nat.and_le_left
  have k0 : ((6148914691236517205 : Nat) : Int) = 6148914691236517205 := rfl
  have k1 : ((3689348814741910323 : Nat) : Int) = 3689348814741910323 := rfl
  have k2 : ((1085102592571150095 : Nat) : Int) = 1085102592571150095 := rfl
  have e1 : Go.bits .and .u64 ((n : Int) / 2) 6148914691236517205 = ((n / 2 &&& 6148914691236517205 : Nat) : Int) := by
    rw [show (n : Int) / 2 = ((n / 2 : Nat) : Int) by omega, ← k0, and_nat _ _ (by omega) (by omega)]
  have e2 : Go.bits .and .u64 (n : Int) 6148914691236517205 = ((n &&& 6148914691236517205 : Nat) : Int) := by rw [← k0, and_nat _ _ (by omega) (by omega)]
  have b1 := m (n / 2) 6148914691236517205
  have b2 := m n 6148914691236517205
  rw [e1, e2]
  generalize hx : (n / 2 &&& 6148914691236517205) + (n &&& 6148914691236517205) = x1
  have e3 : IntKind.u64.wrap (((n / 2 &&& 6148914691236517205 : Nat) : Int) + ((n &&& 6148914691236517205 : Nat) : Int)) = (x1 : Int) := by
    rw [show ((n / 2 &&& 6148914691236517205 : Nat) : Int) + ((n &&& 6148914691236517205 : Nat) : Int) = (x1 : Int) by omega, wrap_nat _ (by omega)]
  rw [e3]
  have hb1 : x1 < 200000 := by omega
  have e4 : Go.bits .and .u64 ((x1 : Int) / 4) 3689348814741910323 = ((x1 / 4 &&& 3689348814741910323 : Nat) : Int) := by
    rw [show (x1 : Int) / 4 = ((x1 / 4 : Nat) : Int) by omega, ← k1, and_nat _ _ (by omega) (by omega)]
  have e5 : Go.bits .and .u64 (x1 : Int) 3689348814741910323 = ((x1 &&& 3689348814741910323 : Nat) : Int) := by rw [← k1, and_nat _ _ (by omega) (by omega)]
  have b3 := m (x1 / 4) 3689348814741910323
  have b4 := m x1 3689348814741910323
  rw [e4, e5]
  generalize hx2 : (x1 / 4 &&& 3689348814741910323) + (x1 &&& 3689348814741910323) = x2
  have e6 : IntKind.u64.wrap (((x1 / 4 &&& 3689348814741910323 : Nat) : Int) + ((x1 &&& 3689348814741910323 : Nat) : Int)) = (x2 : Int) := by
    rw [show ((x1 / 4 &&& 3689348814741910323 : Nat) : Int) + ((x1 &&& 3689348814741910323 : Nat) : Int) = (x2 : Int) by omega, wrap_nat _ (by omega)]
  rw [e6]
  have hb2 : x2 < 400000 := by omega
  have e7 : IntKind.u64.wrap ((x2 : Int) / 16 + (x2 : Int)) = ((x2 / 16 + x2 : Nat) : Int) := by
    rw [show (x2 : Int) / 16 + (x2 : Int) = ((x2 / 16 + x2 : Nat) : Int) by omega, wrap_nat _ (by omega)]
  rw [e7]
  have e8 : Go.bits .and .u64 ((x2 / 16 + x2 : Nat) : Int) 1085102592571150095 = ((x2 / 16 + x2 &&& 1085102592571150095 : Nat) : Int) := by rw [← k2, and_nat _ _ (by omega) (by omega)]
  rw [e8]
  have b5 := m (x2 / 16 + x2) 1085102592571150095
  generalize hx3 : (x2 / 16 + x2 &&& 1085102592571150095) = x3 at b5 ⊢
  have e9 : IntKind.u64.wrap ((x3 : Int) + (x3 : Int) / 256) = ((x3 + x3 / 256 : Nat) : Int) := by
    rw [show (x3 : Int) + (x3 : Int) / 256 = ((x3 + x3 / 256 : Nat) : Int) by omega, wrap_nat _ (by omega)]
  rw [e9]
  generalize hx4 : x3 + x3 / 256 = x4
  have e10 : IntKind.u64.wrap ((x4 : Int) + (x4 : Int) / 65536) = ((x4 + x4 / 65536 : Nat) : Int) := by
    rw [show (x4 : Int) + (x4 : Int) / 65536 = ((x4 + x4 / 65536 : Nat) : Int) by omega, wrap_nat _ (by omega)]
  rw [e10]
  generalize hx5 : x4 + x4 / 65536 = x5
  have e11 : IntKind.u64.wrap ((x5 : Int) + (x5 : Int) / 4294967296) = ((x5 + x5 / 4294967296 : Nat) : Int) := by
    rw [show (x5 : Int) + (x5 : Int) / 4294967296 = ((x5 + x5 / 4294967296 : Nat) : Int) by omega, wrap_nat _ (by omega)]
  rw [e11]
  generalize hx6 : x5 + x5 / 4294967296 = x6
  rw [w64 (by omega) (by omega)]
  have e12 : Go.bits .and .i64 (x6 : Int) 127 = ((x6 &&& 127 : Nat) : Int) := by
    rw [show (127 : Int) = 2 ^ 7 - 1 by decide, and_mask 7 (by decide), show (127 : Nat) = 2 ^ 7 - 1 by decide, Nat.and_two_pow_sub_one_eq_mod]
    omega
  rw [e12]
  subst hx6 hx5 hx4 hx3 hx2 hx
  rfl
theorem word_pair {a : Int} : (0 ≤ a ∧ a ≤ 65535) ↔ ∃ n : Nat, a = n ∧ n < 65536 := by
  constructor
  · intro h
    obtain ⟨n, rfl⟩ := Int.eq_ofNat_of_zero_le h.1
    exact ⟨n, rfl, by omega⟩
  · rintro ⟨n, rfl, h⟩; omega
theorem i_count (n : Nat) (h : n < 65536) : impl_CountOnes.f (n : Int) = some ((cnt 16 n : Int), true) := by
  unfold impl_CountOnes.f impl_isWord.f bits_OnesCount.f
  rw [i_in]; simp only [Option.bind_some]
  rw [if_pos (by simp; omega), wrap_nat n (by omega), i_ones n h]; rfl
theorem i_count_no (a : Int) (h : ¬ (0 ≤ a ∧ a ≤ 65535)) : impl_CountOnes.f a = some (0, false) := by
  unfold impl_CountOnes.f impl_isWord.f
  rw [i_in]; simp only [Option.bind_some]
  rw [if_neg (by simpa using h)]
theorem s_loop (f : Nat) : ∀ (k n : Nat) (c : Int), n < 2 ^ f → f ≤ 40 → f < k → -1000 ≤ c → c ≤ 1000000 - 100 * f → spec_CountOnes.l0 k (n : Int) c = some (c + cnt f n, true) := by
  induction f with
  | zero =>
    intro k n c h _ hk _ _
    obtain ⟨k, rfl⟩ : ∃ m, k = m + 1 := ⟨k - 1, by omega⟩
    obtain rfl : n = 0 := by simpa using h
    simp only [spec_CountOnes.l0]; rw [if_neg (by decide)]; simp [cnt]
  | succ f ih =>
    intro k n c h hf hk c0 c1
    obtain ⟨k, rfl⟩ : ∃ m, k = m + 1 := ⟨k - 1, by omega⟩
    simp only [spec_CountOnes.l0]
    by_cases d : (n : Int) > 0
    · rw [if_pos d, and1, w64 (by omega) (by omega), show (n : Int) / 2 = ((n / 2 : Nat) : Int) by omega, ih k (n / 2) _ (by rw [Nat.pow_succ] at h; omega) (by omega) (by omega) (by omega) (by omega)]
      simp only [cnt]
      congr 2
      omega
    · obtain rfl : n = 0 := by omega
      rw [if_neg d, cnt_zero]; simp
theorem s_count (k n : Nat) (h : n < 65536) (hk : 16 < k) : spec_CountOnes.f k (n : Int) = some ((cnt 16 n : Int), true) := by
  unfold spec_CountOnes.f spec_l1Word.f
  rw [s_in]; simp only [Option.bind_some]
  rw [if_pos (by simp; omega), s_loop 16 k n 0 h (by decide) hk (by decide) (by decide)]; simp
theorem s_count_no (k : Nat) (a : Int) (h : ¬ (0 ≤ a ∧ a ≤ 65535)) : spec_CountOnes.f k a = some (0, false) := by
  unfold spec_CountOnes.f spec_l1Word.f
  rw [s_in]; simp only [Option.bind_some]
  rw [if_neg (by simpa using h)]
/-! ### the lowest one -/
theorem i_low (n : Nat) (h : n < 65536) (h0 : n ≠ 0) : impl_LowestOne.f (n : Int) = some ((Lib.ctz 64 n : Int), true) := by
  unfold impl_LowestOne.f impl_isWord.f
  rw [i_in]; simp only [Option.bind_some]
  rw [if_pos (by simp; omega), if_neg (by omega)]; rfl
theorem i_low_no (a : Int) (h : ¬ (0 < a ∧ a ≤ 65535)) : impl_LowestOne.f a = some (0, false) := by
  unfold impl_LowestOne.f impl_isWord.f
  rw [i_in]; simp only [Option.bind_some]
  by_cases c : 0 ≤ a ∧ a ≤ 65535
  · rw [if_pos (by simpa using c), if_pos (by omega)]
  · rw [if_neg (by simpa using c)]
theorem low_loop (j : Nat) : ∀ (k m : Nat) (c : Int), j < k → j ≤ 1000 → 0 ≤ c → c ≤ 1000000 - j → spec_LowestOne.l0 k ((2 ^ j * (2 * m + 1) : Nat) : Int) c = some (c + j, true) := by
  induction j with
  | zero =>
    intro k m c hk _ _ _
    obtain ⟨k, rfl⟩ : ∃ m, k = m + 1 := ⟨k - 1, by omega⟩
    simp only [spec_LowestOne.l0]; rw [and1, if_neg (by rw [Nat.pow_zero]; omega)]; simp
  | succ j ih =>
    intro k m c hk hj c0 c1
    obtain ⟨k, rfl⟩ : ∃ m, k = m + 1 := ⟨k - 1, by omega⟩
    have e : 2 ^ (j + 1) * (2 * m + 1) = 2 * (2 ^ j * (2 * m + 1)) := by rw [Nat.pow_succ]; simp [Nat.mul_comm, Nat.mul_left_comm]
    rw [e]
    have ih' := ih k m (c + 1) (by omega) (by omega) (by omega) (by omega)
    generalize 2 ^ j * (2 * m + 1) = x at ih' ⊢
    simp only [spec_LowestOne.l0]
    rw [and1, if_pos (by omega), w64 (by omega) (by omega), show ((2 * x : Nat) : Int) / 2 = (x : Int) by omega, ih']
    congr 2
    omega
theorem ctz_spec (n : Nat) (h : n < 65536) (h0 : n ≠ 0) : ∃ m, n = 2 ^ Lib.ctz 64 n * (2 * m + 1) ∧ Lib.ctz 64 n < 16 := by
  unfold Lib.ctz
  rw [if_neg h0]
  obtain ⟨m, hm, hf⟩ := Lib.ctzFrom_spec 64 n (by omega) (by omega)
  refine ⟨m, hm, ?_⟩
  rcases Nat.lt_or_ge (Lib.ctzFrom 64 n) 16 with hlt | hge
  · exact hlt
  · exfalso
    have h1 : 2 ^ 16 ≤ 2 ^ Lib.ctzFrom 64 n := Nat.pow_le_pow_right (by decide) hge
    have h2 : 2 ^ Lib.ctzFrom 64 n * 1 ≤ 2 ^ Lib.ctzFrom 64 n * (2 * m + 1) := Nat.mul_le_mul_left _ (by omega)
    omega
theorem s_low (k n : Nat) (h : n < 65536) (h0 : n ≠ 0) (hk : 20 < k) : spec_LowestOne.f k (n : Int) = some ((Lib.ctz 64 n : Int), true) := by
  obtain ⟨k, rfl⟩ : ∃ m, k = m + 1 := ⟨k - 1, by omega⟩
  obtain ⟨m, hm, hj⟩ := ctz_spec n h h0
  unfold spec_LowestOne.f spec_l1Word.f
  rw [s_in]; simp only [Option.bind_some]
  rw [if_pos (by simp; omega)]
  simp only [spec_LowestOne.j0]
  rw [if_neg (by simp; omega)]
  generalize Lib.ctz 64 n = j at *
  rw [hm, low_loop j k m 0 (by omega) (by omega) (by omega) (by omega)]; simp
theorem s_low_no (k : Nat) (a : Int) (h : ¬ (0 < a ∧ a ≤ 65535)) : spec_LowestOne.f (k + 1) a = some (0, false) := by
  unfold spec_LowestOne.f spec_l1Word.f
  rw [s_in]; simp only [Option.bind_some]
  by_cases c : 0 ≤ a ∧ a ≤ 65535
  · rw [if_pos (by simpa using c)]; simp only [spec_LowestOne.j0]; rw [if_pos (by simp; omega)]
  · rw [if_neg (by simpa using c)]; simp [spec_LowestOne.j0]
/-- Less its lowest one a word has one one less, and the lowest one is one. -/
theorem low_less (n : Nat) (h : n < 65536) (h0 : n ≠ 0) : ∃ j : Nat, Lib.ctz 64 n = j ∧ j < 16 ∧ 2 ^ j ≤ n ∧ cnt 16 (n - 2 ^ j) + 1 = cnt 16 n ∧ n / 2 ^ j % 2 = 1 := by
  obtain ⟨m, hm, hj⟩ := ctz_spec n h h0
  refine ⟨_, rfl, hj, ?_⟩
  generalize Lib.ctz 64 n = j at *
  have hp : 0 < 2 ^ j := Nat.two_pow_pos j
  have e : n - 2 ^ j = 2 ^ j * (2 * m) := by rw [hm, Nat.mul_add, Nat.mul_one]; omega
  refine ⟨?_, ?_, ?_⟩
  · rw [hm]; exact Nat.le_mul_of_pos_right _ (by omega)
  · have c1 := cnt_more 16 n (by omega) 16
    have c2 := cnt_more 16 (n - 2 ^ j) (by omega) 16
    rw [← c1, ← c2, e]
    conv => rhs; rw [hm]
    obtain ⟨f, hf⟩ : ∃ f, 16 + 16 = (f + 1) + j := ⟨31 - j, by omega⟩
    rw [hf, cnt_shift j (f + 1) (2 * m), cnt_shift j (f + 1) (2 * m + 1)]
    show (2 * m % 2 + cnt f (2 * m / 2)) + 1 = (2 * m + 1) % 2 + cnt f ((2 * m + 1) / 2)
    rw [show 2 * m % 2 = 0 by omega, show (2 * m + 1) % 2 = 1 by omega, show 2 * m / 2 = m by omega, show (2 * m + 1) / 2 = m by omega]; omega
  · rw [hm, Nat.mul_div_cancel_left _ hp]; omega
theorem draw_small {l : List Int} (h : Bytes l) : ∃ n, spec_DrawTagSmall.f l = some n ∧ -40000 ≤ n ∧ n ≤ 40000 := by
  unfold spec_DrawTagSmall.f
  obtain ⟨b, t1, t2, e, a1, a2⟩ := one_ok h 0 0 2 (by omega) (by omega)
  rw [e]; simp only [Option.bind_some]
  by_cases c : b = true
  · rw [if_pos c]
    obtain ⟨x, u1, u2, e', b1, b2, hx⟩ := among_ok h t1 t2 [(-16385), (-16384), (-1), 0, 1, 16383, 16384] (by decide) (by omega) (by omega)
    rw [e']; refine ⟨_, rfl, ?_⟩
    show -40000 ≤ x ∧ x ≤ 40000
    simp at hx; omega
  · rw [if_neg c]
    obtain ⟨x, u1, u2, e', b1, b2, x0, x1, _⟩ := pick_ok h t1 t2 30000 (by omega) (by omega)
    have x1 := x1 (by omega)
    rw [e']; refine ⟨_, rfl, ?_⟩
    show -40000 ≤ wrap64 (x - 15000) ∧ wrap64 (x - 15000) ≤ 40000
    rw [w64 (by omega) (by omega)]; omega
theorem draw_word {l : List Int} (h : Bytes l) : ∃ n, spec_DrawUntagSmall.f l = some n ∧ -1 ≤ n ∧ n ≤ 65536 := by
  unfold spec_DrawUntagSmall.f
  obtain ⟨x, t1, t2, e, a1, a2, x0, x1⟩ := word_ok h 0 0 (by omega) (by omega)
  rw [e]; exact ⟨_, rfl, x0, x1⟩
theorem draw_addr {l : List Int} (h : Bytes l) : ∃ n, spec_DrawTagAddr.f l = some n := by
  unfold spec_DrawTagAddr.f
  obtain ⟨x, t1, t2, e, _⟩ := among_ok h 0 0 [(-1), 0, 5, 32767, 32768] (by decide) (by omega) (by omega)
  rw [e]; exact ⟨_, rfl⟩
theorem addr_end {l : List Int} (h : Bytes l) : ((spec_DrawTagAddr.f l).bind fun t216 => ((impl_TagAddr.f t216).bind fun bt217 => ((spec_TagAddr.f t216).bind fun bt219 => (if (bt217.2 == bt219.2) = true then (some (bt217.1 == bt219.1)) else (some false))))) = some true := by
  obtain ⟨n, e⟩ := draw_addr h
  rw [e]; simp only [Option.bind_some]
  rw [i_TagAddr, s_TagAddr]; simp
theorem j6_ok {l : List Int} (h : Bytes l) (k : Nat) : laws_FnTags.j6 (k + 1) l false = some true := by
  simp only [laws_FnTags.j6]; rw [if_neg (by decide)]; exact addr_end h
theorem j5_no {l : List Int} (h : Bytes l) (k : Nat) (v a b : Int) : laws_FnTags.j5 (k + 1) l v a b false false = some true := by
  simp only [laws_FnTags.j5]; rw [if_neg (by decide), if_neg (by decide)]; exact addr_end h
theorem j5_ok {l : List Int} (h : Bytes l) (k n : Nat) (hn : n < 65536) (h0 : n ≠ 0) : laws_FnTags.j5 (k + 2) l (n : Int) (cnt 16 n : Int) (Lib.ctz 64 n : Int) true false = some true := by
  obtain ⟨j, ej, hj, hle, hc, hb⟩ := low_less n hn h0
  obtain ⟨P, hP⟩ : ∃ P : Nat, 2 ^ j = P := ⟨_, rfl⟩
  rw [hP] at hle hc hb
  have hc0 : cnt 16 n ≤ 100000 := by
    have : ∀ f x, cnt f x ≤ f := fun f => by
      induction f with
      | zero => intro x; simp [cnt]
      | succ f ih => intro x; simp only [cnt]; have := ih (x / 2); omega
    have := this 16 n; omega
  have hs : shl .i64 1 (j : Int) = (P : Int) := by
    unfold shl
    rw [Nat.min_eq_left (by show (j : Int).toNat ≤ 64; omega), Int.toNat_natCast, Int.one_mul, show ((2 : Int) ^ j) = (P : Int) by rw [← hP]; simp, IntKind.wrap_i64]
    omega
  have hr : shr .i64 (n : Int) (j : Int) = ((n / P : Nat) : Int) := by
    unfold shr
    rw [Nat.min_eq_left (by show (j : Int).toNat ≤ 64; omega), Int.toNat_natCast, show ((2 : Int) ^ j) = (P : Int) by rw [← hP]; simp]
    simp
  simp only [laws_FnTags.j5]
  rw [if_neg (by decide), if_pos trivial, ej, wrap_nat j (by omega), if_pos (by omega), hs, w64 (n := (n : Int) - (P : Int)) (by omega) (by omega), show (n : Int) - (P : Int) = ((n - P : Nat) : Int) by omega, i_count _ (by omega)]
  simp only [Option.bind_some, if_true]
  rw [if_pos (by rw [w64 (by omega) (by omega)]; omega), hr, and1, show (((n / P : Nat) : Int) % 2 != 1) = false by simp; omega]
  exact j6_ok h k
theorem j4_ok {l : List Int} (h : Bytes l) (k : Nat) (v : Int) (hk : 22 < k) : laws_FnTags.j4 (k + 1) l v = some true := by
  obtain ⟨k, rfl⟩ : ∃ m, k = m + 2 := ⟨k - 2, by omega⟩
  simp only [laws_FnTags.j4]
  by_cases c : 0 ≤ v ∧ v ≤ 65535
  · obtain ⟨n, rfl, hn⟩ := word_pair.1 c
    rw [i_count n hn, s_count (k + 2) n hn (by omega)]; simp only [Option.bind_some]
    by_cases d : n = 0
    · subst d
      rw [i_low_no _ (by omega), s_low_no (k + 1) _ (by omega)]; simp only [Option.bind_some]
      rw [if_neg (by simp), if_pos trivial, if_neg (by simp)]
      exact j5_no h (k + 1) _ _ _
    · rw [i_low n hn d, s_low (k + 2) n hn d (by omega)]; simp only [Option.bind_some]
      rw [if_neg (by simp), if_pos trivial, if_neg (by simp), bne_self_eq_false]
      exact j5_ok h k n hn d
  · rw [i_count_no v c, s_count_no _ v c, i_low_no v (by omega), s_low_no (k + 1) v (by omega)]; simp only [Option.bind_some]
    rw [if_neg (by simp), if_pos trivial, if_neg (by simp)]
    exact j5_no h (k + 1) _ _ _
theorem j3_ok {l : List Int} (h : Bytes l) (k : Nat) (v : Int) (hk : 22 < k) : laws_FnTags.j3 (k + 2) l v (un v).1 (un v).2 = some true := by
  simp only [laws_FnTags.j3]
  unfold un
  by_cases c : ta v = true
  · have hc := ta_iff.1 c
    rw [if_pos c]; dsimp only; rw [if_pos rfl, i_TagAddr]; simp only [Option.bind_some]
    unfold tad
    rw [if_pos (show 0 ≤ v / 2 ∧ v / 2 ≤ 32767 by omega)]; dsimp only; rw [if_pos rfl, if_pos (by omega)]
    exact j4_ok h k v hk
  · rw [if_neg c, if_neg (by decide)]
    exact j4_ok h k v hk
theorem j1_ok {l : List Int} (h : Bytes l) (k : Nat) (hk : 22 < k) : laws_FnTags.j1 (k + 4) l = some true := by
  obtain ⟨v, e, v0, v1⟩ := draw_word h
  simp only [laws_FnTags.j1]
  rw [e]; simp only [Option.bind_some]
  rw [i_UntagSmall, s_untag, i_addr, s_addr]; simp only [Option.bind_some]
  rw [if_neg (by simp), if_pos trivial, if_neg (by simp), if_pos trivial, i_IsSmall]; simp only [Option.bind_some]
  by_cases c : tg v = true
  · have hc := tg_iff.1 c
    have hu : un v = (0, false) := by unfold un; rw [if_neg (by rw [ta_iff]; omega)]
    have hj := j3_ok h k v hk
    rw [hu] at hj ⊢
    rw [if_pos c, c]; dsimp only
    rw [if_neg (by decide), if_pos rfl]
    dsimp only at hj
    simp only [laws_FnTags.j2]
    rw [if_neg (by decide), if_pos trivial, i_tag (num v) (by have := num_lo c; omega) (by have := num_hi c; omega)]; simp only [Option.bind_some]
    rw [tw_in ⟨num_lo c, num_hi c⟩]; dsimp only; rw [if_pos rfl, if_pos (tw_num c)]
    exact hj
  · have hf : tg v = false := by simpa using c
    rw [if_neg c, hf]; dsimp only
    rw [if_neg (by decide), if_neg (by decide)]
    simp only [laws_FnTags.j2]
    rw [if_neg (by decide), if_neg (by decide)]
    exact j3_ok h k v hk
end FnTags
open FnTags in
theorem FnTags : laws_FnTags.Pure := by
  intro l0 l1 _ q0 hw0 _ q1 hw1
  refine ⟨40, ?_⟩
  unfold laws_FnTags.f
  rw [w64 (by omega) (by omega)]
  by_cases hl : (l0.length : Int) + (l1.length : Int) > 1048576
  · rw [if_pos hl]
  rw [if_neg hl]
  have hB0 : Bytes l0 := ⟨by omega, fun x hx => ⟨wf_u8_lo (hw0 x hx), wf_u8_hi (hw0 x hx)⟩⟩
  have hB1 : Bytes l1 := ⟨by omega, fun x hx => ⟨wf_u8_lo (hw1 x hx), wf_u8_hi (hw1 x hx)⟩⟩
  obtain ⟨n, e, n0, n1⟩ := draw_small hB0
  rw [e]; simp only [Option.bind_some]
  rw [i_tag n (by omega) (by omega), s_tag n (by omega) (by omega)]; simp only [Option.bind_some]
  rw [if_neg (by simp), bne_self_eq_false]
  show laws_FnTags.j0 (39 + 1) l1 n (tw n).1 (tw n).2 false = some true
  simp only [laws_FnTags.j0]
  rw [if_neg (by decide)]
  by_cases c : -16384 ≤ n ∧ n ≤ 16383
  · obtain ⟨h1, h2⟩ := num_tw c.1 c.2
    have h3 := tg_iff.1 h1
    rw [tw_in c]; dsimp only; rw [if_pos rfl, i_UntagSmall, i_addr]; simp only [Option.bind_some]
    rw [if_pos h1]; dsimp only; rw [if_pos rfl, if_pos h2]
    have hu : un ((2 * n + 1) % 65536) = (0, false) := by unfold un; rw [if_neg (by rw [ta_iff]; omega)]
    rw [hu]; dsimp only
    rw [if_neg (by decide), i_IsSmall, h1]; simp only [Option.bind_some, if_true]
    exact j1_ok hB1 35 (by decide)
  · rw [tw_out c, if_neg (by decide)]
    exact j1_ok hB1 35 (by decide)

end Go.Proofs.YtoilboodndgeeaaDoor.Pure
