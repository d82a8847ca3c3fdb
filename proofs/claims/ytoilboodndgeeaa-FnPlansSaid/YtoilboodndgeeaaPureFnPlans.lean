/- FnPlans: a row of shifts multiplies rightly, has no two digits side by side, and the program's rows and products are the reference's: for all drawn bytes. No condition. -/
import Derived.Test.YtoilboodndgeeaaPFnPlansx4
import Derived.Test.YtoilboodndgeeaaPlain
namespace Go.Proofs.Ytoilboodndgeeaa.Pure
open Go.RowKit Go.Proofs.Ytoilboodndgeeaa.PFnPlans Go.Proofs.YtoilboodndgeeaaW.PrintWords Go.Proofs.YtoilboodndgeeaaW.PrintLast Go.Proofs.YtoilboodndgeeaaW.PrintMore Go.Proofs.Ytoilboodndgeeaa.Plain

namespace FnPlans
theorem s_in (a l h : Int) : spec_l1In.f a l h = some (decide (l ≤ a ∧ a ≤ h)) := by
  unfold spec_l1In.f
  by_cases c : a ≥ l
  · rw [if_pos c]; simp [show l ≤ a from c]
  · rw [if_neg c]; simp; omega
theorem i_in (a l h : Int) : impl_in.f a l h = some (decide (l ≤ a ∧ a ≤ h)) := by
  unfold impl_in.f
  by_cases c : a ≥ l
  · rw [if_pos c]; simp [show l ≤ a from c]
  · rw [if_neg c]; simp; omega
/-- What is known of drawn bytes. -/
def Bytes (l : List Int) : Prop := l.length ≤ 1048576 ∧ ∀ x ∈ l, 0 ≤ x ∧ x ≤ 255
theorem bytes_rd {l : List Int} (h : Bytes l) (i : Int) : 0 ≤ rd l i ∧ rd l i ≤ 255 := by
  unfold rd
  rw [List.getD_eq_getElem?_getD]
  by_cases c : i.toNat < l.length
  · rw [List.getElem?_eq_getElem c]; exact h.2 _ (List.getElem_mem c)
  · rw [List.getElem?_eq_none (by omega)]; simp
theorem next_ok {l : List Int} (h : Bytes l) (s1 s2 : Int) (h0 : 0 ≤ s1) (h1 : s1 ≤ 1000000000) :
    ∃ b s2', spec_l1Cur_next.f l s1 s2 = some (b, s1 + 1, s2') ∧ 0 ≤ b ∧ b ≤ 255 := by
  have hr := bytes_rd h s1
  have hl := h.1
  unfold spec_l1Cur_next.f
  rw [w64 (n := s1 + 1) (by omega) (by omega)]
  by_cases c : s1 < (l.length : Int)
  · rw [if_pos c, if_pos h0, if_pos (by omega), w64 (n := rd l s1) (by omega) (by omega)]
    exact ⟨_, _, rfl, hr.1, hr.2⟩
  · rw [if_neg c, if_neg (by omega)]
    refine ⟨_, _, rfl, ?_⟩
    have := and_u64_255 ((IntKind.u64.wrap ((IntKind.u64.wrap ((IntKind.u64.wrap (s2 * 6364136223846793005)))) + 1442695040888963407)) / 1099511627776)
    rw [w64 (by omega) (by omega)]
    exact this
theorem pick_ok {l : List Int} (h : Bytes l) (s1 s2 n : Int) (h0 : 0 ≤ s1) (h1 : s1 ≤ 900000000) :
    ∃ x s1' s2', spec_l1Cur_pick.f l s1 s2 n = some (x, s1', s2') ∧ s1 ≤ s1' ∧ s1' ≤ s1 + 2 ∧ 0 ≤ x ∧ (1 ≤ n → x < n) ∧ x ≤ 65535 := by
  unfold spec_l1Cur_pick.f
  by_cases c : n ≤ 1
  · rw [if_pos c]; exact ⟨_, _, _, rfl, by omega, by omega, by omega, fun _ => by omega, by omega⟩
  · rw [if_neg c]
    obtain ⟨b, t, hb, b0, b1⟩ := next_ok h s1 s2 h0 (by omega)
    rw [hb]; simp only [Option.bind_some]
    by_cases d : n > 200
    · rw [if_pos d]
      obtain ⟨b', t', hb', b0', b1'⟩ := next_ok h (s1 + 1) t (by omega) (by omega)
      rw [hb']; simp only [Option.bind_some]
      rw [if_neg (by omega), w64 (n := b * 256) (by omega) (by omega), w64 (n := b * 256 + b') (by omega) (by omega), Int.tmod_eq_emod_of_nonneg (by omega)]
      have m := emod_in (b * 256 + b') n (by omega)
      have m2 : (b * 256 + b') % n ≤ b * 256 + b' := by
        have e1 := Int.mul_ediv_add_emod (b * 256 + b') n
        have e2 : 0 ≤ n * ((b * 256 + b') / n) := Int.mul_nonneg (by omega) (Int.ediv_nonneg (by omega) (by omega))
        omega
      exact ⟨_, _, _, rfl, by omega, by omega, by omega, fun _ => by omega, by omega⟩
    · rw [if_neg d, if_neg (by omega), Int.tmod_eq_emod_of_nonneg (by omega)]
      have m := emod_in b n (by omega)
      exact ⟨_, _, _, rfl, by omega, by omega, by omega, fun _ => by omega, by omega⟩
theorem one_ok {l : List Int} (h : Bytes l) (s1 s2 n : Int) (h0 : 0 ≤ s1) (h1 : s1 ≤ 900000000) :
    ∃ b s1' s2', spec_l1Cur_one.f l s1 s2 n = some (b, s1', s2') ∧ s1 ≤ s1' ∧ s1' ≤ s1 + 2 := by
  unfold spec_l1Cur_one.f
  obtain ⟨x, s1', s2', e, a, b, _⟩ := pick_ok h s1 s2 n h0 h1
  rw [e]; exact ⟨_, _, _, rfl, a, b⟩
theorem among_ok {l : List Int} (h : Bytes l) (s1 s2 : Int) (q : List Int) (hq : 1 ≤ q.length) (h0 : 0 ≤ s1) (h1 : s1 ≤ 900000000) :
    ∃ x s1' s2', spec_l1Cur_among.f l s1 s2 q = some (x, s1', s2') ∧ s1 ≤ s1' ∧ s1' ≤ s1 + 2 ∧ x ∈ q := by
  unfold spec_l1Cur_among.f
  obtain ⟨x, s1', s2', e, a, b, x0, x1, _⟩ := pick_ok h s1 s2 (q.length : Int) h0 h1
  have x1 := x1 (by omega)
  rw [e]; simp only [Option.bind_some]
  rw [if_pos x0, if_pos x1]
  refine ⟨_, _, _, rfl, a, b, ?_⟩
  have hl : x.toNat < q.length := by omega
  unfold rd
  rw [List.getD_eq_getElem?_getD, List.getElem?_eq_getElem hl]
  exact List.getElem_mem hl
theorem divisor_ok {l : List Int} (h : Bytes l) (s1 s2 : Int) (h0 : 0 ≤ s1) (h1 : s1 ≤ 700000000) :
    ∃ x s1' s2', spec_l1Cur_divisor.f l s1 s2 = some (x, s1', s2') ∧ s1 ≤ s1' ∧ s1' ≤ s1 + 6 ∧ 0 ≤ x ∧ x ≤ 65536 := by
  unfold spec_l1Cur_divisor.f
  obtain ⟨b, t1, t2, e, a1, a2⟩ := one_ok h s1 s2 3 h0 (by omega)
  rw [e]; simp only [Option.bind_some]
  by_cases c : b = true
  · rw [if_pos c]
    obtain ⟨x, u1, u2, e', b1, b2, hx⟩ := among_ok h t1 t2 [0, 1, 2, 3, 5, 7, 641, 32768, 65535, 65536] (by decide) (by omega) (by omega)
    rw [e']; refine ⟨_, _, _, rfl, by show s1 ≤ u1; omega, by show u1 ≤ s1 + 6; omega, ?_⟩
    show 0 ≤ x ∧ x ≤ 65536
    simp at hx; omega
  · rw [if_neg c]
    obtain ⟨x, u1, u2, e', b1, b2, x0, x1, _⟩ := pick_ok h t1 t2 256 (by omega) (by omega)
    rw [e']; simp only [Option.bind_some]
    obtain ⟨y, v1, v2, e2, c1, c2, y0, y1, _⟩ := pick_ok h u1 u2 256 (by omega) (by omega)
    rw [e2]
    have x1 := x1 (by omega)
    have y1 := y1 (by omega)
    have m0 : 0 ≤ x * (1 + y) := Int.mul_nonneg x0 (by omega)
    have m1 : x * (1 + y) ≤ 255 * 256 := Int.mul_le_mul (by omega) (by omega) (by omega) (by omega)
    refine ⟨_, _, _, rfl, by show s1 ≤ v1; omega, by show v1 ≤ s1 + 6; omega, ?_⟩
    show 0 ≤ wrap64 (1 + wrap64 (x * wrap64 (1 + y))) ∧ wrap64 (1 + wrap64 (x * wrap64 (1 + y))) ≤ 65536
    rw [w64 (n := 1 + y) (by omega) (by omega), w64 (n := x * (1 + y)) (by omega) (by omega), w64 (by omega) (by omega)]; omega
/-- The plan of a number: what both loops put behind 'out'. d: how many places are left. -/
def pl : Nat → Int → Int → List Int
  | 0, _, _ => []
  | d + 1, b, p => if b > 0 then (if b % 4 = 1 then p :: pl d ((b - 1) / 2) (p + 1) else if b % 4 = 3 then (-p) :: pl d ((b + 1) / 2) (p + 1) else pl d (b / 2) (p + 1)) else []
def Bd : Nat → Int
  | 0 => 0
  | 1 => 1
  | d + 2 => 2 * Bd (d + 1)
theorem bd_step {d : Nat} {b c : Int} (h : b ≤ Bd (d + 1)) (hc : c = (b - 1) / 2 ∧ b % 4 = 1 ∨ c = (b + 1) / 2 ∧ b % 4 = 3 ∨ c = b / 2 ∧ b % 2 = 0) : c ≤ Bd d := by
  cases d with
  | zero => simp only [Bd] at h ⊢; omega
  | succ d => have e : Bd (d + 1 + 1) = 2 * Bd (d + 1) := rfl; omega

theorem tdivE {x y : Int} (h : x % 2 = 0) (hy : x / 2 = y) : Int.tdiv x 2 = y := by
  rw [Int.tdiv_eq_ediv]
  have : (2 : Int) ∣ x := Int.dvd_of_emod_eq_zero h
  simp [this, hy]

theorem both (d : Nat) : ∀ (k : Nat) (b : Int) (out : List Int) (p : Int), 0 ≤ b → b ≤ Bd d → b ≤ 65536 → d < k → 1 ≤ p → p + d ≤ 1000 → out.length + d ≤ 1000 →
    spec_PlanMul.l0 k b out p = some (out ++ pl d b p, true) ∧ impl_PlanMul.l0 k b out p = some (out ++ pl d b p, true) := by
  induction d with
  | zero =>
    intro k b out p h0 h1 hw hk hp1 hp2 hl
    obtain ⟨k, rfl⟩ : ∃ m, k = m + 1 := ⟨k - 1, by omega⟩
    simp only [Bd] at h1
    constructor
    · simp only [spec_PlanMul.l0, pl]; rw [if_neg (by omega)]; simp
    · simp only [impl_PlanMul.l0, pl]; rw [if_neg (by omega)]; simp
  | succ d ih =>
    intro k b out p h0 h1 hw hk hp1 hp2 hl
    obtain ⟨k, rfl⟩ : ∃ m, k = m + 1 := ⟨k - 1, by omega⟩
    by_cases hb : b > 0
    · have wp : wrap64 (p + 1) = p + 1 := w64 (by omega) (by omega)
      have m4 : Int.tmod b 4 = b % 4 := Int.tmod_eq_emod_of_nonneg h0
      simp only [spec_PlanMul.l0, impl_PlanMul.l0, pl]
      rw [if_pos hb, if_pos hb, if_pos hb, and1, and3, m4, wp]
      by_cases c1 : b % 4 = 1
      · have hn := bd_step h1 (.inl ⟨rfl, c1⟩)
        obtain ⟨hs, hi⟩ := ih k ((b - 1) / 2) (out ++ [p]) (p + 1) (by omega) hn (by omega) (by omega) (by omega) (by omega) (by simp; omega)
        rw [List.append_assoc] at hs hi
        have e1 : wrap64 (b - wrap64 (2 - b % 4)) / 2 = (b - 1) / 2 := by rw [c1, w64 (n := 2 - 1) (by omega) (by omega), w64 (by omega) (by omega)]; omega
        have e2 : wrap64 (wrap64 (2 - b % 4) * p) = p := by rw [c1, w64 (n := 2 - 1) (by omega) (by omega), w64 (by omega) (by omega)]; omega
        have e3 : wrap64 (Int.tdiv (wrap64 (b - 1)) 2) = (b - 1) / 2 := by rw [w64 (n := b - 1) (by omega) (by omega), tdivE (by omega) rfl, w64 (by omega) (by omega)]
        constructor
        · rw [if_pos (by omega), if_pos (by omega), if_pos c1, e1, e2]; exact hs
        · rw [if_pos c1, if_pos (by omega), if_pos c1, e3]; exact hi
      · by_cases c3 : b % 4 = 3
        · have hn := bd_step h1 (.inr (.inl ⟨rfl, c3⟩))
          obtain ⟨hs, hi⟩ := ih k ((b + 1) / 2) (out ++ [-p]) (p + 1) (by omega) hn (by omega) (by omega) (by omega) (by omega) (by simp; omega)
          rw [List.append_assoc] at hs hi
          have e1 : wrap64 (b - wrap64 (2 - b % 4)) / 2 = (b + 1) / 2 := by rw [c3, w64 (n := 2 - 3) (by omega) (by omega), w64 (by omega) (by omega)]; omega
          have e2 : wrap64 (wrap64 (2 - b % 4) * p) = -p := by rw [c3, w64 (n := 2 - 3) (by omega) (by omega), w64 (by omega) (by omega)]; omega
          have e3 : wrap64 (Int.tdiv (wrap64 (b + 1)) 2) = (b + 1) / 2 := by rw [w64 (n := b + 1) (by omega) (by omega), tdivE (by omega) rfl, w64 (by omega) (by omega)]
          have e4 : wrap64 (-p) = -p := w64 (by omega) (by omega)
          constructor
          · rw [if_pos (by omega), if_pos (by omega), if_neg c1, if_pos c3, e1, e2]; exact hs
          · rw [if_neg c1, if_pos c3, if_pos (by omega), if_neg c1, if_pos c3, e3, e4]; exact hi
        · have hn := bd_step h1 (.inr (.inr ⟨rfl, by omega⟩))
          obtain ⟨hs, hi⟩ := ih k (b / 2) out (p + 1) (by omega) hn (by omega) (by omega) (by omega) (by omega) (by omega)
          have e3 : wrap64 (Int.tdiv b 2) = b / 2 := by rw [tdivE (by omega) rfl, w64 (by omega) (by omega)]
          constructor
          · rw [if_neg (by omega), if_neg c1, if_neg c3]; exact hs
          · rw [if_neg c1, if_neg c3, if_neg c1, if_neg c3, e3]; exact hi
    · constructor
      · simp only [spec_PlanMul.l0, pl]; rw [if_neg hb, if_neg hb]; simp
      · simp only [impl_PlanMul.l0, pl]; rw [if_neg hb, if_neg hb]; simp

def plan (b : Int) : List Int := if 0 ≤ b ∧ b ≤ 65535 then pl 17 b 1 else []
theorem plans (k : Nat) (hk : 17 < k) (a : Int) : spec_PlanMul.f k a = some (plan a, decide (0 ≤ a ∧ a ≤ 65535)) ∧ impl_PlanMul.f k a = some (plan a, decide (0 ≤ a ∧ a ≤ 65535)) := by
  unfold spec_PlanMul.f impl_PlanMul.f plan
  rw [s_in, i_in]; simp only [Option.bind_some]
  by_cases c : 0 ≤ a ∧ a ≤ 65535
  · have hB : Bd 17 = 65536 := by decide
    obtain ⟨hs, hi⟩ := both 17 k a [] 1 (by omega) (by omega) (by omega) (by omega) (by omega) (by omega) (by simp)
    have hd : decide (0 ≤ a ∧ a ≤ 65535) = true := by simpa using c
    rw [hd, if_pos rfl, if_pos rfl, if_pos c, hs, hi]
    simp
  · have hd : decide (0 ≤ a ∧ a ≤ 65535) = false := by simpa using c
    rw [hd, if_neg c]
    simp

/-! What the plan says. -/
/-- The entries lie apart by two places, from place p on. -/
def gaps : Int → List Int → Prop
  | _, [] => True
  | p, x :: r => (0 < x ∧ p ≤ x ∨ x < 0 ∧ p ≤ -x) ∧ gaps ((if x < 0 then -x else x) + 2) r
theorem gaps_lower {p q : Int} (h : q ≤ p) : ∀ {l : List Int}, gaps p l → gaps q l
  | [], _ => trivial
  | _ :: _, ⟨h1, h2⟩ => ⟨by omega, h2⟩
theorem pl_gaps (d : Nat) : ∀ (b p : Int), 1 ≤ p → gaps p (pl d b p) ∧ (b % 2 = 0 → gaps (p + 1) (pl d b p)) := by
  induction d with
  | zero => intro b p _; exact ⟨trivial, fun _ => trivial⟩
  | succ d ih =>
    intro b p hp
    simp only [pl]
    by_cases hb : b > 0
    · rw [if_pos hb]
      by_cases c1 : b % 4 = 1
      · rw [if_pos c1]
        have h := (ih ((b - 1) / 2) (p + 1) (by omega)).2 (by omega)
        refine ⟨⟨.inl ⟨by omega, by omega⟩, ?_⟩, fun _ => by omega⟩
        rw [if_neg (by omega)]; rw [show p + 2 = p + 1 + 1 by omega]; exact h
      · rw [if_neg c1]
        by_cases c3 : b % 4 = 3
        · rw [if_pos c3]
          have h := (ih ((b + 1) / 2) (p + 1) (by omega)).2 (by omega)
          refine ⟨⟨.inr ⟨by omega, by omega⟩, ?_⟩, fun _ => by omega⟩
          rw [if_pos (by omega)]; rw [show - -p + 2 = p + 1 + 1 by omega]; exact h
        · rw [if_neg c3]
          have h := (ih (b / 2) (p + 1) (by omega)).1
          exact ⟨gaps_lower (by omega) h, fun _ => h⟩
    · rw [if_neg hb]; exact ⟨trivial, fun _ => trivial⟩
theorem pl_len (d : Nat) : ∀ (b p : Int), 2 * (pl d b p).length ≤ d + 1 ∧ (b % 2 = 0 → 2 * (pl d b p).length ≤ d) := by
  induction d with
  | zero => intro b p; simp [pl]
  | succ d ih =>
    intro b p
    simp only [pl]
    by_cases hb : b > 0
    · rw [if_pos hb]
      by_cases c1 : b % 4 = 1
      · rw [if_pos c1]
        have h := (ih ((b - 1) / 2) (p + 1)).2 (by omega)
        rw [List.length_cons]
        exact ⟨by omega, fun _ => by omega⟩
      · rw [if_neg c1]
        by_cases c3 : b % 4 = 3
        · rw [if_pos c3]
          have h := (ih ((b + 1) / 2) (p + 1)).2 (by omega)
          rw [List.length_cons]
          exact ⟨by omega, fun _ => by omega⟩
        · rw [if_neg c3]
          have h := (ih (b / 2) (p + 1)).1
          exact ⟨by omega, fun _ => by omega⟩
    · rw [if_neg hb]; simp
theorem pl_in (d : Nat) : ∀ (b p : Int), 1 ≤ p → ∀ x ∈ pl d b p, 1 ≤ x ∧ x ≤ p + d - 1 ∨ -(p + d - 1) ≤ x ∧ x ≤ -1 := by
  induction d with
  | zero => intro b p _ x hx; simp [pl] at hx
  | succ d ih =>
    intro b p hp x hx
    simp only [pl] at hx
    by_cases hb : b > 0
    · rw [if_pos hb] at hx
      by_cases c1 : b % 4 = 1
      · rw [if_pos c1] at hx
        rcases List.mem_cons.1 hx with rfl | hx
        · omega
        · have := ih ((b - 1) / 2) (p + 1) (by omega) x hx; omega
      · rw [if_neg c1] at hx
        by_cases c3 : b % 4 = 3
        · rw [if_pos c3] at hx
          rcases List.mem_cons.1 hx with rfl | hx
          · omega
          · have := ih ((b + 1) / 2) (p + 1) (by omega) x hx; omega
        · rw [if_neg c3] at hx
          have := ih (b / 2) (p + 1) (by omega) x hx; omega
    · rw [if_neg hb] at hx; simp at hx

/-- What a plan's entry stands for. -/
def dig (x : Int) : Int := if x < 0 then -(2 ^ (-x - 1).toNat) else 2 ^ (x - 1).toNat
def val : List Int → Int
  | [] => 0
  | x :: r => dig x + val r
theorem pl_val (d : Nat) : ∀ (b : Int) (q : Nat), 0 ≤ b → b ≤ Bd d → val (pl d b ((q : Int) + 1)) = b * 2 ^ q := by
  induction d with
  | zero =>
    intro b q h0 h1
    simp only [Bd] at h1
    have e : b = 0 := by omega
    subst e; simp [pl, val]
  | succ d ih =>
    intro b q h0 h1
    simp only [pl]
    have pw : (2 : Int) ^ (q + 1) = 2 * 2 ^ q := by rw [Int.pow_succ]; omega
    by_cases hb : b > 0
    · rw [if_pos hb]
      by_cases c1 : b % 4 = 1
      · rw [if_pos c1]
        have hn := bd_step h1 (.inl ⟨rfl, c1⟩)
        have h := ih ((b - 1) / 2) (q + 1) (by omega) hn
        simp only [val]
        rw [show (q : Int) + 1 + 1 = ((q + 1 : Nat) : Int) + 1 by omega, h, pw]
        unfold dig
        rw [if_neg (by omega), show ((q : Int) + 1 - 1).toNat = q by omega]
        have e : (b - 1) / 2 * (2 * 2 ^ q) = (2 * ((b - 1) / 2)) * 2 ^ q := by rw [Int.mul_comm 2 ((b - 1) / 2), Int.mul_assoc]
        rw [e, show 2 * ((b - 1) / 2) = b - 1 by omega, Int.sub_mul]; omega
      · rw [if_neg c1]
        by_cases c3 : b % 4 = 3
        · rw [if_pos c3]
          have hn := bd_step h1 (.inr (.inl ⟨rfl, c3⟩))
          have h := ih ((b + 1) / 2) (q + 1) (by omega) hn
          simp only [val]
          rw [show (q : Int) + 1 + 1 = ((q + 1 : Nat) : Int) + 1 by omega, h, pw]
          unfold dig
          rw [if_pos (by omega), show (- -((q : Int) + 1) - 1).toNat = q by omega]
          have e : (b + 1) / 2 * (2 * 2 ^ q) = (2 * ((b + 1) / 2)) * 2 ^ q := by rw [Int.mul_comm 2 ((b + 1) / 2), Int.mul_assoc]
          rw [e, show 2 * ((b + 1) / 2) = b + 1 by omega, Int.add_mul]; omega
        · rw [if_neg c3]
          have hn := bd_step h1 (.inr (.inr ⟨rfl, by omega⟩))
          have h := ih (b / 2) (q + 1) (by omega) hn
          rw [show (q : Int) + 1 + 1 = ((q + 1 : Nat) : Int) + 1 by omega, h, pw]
          have e : b / 2 * (2 * 2 ^ q) = (2 * (b / 2)) * 2 ^ q := by rw [Int.mul_comm 2 (b / 2), Int.mul_assoc]
          rw [e, show 2 * (b / 2) = b by omega]
    · have e : b = 0 := by omega
      subst e; simp [val]

/-! Doing a plan. -/
theorem u64_small {n : Int} (h0 : 0 ≤ n) (h1 : n ≤ 1000000) : IntKind.u64.wrap n = n := by
  have hw : IntKind.u64.wrap n = n % 18446744073709551616 := by simp [IntKind.wrap, IntKind.bits, IntKind.signed]
  rw [hw]; omega
theorem do_loop (m : Nat) : ∀ (k : Nat) (n s : Int) (q : List Int) (i : Int), 0 ≤ i → i ≤ q.length → (q.length : Int) - i = m → m < k → q.length ≤ 1000 →
    ∃ r, impl_DoPlan.l0 k n s q (q.length : Int) i = some r ∧ spec_DoPlan.l0 k n s q (q.length : Int) i = some r := by
  induction m with
  | zero =>
    intro k n s q i h0 h1 hd hk hn
    obtain ⟨k, rfl⟩ : ∃ m, k = m + 1 := ⟨k - 1, by omega⟩
    simp only [impl_DoPlan.l0, spec_DoPlan.l0]; rw [if_neg (by omega), if_neg (by omega)]; exact ⟨_, rfl, rfl⟩
  | succ m ih =>
    intro k n s q i h0 h1 hd hk hn
    obtain ⟨k, rfl⟩ : ∃ m, k = m + 1 := ⟨k - 1, by omega⟩
    simp only [impl_DoPlan.l0, spec_DoPlan.l0]
    have hlt : i < (q.length : Int) := by omega
    rw [if_pos hlt, if_pos hlt, if_pos h0, if_pos h0, if_pos hlt, if_pos hlt, i_in, i_in, s_in, s_in]
    simp only [Option.bind_some]
    have wi : wrap64 (i + 1) = i + 1 := w64 (by omega) (by omega)
    rw [wi]
    generalize rd q i = x
    by_cases c : 1 ≤ x ∧ x ≤ 20
    · have hd : decide (1 ≤ x ∧ x ≤ 20) = true := by simpa using c
      have hp : 0 ≤ x - 1 := by omega
      rw [hd, w64 (n := x - 1) (by omega) (by omega), u64_small (n := x - 1) (by omega) (by omega)]
      simp only [if_true, hp]
      exact ih k n _ q (i + 1) (by omega) (by omega) (by omega) (by omega) hn
    · have hd : decide (1 ≤ x ∧ x ≤ 20) = false := by simpa using c
      rw [hd]
      by_cases c' : -20 ≤ x ∧ x ≤ -1
      · have hd' : decide (-20 ≤ x ∧ x ≤ -1) = true := by simpa using c'
        have hp : 0 ≤ -x - 1 := by omega
        rw [hd', w64 (n := -x) (by omega) (by omega), w64 (n := -x - 1) (by omega) (by omega), u64_small (n := -x - 1) (by omega) (by omega)]
        simp only [if_true, Bool.false_eq_true, if_false, hp]
        exact ih k n _ q (i + 1) (by omega) (by omega) (by omega) (by omega) hn
      · have hd' : decide (-20 ≤ x ∧ x ≤ -1) = false := by simpa using c'
        rw [hd']; simp
theorem do_same (k : Nat) (hk : 1002 < k) (q : List Int) (n : Int) (hq : q.length ≤ 1000) : ∃ r, impl_DoPlan.f k q n = some r ∧ spec_DoPlan.f k q n = some r := by
  obtain ⟨k, rfl⟩ : ∃ m, k = m + 1 := ⟨k - 1, by omega⟩
  unfold impl_DoPlan.f spec_DoPlan.f
  rw [i_in, s_in]; simp only [Option.bind_some, impl_DoPlan.j0, spec_DoPlan.j0]
  by_cases c : (q.length : Int) > 20
  · rw [if_pos c, if_pos c]; exact ⟨_, rfl, rfl⟩
  · rw [if_neg c, if_neg c]
    by_cases d : -65535 ≤ n ∧ n ≤ 65535
    · have hd : decide (-65535 ≤ n ∧ n ≤ 65535) = true := by simpa using d
      rw [hd]; simp only [Bool.not_true, Bool.false_eq_true, if_false]
      exact do_loop q.length k n 0 q 0 (by omega) (by omega) (by omega) (by omega) hq
    · have hd : decide (-65535 ≤ n ∧ n ≤ 65535) = false := by simpa using d
      rw [hd]; simp

theorem rd_cons_drop {q : List Int} {i : Nat} (h : i < q.length) : q.drop i = rd q (i : Int) :: q.drop (i + 1) := by
  rw [List.drop_eq_getElem_cons h]
  unfold rd
  rw [Int.toNat_natCast, List.getD_eq_getElem?_getD, List.getElem?_eq_getElem h]; rfl
theorem pow_hi {e : Nat} (h : e ≤ 19) : (0 : Int) ≤ 2 ^ e ∧ (2 : Int) ^ e ≤ 524288 := by
  have h1 : 2 ^ e ≤ 524288 := Nat.pow_le_pow_right (n := 2) (by decide) h
  have h2 : ((2 ^ e : Nat) : Int) = (2 : Int) ^ e := by simp
  rw [← h2]
  exact ⟨Int.natCast_nonneg _, Int.ofNat_le.2 h1⟩
theorem shl_is {n : Int} {y : Int} (h0 : 0 ≤ y) (h1 : y ≤ 19) (hn : -65535 ≤ n ∧ n ≤ 65535) : shl .i64 n y = n * 2 ^ y.toNat ∧ -40000000000 ≤ n * 2 ^ y.toNat ∧ n * 2 ^ y.toNat ≤ 40000000000 := by
  obtain ⟨p0, p1⟩ := pow_hi (e := y.toNat) (by omega)
  have b : -40000000000 ≤ n * 2 ^ y.toNat ∧ n * 2 ^ y.toNat ≤ 40000000000 := by
    generalize (2 : Int) ^ y.toNat = z at p0 p1
    have a1 : (65535 - n) * z ≥ 0 := Int.mul_nonneg (by omega) p0
    have a2 : (65535 + n) * z ≥ 0 := Int.mul_nonneg (by omega) p0
    simp only [Int.sub_mul, Int.add_mul] at a1 a2
    omega
  refine ⟨?_, b⟩
  unfold shl
  rw [Nat.min_eq_left (by simp [IntKind.bits]; omega), IntKind.wrap_i64]; omega
theorem do_val (m : Nat) : ∀ (k : Nat) (n s : Int) (q : List Int) (i : Nat), i ≤ q.length → q.length - i = m → m < k → q.length ≤ 100 → (-65535 ≤ n ∧ n ≤ 65535) →
    (∀ x ∈ q, 1 ≤ x ∧ x ≤ 20 ∨ -20 ≤ x ∧ x ≤ -1) → -100000000000 * (100 - m) ≤ s → s ≤ 100000000000 * (100 - m) →
    impl_DoPlan.l0 k n s q (q.length : Int) (i : Int) = some (s + n * val (q.drop i), true) := by
  induction m with
  | zero =>
    intro k n s q i h1 hd hk hn hb hx s0 s1
    obtain ⟨k, rfl⟩ : ∃ m, k = m + 1 := ⟨k - 1, by omega⟩
    simp only [impl_DoPlan.l0]; rw [if_neg (by omega), List.drop_of_length_le (by omega)]; simp [val]
  | succ m ih =>
    intro k n s q i h1 hd hk hn hb hx s0 s1
    obtain ⟨k, rfl⟩ : ∃ m, k = m + 1 := ⟨k - 1, by omega⟩
    simp only [impl_DoPlan.l0]
    rw [if_pos (by omega), if_pos (by omega), if_pos (by omega), i_in, i_in]
    simp only [Option.bind_some]
    have wi : wrap64 ((i : Int) + 1) = ((i + 1 : Nat) : Int) := by rw [w64 (by omega) (by omega)]; omega
    have hin : rd q (i : Int) ∈ q := by
      unfold rd
      rw [Int.toNat_natCast, List.getD_eq_getElem?_getD, List.getElem?_eq_getElem (by omega)]
      exact List.getElem_mem (by omega)
    have hr := hx _ hin
    rw [wi, rd_cons_drop (q := q) (i := i) (by omega)]
    simp only [val]
    generalize rd q (i : Int) = x at hr hin
    unfold dig
    by_cases c : 1 ≤ x ∧ x ≤ 20
    · rw [if_pos (by simpa using c), w64 (n := x - 1) (by omega) (by omega), if_pos (by omega), if_neg (by omega)]
      obtain ⟨e, b0, b1⟩ := shl_is (n := n) (y := x - 1) (by omega) (by omega) hb
      rw [e]
      generalize (2 : Int) ^ (x - 1).toNat = z at b0 b1
      rw [w64 (n := s + n * z) (by omega) (by omega), ih k n _ q (i + 1) (by omega) (by omega) (by omega) hn hb hx (by omega) (by omega)]
      rw [Int.mul_add]; congr 2; omega
    · rw [if_neg (by simpa using c)]
      have c' : -20 ≤ x ∧ x ≤ -1 := by omega
      rw [if_pos (by simpa using c'), w64 (n := -x) (by omega) (by omega), w64 (n := -x - 1) (by omega) (by omega), if_pos (by omega), if_pos (by omega)]
      obtain ⟨e, b0, b1⟩ := shl_is (n := n) (y := -x - 1) (by omega) (by omega) hb
      rw [e]
      generalize (2 : Int) ^ (-x - 1).toNat = z at b0 b1
      rw [w64 (n := s - n * z) (by omega) (by omega), ih k n _ q (i + 1) (by omega) (by omega) (by omega) hn hb hx (by omega) (by omega)]
      rw [Int.mul_add, Int.mul_neg]; congr 2; omega

theorem plan_do (k : Nat) (hk : 200 < k) (b n : Int) (hb : 0 ≤ b ∧ b ≤ 65535) (hn : -65535 ≤ n ∧ n ≤ 65535) : impl_DoPlan.f k (plan b) n = some (b * n, true) := by
  obtain ⟨k, rfl⟩ : ∃ m, k = m + 1 := ⟨k - 1, by omega⟩
  have e : plan b = pl 17 b 1 := by unfold plan; rw [if_pos hb]
  have hl := (pl_len 17 b 1).1
  have hB : Bd 17 = 65536 := by decide
  have hv := pl_val 17 b 0 hb.1 (by omega)
  have hi : ∀ x ∈ pl 17 b 1, 1 ≤ x ∧ x ≤ 20 ∨ -20 ≤ x ∧ x ≤ -1 := fun x hx => by have := pl_in 17 b 1 (by omega) x hx; omega
  rw [e]
  unfold impl_DoPlan.f
  rw [i_in]; simp only [Option.bind_some, impl_DoPlan.j0]
  rw [if_neg (by omega), if_neg (by simpa using hn)]
  have hd := do_val (pl 17 b 1).length k n 0 (pl 17 b 1) 0 (by omega) (by omega) (by omega) (by omega) hn hi (by omega) (by omega)
  rw [show ((0 : Nat) : Int) = 0 from rfl, List.drop_zero] at hd
  rw [hd]
  have hv' : val (pl 17 b 1) = b := by have := hv; simp at this; exact this
  rw [hv', Int.mul_comm]; simp

/-! The law's own loops. -/
theorem same_loop (d : Nat) : ∀ (k : Nat) (xs : List Int) (i : Int), 0 ≤ i → i ≤ xs.length → (xs.length : Int) - i = d → d < k → xs.length ≤ 1000 →
    laws_sameInts.l0 k xs xs (xs.length : Int) i = some true := by
  induction d with
  | zero =>
    intro k xs i h0 h1 hd hk hn
    obtain ⟨k, rfl⟩ : ∃ m, k = m + 1 := ⟨k - 1, by omega⟩
    simp only [laws_sameInts.l0]; rw [if_neg (by omega)]
  | succ d ih =>
    intro k xs i h0 h1 hd hk hn
    obtain ⟨k, rfl⟩ : ∃ m, k = m + 1 := ⟨k - 1, by omega⟩
    simp only [laws_sameInts.l0]
    rw [if_pos (by omega), if_pos h0, if_pos (by omega), if_pos (by omega), if_pos trivial, w64 (by omega) (by omega)]
    exact ih k xs (i + 1) (by omega) (by omega) (by omega) (by omega) hn
theorem same_self (k : Nat) (xs : List Int) (hk : xs.length < k) (hn : xs.length ≤ 1000) : laws_sameInts.f k xs xs = some true := by
  unfold laws_sameInts.f
  rw [if_pos rfl]; exact same_loop xs.length k xs 0 (by omega) (by omega) (by omega) hk hn
theorem number_loop (d : Nat) : ∀ (k : Nat) (n : Int) (l : List Int) (i : Int), 0 ≤ i → i ≤ l.length → (l.length : Int) - i = d → d < k → Bytes l → 0 ≤ n → n ≤ 1000003 →
    ∃ r, laws_numberOf.l0 k n l (l.length : Int) i = some r ∧ 0 ≤ r ∧ r ≤ 1000003 := by
  induction d with
  | zero =>
    intro k n l i h0 h1 hd hk hB n0 n1
    obtain ⟨k, rfl⟩ : ∃ m, k = m + 1 := ⟨k - 1, by omega⟩
    simp only [laws_numberOf.l0]; rw [if_neg (by omega)]; exact ⟨_, rfl, n0, n1⟩
  | succ d ih =>
    intro k n l i h0 h1 hd hk hB n0 n1
    obtain ⟨k, rfl⟩ : ∃ m, k = m + 1 := ⟨k - 1, by omega⟩
    have hr := bytes_rd hB i
    have hl := hB.1
    simp only [laws_numberOf.l0]
    rw [if_pos (by omega), if_pos h0, if_pos (by omega), w64 (n := rd l i) (by omega) (by omega), w64 (n := 31 * n) (by omega) (by omega), w64 (n := 31 * n + rd l i) (by omega) (by omega), w64 (n := i + 1) (by omega) (by omega), Int.tmod_eq_emod_of_nonneg (by omega)]
    have t := emod_in (31 * n + rd l i) 1000003 (by omega)
    exact ih k _ l (i + 1) (by omega) (by omega) (by omega) (by omega) hB t.1 (by omega)
theorem number (k : Nat) (l : List Int) (hk : l.length < k) (hB : Bytes l) : ∃ r, laws_numberOf.f k l = some r ∧ 0 ≤ r ∧ r ≤ 1000003 := by
  unfold laws_numberOf.f
  exact number_loop l.length k 0 l 0 (by omega) (by omega) (by omega) hk hB (by omega) (by omega)

theorem drawdo (k : Nat) (hk : 30 < k) {l : List Int} (h : Bytes l) : ∃ q n, spec_DrawDoPlan.f k l = some (q, n) ∧ q.length ≤ 1000 := by
  obtain ⟨k, rfl⟩ : ∃ m, k = m + 1 := ⟨k - 1, by omega⟩
  unfold spec_DrawDoPlan.f
  obtain ⟨x, u1, u2, e, b1, b2, x0, x1⟩ := divisor_ok h 0 0 (by omega) (by omega)
  rw [e]; simp only [Option.bind_some]
  rw [(plans (k + 1) (by omega) x).1]; simp only [Option.bind_some]
  have hl : (plan x).length ≤ 1000 := by
    unfold plan
    have := (pl_len 17 x 1).1
    split
    · omega
    · simp
  have tail : ∀ (b : Bool) (t1 t2 : Int), 0 ≤ t1 → t1 ≤ 1000 → ∃ q n, spec_DrawDoPlan.j0 (k + 1) (plan x) b l t1 t2 = some (q, n) ∧ q.length ≤ 1000 := by
    intro b t1 t2 g0 g1
    simp only [spec_DrawDoPlan.j0]
    by_cases c : b = true
    · rw [if_pos c]
      obtain ⟨y, v1, v2, e2, c1, c2, _⟩ := pick_ok h t1 t2 42 g0 (by omega)
      rw [e2]; simp only [Option.bind_some]
      obtain ⟨z, w1, w2, e3, d1, d2, _⟩ := among_ok h v1 v2 [(-65536), (-65535), (-7), 0, 1, 12345, 65535, 65536] (by decide) (by omega) (by omega)
      rw [e3]; exact ⟨_, _, rfl, by simp⟩
    · rw [if_neg c]
      obtain ⟨z, w1, w2, e3, d1, d2, _⟩ := among_ok h t1 t2 [(-65536), (-65535), (-7), 0, 1, 12345, 65535, 65536] (by decide) (by omega) (by omega)
      rw [e3]; exact ⟨_, _, rfl, hl⟩
  by_cases c : 0 ≤ x ∧ x ≤ 65535
  · rw [if_pos (by simpa using c)]
    obtain ⟨b, t1, t2, e2, c1, c2⟩ := one_ok h u1 u2 6 (by omega) (by omega)
    rw [e2]; simp only [Option.bind_some]
    exact tail b t1 t2 (by omega) (by omega)
  · rw [if_neg (by simpa using c)]
    exact tail true u1 u2 (by omega) (by omega)

/-- The last part: the drawn plan, done by both. -/
theorem last (k : Nat) (hk : 1100 < k) {l : List Int} (h : Bytes l) : ((spec_DrawDoPlan.f k l).bind fun bt202 => ((impl_DoPlan.f k bt202.1 bt202.2).bind fun bt206 => ((spec_DoPlan.f k bt202.1 bt202.2).bind fun bt208 => (if (bt206.2 == bt208.2) = true then (some (bt206.1 == bt208.1)) else (some false))))) = some true := by
  obtain ⟨q, n, e, hq⟩ := drawdo k (by omega) h
  rw [e]; simp only [Option.bind_some]
  obtain ⟨r, e1, e2⟩ := do_same k (by omega) q n hq
  rw [e1, e2]; simp

theorem gaps_at : ∀ (q : List Int) (p : Int) (i : Nat), gaps p q → 1 ≤ p → i + 1 < q.length → (if rd q ((i : Int) + 1) < 0 then -rd q ((i : Int) + 1) else rd q ((i : Int) + 1)) ≥ (if rd q (i : Int) < 0 then -rd q (i : Int) else rd q (i : Int)) + 2
  | [], _, _, _, _, h => by simp at h
  | [_], _, i, _, _, h => by simp at h
  | x :: y :: r, p, 0, h, hp, _ => by
    obtain ⟨h1, h2, _⟩ := h
    have e0 : rd (x :: y :: r) ((0 : Nat) : Int) = x := rfl
    have e1 : rd (x :: y :: r) (((0 : Nat) : Int) + 1) = y := rfl
    rw [e0, e1]
    split at h2 <;> split <;> (try split) <;> omega
  | x :: y :: r, p, i + 1, h, hp, hl => by
    have e0 : rd (x :: y :: r) ((i + 1 : Nat) : Int) = rd (y :: r) (i : Int) := by unfold rd; rw [Int.toNat_natCast, Int.toNat_natCast]; rfl
    have e1 : rd (x :: y :: r) (((i + 1 : Nat) : Int) + 1) = rd (y :: r) ((i : Int) + 1) := by
      unfold rd
      rw [show (((i + 1 : Nat) : Int) + 1).toNat = i + 1 + 1 by omega, show ((i : Int) + 1).toNat = i + 1 by omega]; rfl
    rw [e0, e1]
    have h2 := h.2
    have h1 := h.1
    exact gaps_at (y :: r) _ i h2 (by split <;> omega) (by simpa using hl)

theorem gap_loop (m : Nat) : ∀ (k : Nat) (l q : List Int) (i : Nat), 1 ≤ i → i ≤ q.length + 1 → q.length + 1 - i = m → 2 * m + 1110 < k → q.length ≤ 1000 → gaps 1 q → (∀ x ∈ q, -1000 ≤ x ∧ x ≤ 1000) → Bytes l →
    laws_FnPlans.l0 k l q (i : Int) = some true := by
  induction m with
  | zero =>
    intro k l q i h0 h1 hd hk hn hg hx hB
    obtain ⟨k, rfl⟩ : ∃ m, k = m + 1 := ⟨k - 1, by omega⟩
    simp only [laws_FnPlans.l0]; rw [if_neg (by omega)]; exact last k (by omega) hB
  | succ m ih =>
    intro k l q i h0 h1 hd hk hn hg hx hB
    obtain ⟨k, rfl⟩ : ∃ m, k = m + 1 := ⟨k - 1, by omega⟩
    simp only [laws_FnPlans.l0]
    by_cases c : (i : Int) < (q.length : Int)
    · rw [if_pos c]
      obtain ⟨j, rfl⟩ : ∃ j, i = j + 1 := ⟨i - 1, by omega⟩
      have ej : wrap64 (((j + 1 : Nat) : Int) - 1) = (j : Int) := by rw [w64 (by omega) (by omega)]; omega
      rw [ej, if_pos (by omega), if_pos (by omega), if_pos (by omega)]
      have hgap := gaps_at q 1 j hg (by omega) (by omega)
      have mem : ∀ t : Nat, t < q.length → rd q (t : Int) ∈ q := by
        intro t ht
        unfold rd
        rw [Int.toNat_natCast, List.getD_eq_getElem?_getD, List.getElem?_eq_getElem ht]
        exact List.getElem_mem ht
      have ra := hx _ (mem j (by omega))
      have rb := hx _ (mem (j + 1) (by omega))
      have e1 : ((j + 1 : Nat) : Int) = (j : Int) + 1 := by omega
      rw [e1] at rb ⊢
      obtain ⟨k, rfl⟩ : ∃ m, k = m + 1 := ⟨k - 1, by omega⟩
      generalize rd q (j : Int) = x at *
      generalize rd q ((j : Int) + 1) = y at *
      have go : laws_FnPlans.l0 k l q (wrap64 ((j : Int) + 1 + 1)) = some true := by
        have := ih k l q (j + 1 + 1) (by omega) (by omega) (by omega) (by omega) hn hg hx hB
        rw [w64 (by omega) (by omega)]
        rw [show (j : Int) + 1 + 1 = ((j + 1 + 1 : Nat) : Int) by omega]; exact this
      by_cases cx : x < 0
      · rw [if_pos cx, w64 (n := -x) (by omega) (by omega)]
        rw [if_pos cx] at hgap
        simp only [laws_FnPlans.j3]
        rw [w64 (n := -x + 2) (by omega) (by omega)]
        by_cases cy : y < 0
        · rw [if_pos cy] at hgap
          rw [if_pos cy, w64 (n := -y) (by omega) (by omega), if_neg (by omega)]; exact go
        · rw [if_neg cy] at hgap
          rw [if_neg cy, if_neg (by omega)]; exact go
      · rw [if_neg cx]
        rw [if_neg cx] at hgap
        simp only [laws_FnPlans.j3]
        rw [w64 (n := x + 2) (by omega) (by omega)]
        by_cases cy : y < 0
        · rw [if_pos cy] at hgap
          rw [if_pos cy, w64 (n := -y) (by omega) (by omega), if_neg (by omega)]; exact go
        · rw [if_neg cy] at hgap
          rw [if_neg cy, if_neg (by omega)]; exact go
    · rw [if_neg c]; exact last k (by omega) hB
end FnPlans
open FnPlans in
theorem FnPlans : laws_FnPlans.Pure := by
  intro l0 l1 _ _ hw0 _ _ hw1
  refine ⟨1100000, ?_⟩
  unfold laws_FnPlans.f
  by_cases hl : wrap64 ((l0.length : Int) + (l1.length : Int)) > 1048576
  · rw [if_pos hl]
  rw [if_neg hl]
  rename_i h1 h2 h3 h4
  have hl' : l0.length + l1.length ≤ 1048576 := by
    unfold maxLen at *
    rw [w64 (by omega) (by omega)] at hl; omega
  have hB0 : Bytes l0 := ⟨by omega, fun x hx => ⟨wf_u8_lo (hw0 x hx), wf_u8_hi (hw0 x hx)⟩⟩
  have hB1 : Bytes l1 := ⟨by omega, fun x hx => ⟨wf_u8_lo (hw1 x hx), wf_u8_hi (hw1 x hx)⟩⟩
  obtain ⟨b, u1, u2, e, b1, b2, x0, x1⟩ := divisor_ok hB0 0 0 (by omega) (by omega)
  unfold spec_DrawPlanMul.f spec_DrawMagicFor.f
  rw [e]; simp only [Option.bind_some]
  obtain ⟨p1, p2⟩ := plans 1100000 (by omega) b
  rw [p1, p2]; simp only [Option.bind_some, bne_self_eq_false, Bool.false_eq_true, if_false]
  have hlen : (plan b).length ≤ 9 := by
    unfold plan
    have := (pl_len 17 b 1).1
    split
    · omega
    · simp
  rw [same_self 1100000 (plan b) (by omega) (by omega)]; simp only [Option.bind_some]
  simp only [laws_FnPlans.j0]
  rw [if_neg (by decide)]
  by_cases c : 0 ≤ b ∧ b ≤ 65535
  · rw [if_pos (by simpa using c)]
    obtain ⟨n, hn, n0, n1⟩ := number 1099999 l1 (by omega) hB1
    rw [hn]; simp only [Option.bind_some]
    have t := emod_in n 131071 (by omega)
    rw [Int.tmod_eq_emod_of_nonneg n0]
    have ew : wrap64 (n % 131071 - 65535) = n % 131071 - 65535 := w64 (by omega) (by omega)
    rw [ew, plan_do 1099999 (by omega) b _ c (by omega)]; simp only [Option.bind_some, if_true]
    have hb : -100000000000 ≤ b * (n % 131071 - 65535) ∧ b * (n % 131071 - 65535) ≤ 100000000000 := by
      have hy : -65535 ≤ n % 131071 - 65535 ∧ n % 131071 - 65535 ≤ 65535 := by omega
      generalize n % 131071 - 65535 = y at *
      have a1 : b * (65535 - y) ≥ 0 := Int.mul_nonneg c.1 (by omega)
      have a2 : b * (65535 + y) ≥ 0 := Int.mul_nonneg c.1 (by omega)
      simp only [Int.mul_sub, Int.mul_add] at a1 a2
      omega
    rw [if_pos (by rw [w64 (by omega) (by omega)])]
    simp only [laws_FnPlans.j1]
    rw [if_neg (by simp; omega)]
    have e2 : plan b = pl 17 b 1 := by unfold plan; rw [if_pos c]
    have hg := (pl_gaps 17 b 1 (by omega)).1
    have hi : ∀ x ∈ pl 17 b 1, -1000 ≤ x ∧ x ≤ 1000 := fun x hx => by have := pl_in 17 b 1 (by omega) x hx; omega
    rw [e2] at hlen ⊢
    have := gap_loop (pl 17 b 1).length 1099998 l1 (pl 17 b 1) 1 (by omega) (by omega) (by omega) (by omega) (by omega) hg hi hB1
    exact this
  · rw [if_neg (by simpa using c)]
    exact last 1099999 (by omega) hB1

end Go.Proofs.Ytoilboodndgeeaa.Pure
