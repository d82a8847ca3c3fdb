/- FnCode: code in two parts does what it does whole, looks at just the words that are told, and sets just the names that are told: for all drawn bytes. No condition. -/
import Derived.Test.YtapdpmfijijjfaaPFnCodex11
import Derived.Test.YtapdpmfijijjfaaPlain
namespace Go.Proofs.Ytapdpmfijijjfaa.Pure
open Go Go.RowKit Go.Proofs.Ytapdpmfijijjfaa.PFnCode Go.Proofs.YtapdpmfijijjfaaW.PrintWords Go.Proofs.YtapdpmfijijjfaaW.PrintLast Go.Proofs.Ytapdpmfijijjfaa.Plain

namespace FnCode
/-- What is known of drawn bytes. -/
def Bytes (l : List Int) : Prop := l.length ≤ 1048576 ∧ ∀ x ∈ l, 0 ≤ x ∧ x ≤ 255
theorem bytes_rd {l : List Int} (h : Bytes l) (i : Int) : 0 ≤ rd l i ∧ rd l i ≤ 255 := by
  unfold rd
  rw [List.getD_eq_getElem?_getD]
  by_cases c : i.toNat < l.length
  · rw [List.getElem?_eq_getElem c]; exact h.2 _ (List.getElem_mem c)
  · rw [List.getElem?_eq_none (by omega)]; simp
theorem next_ok {l : List Int} (h : Bytes l) (s1 s2 : Int) (h0 : 0 ≤ s1) (h1 : s1 ≤ 1000000000) :
    ∃ b s2', spec_l1Cur_next.f l s1 s2 = some (b, s1 + 1, s2') ∧ 0 ≤ b ∧ b ≤ 255 := by
  have hr := bytes_rd h s1
  have hl := h.1
  unfold spec_l1Cur_next.f
  rw [w64 (n := s1 + 1) (by omega) (by omega)]
  by_cases c : s1 < (l.length : Int)
  · rw [if_pos c, if_pos h0, if_pos (by omega), w64 (n := rd l s1) (by omega) (by omega)]
    exact ⟨_, _, rfl, hr.1, hr.2⟩
  · rw [if_neg c, if_neg (by omega)]
    refine ⟨_, _, rfl, ?_⟩
    have := and_u64_255 ((IntKind.u64.wrap ((IntKind.u64.wrap ((IntKind.u64.wrap (s2 * 6364136223846793005)))) + 1442695040888963407)) / 1099511627776)
    rw [w64 (by omega) (by omega)]
    exact this
theorem pick_ok {l : List Int} (h : Bytes l) (s1 s2 n : Int) (h0 : 0 ≤ s1) (h1 : s1 ≤ 900000000) :
    ∃ x s1' s2', spec_l1Cur_pick.f l s1 s2 n = some (x, s1', s2') ∧ s1 ≤ s1' ∧ s1' ≤ s1 + 2 ∧ 0 ≤ x ∧ (1 ≤ n → x < n) ∧ x ≤ 65535 := by
  unfold spec_l1Cur_pick.f
  by_cases c : n ≤ 1
  · rw [if_pos c]; exact ⟨_, _, _, rfl, by omega, by omega, by omega, fun _ => by omega, by omega⟩
  · rw [if_neg c]
    obtain ⟨b, t, hb, b0, b1⟩ := next_ok h s1 s2 h0 (by omega)
    rw [hb]; simp only [Option.bind_some]
    by_cases d : n > 200
    · rw [if_pos d]
      obtain ⟨b', t', hb', b0', b1'⟩ := next_ok h (s1 + 1) t (by omega) (by omega)
      rw [hb']; simp only [Option.bind_some]
      rw [if_neg (by omega), w64 (n := b * 256) (by omega) (by omega), w64 (n := b * 256 + b') (by omega) (by omega), Int.tmod_eq_emod_of_nonneg (by omega)]
      have m := emod_in (b * 256 + b') n (by omega)
      have m2 : (b * 256 + b') % n ≤ b * 256 + b' := by
        have e1 := Int.mul_ediv_add_emod (b * 256 + b') n
        have e2 : 0 ≤ n * ((b * 256 + b') / n) := Int.mul_nonneg (by omega) (Int.ediv_nonneg (by omega) (by omega))
        omega
      exact ⟨_, _, _, rfl, by omega, by omega, by omega, fun _ => by omega, by omega⟩
    · rw [if_neg d, if_neg (by omega), Int.tmod_eq_emod_of_nonneg (by omega)]
      have m := emod_in b n (by omega)
      exact ⟨_, _, _, rfl, by omega, by omega, by omega, fun _ => by omega, by omega⟩
theorem one_ok {l : List Int} (h : Bytes l) (s1 s2 n : Int) (h0 : 0 ≤ s1) (h1 : s1 ≤ 900000000) :
    ∃ b s1' s2', spec_l1Cur_one.f l s1 s2 n = some (b, s1', s2') ∧ s1 ≤ s1' ∧ s1' ≤ s1 + 2 := by
  unfold spec_l1Cur_one.f
  obtain ⟨x, s1', s2', e, a, b, _⟩ := pick_ok h s1 s2 n h0 h1
  rw [e]; exact ⟨_, _, _, rfl, a, b⟩
theorem among_ok {l : List Int} (h : Bytes l) (s1 s2 : Int) (q : List Int) (hq : 1 ≤ q.length) (h0 : 0 ≤ s1) (h1 : s1 ≤ 900000000) :
    ∃ x s1' s2', spec_l1Cur_among.f l s1 s2 q = some (x, s1', s2') ∧ s1 ≤ s1' ∧ s1' ≤ s1 + 2 ∧ x ∈ q := by
  unfold spec_l1Cur_among.f
  obtain ⟨x, s1', s2', e, a, b, x0, x1, _⟩ := pick_ok h s1 s2 (q.length : Int) h0 h1
  have x1 := x1 (by omega)
  rw [e]; simp only [Option.bind_some]
  rw [if_pos x0, if_pos x1]
  refine ⟨_, _, _, rfl, a, b, ?_⟩
  have hl : x.toNat < q.length := by omega
  unfold rd
  rw [List.getD_eq_getElem?_getD, List.getElem?_eq_getElem hl]
  exact List.getElem_mem hl
theorem s_in (a l h : Int) : spec_l1In.f a l h = some (decide (l ≤ a ∧ a ≤ h)) := by
  unfold spec_l1In.f
  by_cases c : a ≥ l
  · rw [if_pos c]; simp [show l ≤ a from c]
  · rw [if_neg c]; simp; omega
theorem i_in (a l h : Int) : impl_in.f a l h = some (decide (l ≤ a ∧ a ≤ h)) := by
  unfold impl_in.f
  by_cases c : a ≥ l
  · rw [if_pos c]; simp [show l ≤ a from c]
  · rw [if_neg c]; simp; omega
/-! Code: steps and what makes them good. -/
abbrev I := S53
def nm (v : Int) : Bool := decide (0 ≤ v ∧ v ≤ 7)
def wd (v : Int) : Bool := decide (0 ≤ v ∧ v ≤ 65535)
def gi (o d a b n : Int) : Bool :=
  if o = 1 then nm d && (a == 0 && (b == 0 && wd n)) else if o = 2 then nm d && (nm a && (b == 0 && n == 0)) else if o = 8 then d == 0 && (nm a && (b == 0 && n == 0)) else decide (3 ≤ o ∧ o ≤ 7) && (nm d && (nm a && (nm b && n == 0)))
def gI (x : I) : Bool := gi x.f0 x.f1 x.f2 x.f3 x.f4
def gC (l : List I) : Bool := l.all gI && decide (l.length ≤ 30)

theorem s_name (v : Int) : spec_l3Name.f v = some (nm v) := by unfold spec_l3Name.f nm; rw [s_in]; rfl
theorem s_word (v : Int) : spec_l1Word.f v = some (wd v) := by unfold spec_l1Word.f wd; rw [s_in]; rfl
theorem s_two (v : Int) : spec_l3Two.f v = some (decide (3 ≤ v ∧ v ≤ 7)) := by unfold spec_l3Two.f; rw [s_in]; rfl
theorem i_name (v : Int) : impl_isName.f v = some (nm v) := by unfold impl_isName.f nm; rw [i_in]; rfl
theorem i_word (v : Int) : impl_isWord.f v = some (wd v) := by unfold impl_isWord.f wd; rw [i_in]; rfl
theorem nm0 : nm 0 = true := by decide
theorem wd0 : wd 0 = true := by decide

theorem s_good (o d a b n : Int) : spec_l3Good.f o d a b n = some (gi o d a b n) := by
  unfold spec_l3Good.f gi
  rw [s_name, s_name, s_name, s_word, s_two]; simp only [Option.bind_some]
  by_cases c1 : o = 1
  · rw [if_pos c1, if_pos c1]
    cases nm d
    · rfl
    · by_cases a0 : a = 0 <;> by_cases b0 : b = 0 <;> simp [a0, b0]
  · rw [if_neg c1, if_neg c1]
    by_cases c2 : o = 2
    · rw [if_pos c2, if_pos c2]
      cases nm d <;> cases nm a <;> by_cases b0 : b = 0 <;> simp [b0]
    · rw [if_neg c2, if_neg c2]
      by_cases c8 : o = 8
      · rw [if_pos c8, if_pos c8]
        by_cases d0 : d = 0 <;> cases nm a <;> by_cases b0 : b = 0 <;> simp [b0, d0]
      · rw [if_neg c8, if_neg c8]
        by_cases c3 : 3 ≤ o ∧ o ≤ 7
        · have h : decide (3 ≤ o ∧ o ≤ 7) = true := by simpa using c3
          rw [h]
          cases nm d <;> cases nm a <;> cases nm b <;> simp
        · have h : decide (3 ≤ o ∧ o ≤ 7) = false := by simpa using c3
          rw [h]; simp

theorem i_instr (k : Nat) (hk : 2 ≤ k) (o d a b n : Int) : impl_isInstr.f k o d a b n = some (gi o d a b n) := by
  obtain ⟨k, rfl⟩ : ∃ m, k = m + 2 := ⟨k - 2, by omega⟩
  unfold impl_isInstr.f gi
  rw [i_name, i_name, i_name, i_word]; simp only [Option.bind_some, impl_isInstr.j0, impl_isInstr.j1]
  by_cases c1 : o = 1
  · subst c1
    by_cases a0 : a = 0 <;> by_cases b0 : b = 0 <;> cases nm d <;> cases wd n <;> simp [a0, b0, nm0] <;> (try (cases nm a <;> cases nm b <;> simp))
  · by_cases c2 : o = 2
    · subst c2
      by_cases n0 : n = 0 <;> by_cases b0 : b = 0 <;> cases nm d <;> cases nm a <;> simp [n0, b0, nm0, wd0] <;> (try (cases nm b <;> cases wd n <;> simp))
    · by_cases c8 : o = 8
      · subst c8
        by_cases d0 : d = 0 <;> by_cases n0 : n = 0 <;> by_cases b0 : b = 0 <;> cases nm a <;> simp [d0, n0, b0, nm0, wd0] <;> (try (cases nm b <;> cases wd n <;> cases nm d <;> simp))
      · rw [if_neg c1, if_neg c2, if_neg c8]
        by_cases c3 : 3 ≤ o ∧ o ≤ 7
        · have h : decide (3 ≤ o ∧ o ≤ 7) = true := by simpa using c3
          rw [h]
          have ho : o = 3 ∨ o = 4 ∨ o = 5 ∨ o = 6 ∨ o = 7 := by omega
          by_cases n0 : n = 0
          · subst n0
            rcases ho with rfl | rfl | rfl | rfl | rfl <;> cases nm d <;> cases nm a <;> cases nm b <;> simp [wd0]
          · rcases ho with rfl | rfl | rfl | rfl | rfl <;> cases nm d <;> cases nm a <;> cases nm b <;> cases wd n <;> simp [n0]
        · have h : decide (3 ≤ o ∧ o ≤ 7) = false := by simpa using c3
          rw [h]
          have e3 : ¬ o = 3 := by omega
          have e4 : ¬ o = 4 := by omega
          have e5 : ¬ o = 5 := by omega
          have e6 : ¬ o = 6 := by omega
          have e7 : ¬ o = 7 := by omega
          cases nm d <;> cases nm a <;> cases nm b <;> cases wd n <;> simp [c1, c2, c8, e3, e4, e5, e6, e7]

theorem rdI_drop {l : List I} {i : Nat} (h : i < l.length) : l.drop i = rd_T53 l (i : Int) :: l.drop (i + 1) := by
  rw [List.drop_eq_getElem_cons h]
  unfold rd_T53
  rw [Int.toNat_natCast, List.getD_eq_getElem?_getD, List.getElem?_eq_getElem h]; rfl

theorem s_code_loop (m : Nat) : ∀ (k : Nat) (x0 l : List I) (i : Nat), i ≤ l.length → l.length - i = m → m < k → l.length ≤ 2000000 →
    spec_GoodCode.l0 k x0 l (l.length : Int) (i : Int) = some ((l.drop i).all gI && decide (x0.length ≤ 30)) := by
  induction m with
  | zero =>
    intro k x0 l i h1 hd hk hn
    obtain ⟨k, rfl⟩ : ∃ m, k = m + 1 := ⟨k - 1, by omega⟩
    simp only [spec_GoodCode.l0]
    rw [if_neg (by omega), List.drop_of_length_le (by omega)]
    have e : decide ((x0.length : Int) ≤ 30) = decide (x0.length ≤ 30) := by congr 1; apply propext; omega
    rw [e]; simp
  | succ m ih =>
    intro k x0 l i h1 hd hk hn
    obtain ⟨k, rfl⟩ : ∃ m, k = m + 1 := ⟨k - 1, by omega⟩
    simp only [spec_GoodCode.l0]
    have wi : wrap64 ((i : Int) + 1) = ((i + 1 : Nat) : Int) := by rw [w64 (by omega) (by omega)]; omega
    rw [if_pos (show (i : Int) < (l.length : Int) by omega), if_pos (show 0 ≤ (i : Int) by omega), if_pos (show (i : Int) < (l.length : Int) by omega), s_good, wi, rdI_drop (l := l) (i := i) (by omega)]
    simp only [Option.bind_some, List.all_cons]
    show (if gI (rd_T53 l (i : Int)) = true then _ else _) = _
    cases h : gI (rd_T53 l (i : Int))
    · simp
    · rw [if_pos rfl, ih k x0 l (i + 1) (by omega) (by omega) (by omega) hn]; simp
theorem s_code (k : Nat) (l : List I) (hk : l.length < k) (hn : l.length ≤ 2000000) : spec_GoodCode.f k l = some (gC l) := by
  unfold spec_GoodCode.f gC
  have h := s_code_loop l.length k l l 0 (by omega) (by omega) hk hn
  rw [List.drop_zero] at h
  exact h
theorem i_index_loop (m : Nat) : ∀ (k : Nat) (l : List I) (i : Nat), i ≤ l.length → l.length - i = m → m + 2 < k → l.length ≤ 2000000 →
    ∃ r, slices_IndexFunc_v50.l0 k l (l.length : Int) (i : Int) = some r ∧ decide (r ≥ 0) = !(l.drop i).all gI := by
  induction m with
  | zero =>
    intro k l i h1 hd hk hn
    obtain ⟨k, rfl⟩ : ∃ m, k = m + 1 := ⟨k - 1, by omega⟩
    simp only [slices_IndexFunc_v50.l0]
    rw [if_neg (by omega), List.drop_of_length_le (by omega)]
    exact ⟨_, rfl, by decide⟩
  | succ m ih =>
    intro k l i h1 hd hk hn
    obtain ⟨k, rfl⟩ : ∃ m, k = m + 1 := ⟨k - 1, by omega⟩
    simp only [slices_IndexFunc_v50.l0]
    have wi : wrap64 ((i : Int) + 1) = ((i + 1 : Nat) : Int) := by rw [w64 (by omega) (by omega)]; omega
    unfold impl_isCode_1.f
    rw [if_pos (show (i : Int) < (l.length : Int) by omega), if_pos (show 0 ≤ (i : Int) by omega), if_pos (show (i : Int) < (l.length : Int) by omega), i_instr k (by omega), wi, rdI_drop (l := l) (i := i) (by omega)]
    simp only [Option.bind_some, List.all_cons]
    show ∃ r, (if (!gI (rd_T53 l (i : Int))) = true then _ else _) = _ ∧ _
    cases h : gI (rd_T53 l (i : Int))
    · exact ⟨(i : Int), by simp, by simp⟩
    · obtain ⟨r, e1, e2⟩ := ih k l (i + 1) (by omega) (by omega) (by omega) hn
      exact ⟨r, by simpa using e1, by simpa using e2⟩
theorem i_code (k : Nat) (l : List I) (hk : l.length + 2 < k) (hn : l.length ≤ 2000000) : impl_isCode.f k l = some (gC l) := by
  unfold impl_isCode.f gC
  by_cases c : l.length ≤ 30
  · rw [if_pos (by omega)]
    unfold slices_ContainsFunc_v50.f slices_IndexFunc_v50.f
    obtain ⟨r, e1, e2⟩ := i_index_loop l.length k l 0 (by omega) (by omega) hk hn
    rw [show ((0 : Nat) : Int) = 0 from rfl] at e1
    rw [List.drop_zero] at e2
    rw [e1]; simp only [Option.bind_some]
    rw [e2]; simp [c]
  · rw [if_neg (by omega)]; simp [c]

/-! The law's own words. -/
/-! Strictly growing lists: what is sorted and compacted, what is put in one by one. -/
theorem growing_eq : ∀ (a b : List Int), a.Pairwise (· < ·) → b.Pairwise (· < ·) → (∀ x, x ∈ a ↔ x ∈ b) → a = b
  | [], [], _, _, _ => rfl
  | [], y :: b, _, _, h => absurd ((h y).2 (List.mem_cons_self ..)) (by simp)
  | x :: a, [], _, _, h => absurd ((h x).1 (List.mem_cons_self ..)) (by simp)
  | x :: a, y :: b, ha, hb, h => by
    rw [List.pairwise_cons] at ha hb
    have hxy : x = y := by
      rcases List.mem_cons.1 ((h x).1 (List.mem_cons_self ..)) with e | e
      · exact e
      · rcases List.mem_cons.1 ((h y).2 (List.mem_cons_self ..)) with e2 | e2
        · exact e2.symm
        · have h1 := hb.1 x e
          have h2 := ha.1 y e2
          omega
    subst hxy
    congr 1
    refine growing_eq a b ha.2 hb.2 (fun z => ⟨fun hz => ?_, fun hz => ?_⟩)
    · rcases List.mem_cons.1 ((h z).1 (List.mem_cons_of_mem _ hz)) with e | e
      · have := ha.1 z hz; omega
      · exact e
    · rcases List.mem_cons.1 ((h z).2 (List.mem_cons_of_mem _ hz)) with e | e
      · have := hb.1 z hz; omega
      · exact e
def ins : List Int → Int → List Int
  | [], n => [n]
  | x :: l, n => if x < n then x :: ins l n else if x = n then x :: l else n :: x :: l
theorem mem_ins (l : List Int) (n x : Int) : x ∈ ins l n ↔ x ∈ l ∨ x = n := by
  induction l with
  | nil => simp [ins]
  | cons y l ih =>
    unfold ins
    by_cases c : y < n
    · rw [if_pos c, List.mem_cons, ih, List.mem_cons]; exact ⟨fun h => by rcases h with h | h | h <;> simp [h], fun h => by rcases h with (h | h) | h <;> simp [h]⟩
    · rw [if_neg c]
      by_cases e : y = n
      · rw [if_pos e, List.mem_cons]; subst e; exact ⟨fun h => .inl h, fun h => by rcases h with h | h; exact h; exact .inl h⟩
      · rw [if_neg e]; simp only [List.mem_cons]; exact ⟨fun h => by rcases h with h | h | h <;> simp [h], fun h => by rcases h with (h | h) | h <;> simp [h]⟩
theorem ins_growing (l : List Int) (n : Int) (h : l.Pairwise (· < ·)) : (ins l n).Pairwise (· < ·) := by
  induction l with
  | nil => simp [ins]
  | cons y l ih =>
    rw [List.pairwise_cons] at h
    unfold ins
    by_cases c : y < n
    · rw [if_pos c, List.pairwise_cons]
      refine ⟨fun z hz => ?_, ih h.2⟩
      rcases (mem_ins l n z).1 hz with hz | rfl
      · exact h.1 z hz
      · exact c
    · rw [if_neg c]
      by_cases e : y = n
      · rw [if_pos e, List.pairwise_cons]; exact h
      · rw [if_neg e, List.pairwise_cons]
        refine ⟨fun z hz => ?_, List.pairwise_cons.2 h⟩
        rcases List.mem_cons.1 hz with rfl | hz
        · omega
        · have := h.1 z hz; omega
theorem ins_len (l : List Int) (n : Int) : (ins l n).length ≤ l.length + 1 := by
  induction l with
  | nil => simp [ins]
  | cons y l ih => unfold ins; (repeat' split) <;> simp <;> omega
theorem foldl_ins (xs : List Int) : ∀ acc : List Int, acc.Pairwise (· < ·) → (xs.foldl ins acc).Pairwise (· < ·) ∧ ∀ x, x ∈ xs.foldl ins acc ↔ x ∈ acc ∨ x ∈ xs := by
  induction xs with
  | nil => intro acc h; exact ⟨h, fun x => by simp⟩
  | cons y xs ih =>
    intro acc h
    obtain ⟨h1, h2⟩ := ih (ins acc y) (ins_growing acc y h)
    refine ⟨h1, fun x => ?_⟩
    show x ∈ xs.foldl ins (ins acc y) ↔ _
    rw [h2 x, mem_ins, List.mem_cons, or_assoc]
theorem compact_growing (s : List Int) (hs : s.Pairwise (· ≤ ·)) (m : Nat) (hm : m ≤ s.length) : (Lib.compactUpTo s.toArray m).Pairwise (· < ·) ∧ ∀ x, x ∈ Lib.compactUpTo s.toArray m ↔ ∃ j, j < m ∧ s[j]? = some x := by
  have get : ∀ j, j < s.length → s[j]? = some (s.toArray[j]!) := by
    intro j hj
    rw [List.getElem?_eq_getElem hj, getElem!_pos _ j (by simpa using hj)]; simp
  have mono : ∀ i j, i < j → j < s.length → s.toArray[i]! ≤ s.toArray[j]! := by
    intro i j hij hj
    have h := List.pairwise_iff_getElem.1 hs i j (by omega) hj hij
    rw [getElem!_pos _ i (by simp; omega), getElem!_pos _ j (by simpa using hj)]; simpa using h
  induction m with
  | zero => exact ⟨by simp [Lib.compactUpTo], fun x => by simp [Lib.compactUpTo]⟩
  | succ m ih =>
    obtain ⟨h1, h2⟩ := ih (by omega)
    rw [Lib.compactUpTo_succ]
    by_cases hk : Lib.keeps s.toArray m = true
    · rw [if_pos hk]
      have hk' : m = 0 ∨ s.toArray[m]! ≠ s.toArray[m - 1]! := by unfold Lib.keeps at hk; exact of_decide_eq_true hk
      refine ⟨List.pairwise_append.2 ⟨h1, by simp, fun a ha b hb => ?_⟩, fun x => ?_⟩
      · obtain ⟨j, hj, e⟩ := (h2 a).1 ha
        rw [List.mem_singleton] at hb
        subst hb
        rw [get j (by omega)] at e
        have e := Option.some.inj e
        rcases hk' with h0 | h0
        · omega
        · have l1 : s.toArray[m - 1]! ≤ s.toArray[m]! := mono (m - 1) m (by omega) (by omega)
          have l2 : s.toArray[j]! ≤ s.toArray[m - 1]! := by
            by_cases q : j = m - 1
            · rw [q]; exact Int.le_refl _
            · exact mono j (m - 1) (by omega) (by omega)
          rw [← e]; omega
      · rw [List.mem_append, h2 x, List.mem_singleton]
        refine ⟨fun h => ?_, fun h => ?_⟩
        · rcases h with ⟨j, hj, e⟩ | rfl
          · exact ⟨j, by omega, e⟩
          · exact ⟨m, by omega, get m (by omega)⟩
        · obtain ⟨j, hj, e⟩ := h
          by_cases q : j = m
          · subst q; rw [get j (by omega)] at e; exact .inr (Option.some.inj e).symm
          · exact .inl ⟨j, by omega, e⟩
    · rw [if_neg hk, List.append_nil]
      have hk' : ¬ (m = 0 ∨ s.toArray[m]! ≠ s.toArray[m - 1]!) := fun h => hk (by unfold Lib.keeps; exact decide_eq_true h)
      have hm0 : m ≠ 0 := fun h => hk' (.inl h)
      have heq : s.toArray[m]! = s.toArray[m - 1]! := by
        by_cases q : s.toArray[m]! = s.toArray[m - 1]!
        · exact q
        · exact absurd (.inr q) hk'
      refine ⟨h1, fun x => ?_⟩
      rw [h2 x]
      refine ⟨fun ⟨j, hj, e⟩ => ⟨j, by omega, e⟩, fun ⟨j, hj, e⟩ => ?_⟩
      by_cases q : j = m
      · subst q; rw [get j (by omega), heq, ← get (j - 1) (by omega)] at e; exact ⟨j - 1, by omega, e⟩
      · exact ⟨j, by omega, e⟩
theorem compact_sort (xs : List Int) : Lib.compact (xs.mergeSort fun x y => decide (x ≤ y)) = xs.foldl ins [] := by
  have hs : (xs.mergeSort fun x y => decide (x ≤ y)).Pairwise (· ≤ ·) := by
    have h := List.pairwise_mergeSort (le := fun (x y : Int) => decide (x ≤ y)) (fun a b c h1 h2 => by simp at h1 h2 ⊢; omega) (fun a b => by simp; omega) xs
    exact h.imp (fun h => by simpa using h)
  obtain ⟨h1, h2⟩ := compact_growing _ hs _ (Nat.le_refl _)
  obtain ⟨h3, h4⟩ := foldl_ins xs [] List.Pairwise.nil
  refine growing_eq _ _ h1 h3 (fun x => ?_)
  show x ∈ Lib.compactUpTo _ _ ↔ _
  rw [h2 x, h4 x]
  refine ⟨fun ⟨j, _, e⟩ => .inr ?_, fun h => ?_⟩
  · exact (List.mem_mergeSort (l := xs)).1 (List.mem_of_getElem? e)
  · rcases h with h | h
    · simp at h
    · obtain ⟨j, hj, e⟩ := List.getElem_of_mem ((List.mem_mergeSort (le := fun (x y : Int) => decide (x ≤ y))).2 h)
      exact ⟨j, hj, by rw [List.getElem?_eq_getElem hj, e]⟩
theorem put_loop (m : Nat) : ∀ (k : Nat) (l : List Int) (n : Int) (i : Nat), i ≤ l.length → l.length - i = m → m < k → l.length ≤ 1000000 → spec_l1Put.l0 k l n (i : Int) = some (l.take i ++ ins (l.drop i) n) := by
  induction m with
  | zero =>
    intro k l n i h1 hd hk hn
    obtain ⟨k, rfl⟩ : ∃ m, k = m + 1 := ⟨k - 1, by omega⟩
    simp only [spec_l1Put.l0, Option.bind_some, List.nil_append, List.length_nil, Int.toNat_natCast]
    rw [if_neg (by omega), if_pos (by omega), if_pos (by omega), if_pos (by simp; omega), if_pos (by simp; omega), if_pos (by simp; omega), List.drop_of_length_le (show l.length ≤ i by omega)]
    simp [ins]
  | succ m ih =>
    intro k l n i h1 hd hk hn
    obtain ⟨k, rfl⟩ : ∃ m, k = m + 1 := ⟨k - 1, by omega⟩
    simp only [spec_l1Put.l0, Option.bind_some, List.nil_append, List.length_nil, Int.toNat_natCast]
    have wi : wrap64 ((i : Int) + 1) = ((i + 1 : Nat) : Int) := by rw [w64 (by omega) (by omega)]; omega
    have er : rd l (i : Int) = l[i] := by unfold rd; rw [Int.toNat_natCast, List.getD_eq_getElem?_getD, List.getElem?_eq_getElem (show i < l.length by omega)]; rfl
    rw [if_pos (show (i : Int) < (l.length : Int) by omega), if_pos (show 0 ≤ (i : Int) by omega), er, wi, List.drop_eq_getElem_cons (show i < l.length by omega)]
    unfold ins
    by_cases c : l[i] < n
    · rw [if_pos c, if_pos c, ih k l n (i + 1) (by omega) (by omega) (by omega) hn, List.take_succ_eq_append_getElem (show i < l.length by omega), List.append_assoc]
      rfl
    · rw [if_neg c, if_neg c]
      by_cases e : l[i] = n
      · rw [if_pos e, if_pos e, ← List.drop_eq_getElem_cons, List.take_append_drop]
      · rw [if_neg e, if_neg e, if_pos (by omega), if_pos (by simp; omega), if_pos (by simp; omega), if_pos (by simp; omega)]
        simp
theorem s_put (k : Nat) (l : List Int) (n : Int) (hk : l.length < k) (hn : l.length ≤ 1000000) : spec_l1Put.f k l n = some (ins l n) := by
  have h := put_loop l.length k l n 0 (by omega) (by omega) hk hn
  unfold spec_l1Put.f
  simpa using h
def dsts (l : List I) : List Int := (l.filter (fun x => decide (x.f0 ≠ 8))).map (fun x => x.f1)
theorem dsts_cons (x : I) (l : List I) : dsts (x :: l) = if x.f0 = 8 then dsts l else x.f1 :: dsts l := by
  unfold dsts
  by_cases c : x.f0 = 8 <;> simp [c]
theorem s_ns_loop (m : Nat) : ∀ (k : Nat) (l : List I) (i : Nat) (acc : List Int), i ≤ l.length → l.length - i = m → m + 1000 < k → l.length ≤ 100 → acc.length ≤ i →
    spec_NamesSet.l0 k acc l (l.length : Int) (i : Int) = some ((dsts (l.drop i)).foldl ins acc, true) := by
  induction m with
  | zero =>
    intro k l i acc h1 hd hk hn ha
    obtain ⟨k, rfl⟩ : ∃ m, k = m + 1 := ⟨k - 1, by omega⟩
    simp only [spec_NamesSet.l0]
    rw [if_neg (by omega), List.drop_of_length_le (by omega)]; rfl
  | succ m ih =>
    intro k l i acc h1 hd hk hn ha
    obtain ⟨k, rfl⟩ : ∃ m, k = m + 1 := ⟨k - 1, by omega⟩
    simp only [spec_NamesSet.l0]
    have wi : wrap64 ((i : Int) + 1) = ((i + 1 : Nat) : Int) := by rw [w64 (by omega) (by omega)]; omega
    rw [if_pos (show (i : Int) < (l.length : Int) by omega), if_pos (show 0 ≤ (i : Int) by omega), if_pos (show (i : Int) < (l.length : Int) by omega), wi, rdI_drop (l := l) (i := i) (by omega), dsts_cons]
    by_cases c : (rd_T53 l (i : Int)).f0 = 8
    · rw [if_pos c, if_pos c]
      exact ih k l (i + 1) acc (by omega) (by omega) (by omega) hn (by omega)
    · rw [if_neg c, if_neg c, s_put k acc _ (by omega) (by omega)]
      simp only [Option.bind_some]
      have hl := ins_len acc (rd_T53 l (i : Int)).f1
      exact ih k l (i + 1) _ (by omega) (by omega) (by omega) hn (by omega)
theorem i_ns_loop (m : Nat) : ∀ (k : Nat) (l : List I) (i : Nat) (acc : List Int), i ≤ l.length → l.length - i = m → m + 1000 < k → l.length ≤ 100 → acc.length ≤ i →
    impl_NamesSet.l0 k acc l (l.length : Int) (i : Int) = some ((acc ++ dsts (l.drop i)).foldl ins [], true) := by
  induction m with
  | zero =>
    intro k l i acc h1 hd hk hn ha
    obtain ⟨k, rfl⟩ : ∃ m, k = m + 1 := ⟨k - 1, by omega⟩
    simp only [impl_NamesSet.l0]
    rw [if_neg (by omega), List.drop_of_length_le (by omega)]
    unfold slices_Sort_int_int.f slices_Compact_int_int.f
    rw [if_pos (by omega)]; simp only [Option.bind_some]
    rw [if_pos (by rw [List.length_mergeSort]; omega), compact_sort]
    simp [dsts]
  | succ m ih =>
    intro k l i acc h1 hd hk hn ha
    obtain ⟨k, rfl⟩ : ∃ m, k = m + 1 := ⟨k - 1, by omega⟩
    simp only [impl_NamesSet.l0]
    have wi : wrap64 ((i : Int) + 1) = ((i + 1 : Nat) : Int) := by rw [w64 (by omega) (by omega)]; omega
    rw [if_pos (show (i : Int) < (l.length : Int) by omega), if_pos (show 0 ≤ (i : Int) by omega), if_pos (show (i : Int) < (l.length : Int) by omega), wi, rdI_drop (l := l) (i := i) (by omega), dsts_cons]
    by_cases c : (rd_T53 l (i : Int)).f0 = 8
    · rw [if_pos c, if_pos c]
      exact ih k l (i + 1) acc (by omega) (by omega) (by omega) hn (by omega)
    · rw [if_neg c, if_neg c, if_pos (by omega), ih k l (i + 1) _ (by omega) (by omega) (by omega) hn (by simp; omega), List.append_assoc]
      rfl
def resN (l : List I) : List Int × Bool := if gC l = true then ((dsts l).foldl ins [], true) else ([], false)
theorem gC_leN {l : List I} (h : gC l = true) : l.length ≤ 30 := by
  unfold gC at h; rw [Bool.and_eq_true, decide_eq_true_eq] at h; exact h.2
theorem fold_len (xs : List Int) : ∀ acc : List Int, (xs.foldl ins acc).length ≤ acc.length + xs.length := by
  induction xs with
  | nil => intro acc; simp
  | cons y xs ih =>
    intro acc
    have h := ih (ins acc y)
    have h2 := ins_len acc y
    show (xs.foldl ins (ins acc y)).length ≤ _
    rw [List.length_cons]; omega
theorem resN_len (l : List I) : (resN l).1.length ≤ 30 := by
  unfold resN
  by_cases c : gC l = true
  · rw [if_pos c]
    have h := fold_len (dsts l) []
    have h2 : (dsts l).length ≤ l.length := by unfold dsts; rw [List.length_map]; exact List.length_filter_le _ _
    have h3 := gC_leN c
    show ((dsts l).foldl ins []).length ≤ 30
    rw [List.length_nil] at h
    omega
  · rw [if_neg c]; simp
theorem s_resN (k : Nat) (l : List I) (hk : 1500000 < k) (hl : l.length ≤ 1048576) : spec_NamesSet.f k l = some (resN l) := by
  unfold spec_NamesSet.f resN
  rw [s_code k l (by omega) (by omega)]
  simp only [Option.bind_some]
  by_cases c : gC l = true
  · rw [if_pos c, if_pos c]
    have h := s_ns_loop l.length k l 0 [] (by omega) (by omega) (by have := gC_leN c; omega) (by have := gC_leN c; omega) (by simp)
    rw [List.drop_zero] at h
    exact h
  · rw [if_neg c, if_neg c]
theorem i_resN (k : Nat) (l : List I) (hk : 1500000 < k) (hl : l.length ≤ 1048576) : impl_NamesSet.f k l = some (resN l) := by
  unfold impl_NamesSet.f resN
  rw [i_code k l (by omega) (by omega)]
  simp only [Option.bind_some]
  by_cases c : gC l = true
  · rw [if_pos c, if_pos c]
    have h := i_ns_loop l.length k l 0 [] (by omega) (by omega) (by have := gC_leN c; omega) (by have := gC_leN c; omega) (by simp)
    rw [List.drop_zero, List.nil_append] at h
    exact h
  · rw [if_neg c, if_neg c]
/-! The names that code looks at before it sets them. -/
def uses (x : I) : List Int := if x.f0 = 1 then [] else if x.f0 = 2 ∨ x.f0 = 8 then [x.f2] else [x.f2, x.f3]
def need : List I → List Int → List Int
  | [], _ => []
  | x :: l, S => (uses x).filter (fun v => decide (v ∉ S)) ++ need l (if x.f0 = 8 then S else x.f1 :: S)
theorem need_congr : ∀ (l : List I) (S T : List Int), (∀ v, v ∈ S ↔ v ∈ T) → need l S = need l T
  | [], _, _, _ => rfl
  | x :: l, S, T, h => by
    unfold need
    congr 1
    · congr 1; funext v; rw [decide_eq_decide]; exact not_congr (h v)
    · by_cases c : x.f0 = 8
      · rw [if_pos c, if_pos c]; exact need_congr l S T h
      · rw [if_neg c, if_neg c]; exact need_congr l _ _ (fun v => by simp only [List.mem_cons]; rw [h v])
theorem nm_iff {v : Int} : nm v = true ↔ 0 ≤ v ∧ v ≤ 7 := by simp [nm]
theorem uses_len (x : I) : (uses x).length ≤ 2 := by unfold uses; (repeat' split) <;> simp
theorem gI_names {x : I} (h : gI x = true) : (0 ≤ x.f1 ∧ x.f1 ≤ 7) ∧ ∀ v ∈ uses x, 0 ≤ v ∧ v ≤ 7 := by
  unfold gI gi at h
  unfold uses
  by_cases c1 : x.f0 = 1
  · rw [if_pos c1] at h ⊢
    simp only [Bool.and_eq_true, nm_iff] at h
    exact ⟨h.1, fun v hv => by simp at hv⟩
  · rw [if_neg c1] at h ⊢
    by_cases c2 : x.f0 = 2
    · rw [if_pos c2] at h; rw [if_pos (.inl c2)]
      simp only [Bool.and_eq_true, nm_iff] at h
      exact ⟨h.1, fun v hv => by rw [List.mem_singleton] at hv; subst hv; exact h.2.1⟩
    · rw [if_neg c2] at h
      by_cases c8 : x.f0 = 8
      · rw [if_pos c8] at h; rw [if_pos (.inr c8)]
        simp only [Bool.and_eq_true, nm_iff, beq_iff_eq] at h
        exact ⟨by omega, fun v hv => by rw [List.mem_singleton] at hv; subst hv; exact h.2.1⟩
      · rw [if_neg c8] at h; rw [if_neg (by omega)]
        simp only [Bool.and_eq_true, nm_iff] at h
        refine ⟨h.2.1, fun v hv => ?_⟩
        simp only [List.mem_cons, List.not_mem_nil, or_false] at hv
        rcases hv with rfl | rfl
        · exact h.2.2.1
        · exact h.2.2.2.1
theorem i_uses (x : I) : impl_Instr_looks.f x.f0 x.f1 x.f2 x.f3 x.f4 = some (uses x) := by
  unfold impl_Instr_looks.f uses
  by_cases c1 : x.f0 = 1
  · rw [if_pos c1, if_pos c1]
  · rw [if_neg c1, if_neg c1]
    by_cases c2 : x.f0 = 2
    · rw [if_pos c2, if_pos (.inl c2)]
    · rw [if_neg c2]
      by_cases c8 : x.f0 = 8
      · rw [if_pos c8, if_pos (.inr c8)]
      · rw [if_neg c8, if_neg (by omega)]
theorem s_uses {x : I} (h : gI x = true) : spec_l3Uses.f x.f0 x.f1 x.f2 x.f3 x.f4 = some (uses x) := by
  unfold spec_l3Uses.f uses
  rw [s_two]; simp only [Option.bind_some]
  by_cases c1 : x.f0 = 1
  · rw [if_pos c1, if_pos c1]
  · rw [if_neg c1, if_neg c1]
    by_cases c2 : x.f0 = 2
    · rw [if_neg (by simp; omega), if_pos (.inl c2)]
    · by_cases c8 : x.f0 = 8
      · rw [if_neg (by simp; omega), if_pos (.inr c8)]
      · have g : 3 ≤ x.f0 ∧ x.f0 ≤ 7 := by
          unfold gI gi at h
          rw [if_neg c1, if_neg c2, if_neg c8, Bool.and_eq_true] at h
          simpa using h.1
        rw [if_pos (by simpa using g), if_neg (by omega)]
theorem has_loop (m : Nat) : ∀ (k : Nat) (l : List Int) (n : Int) (i : Nat), i ≤ l.length → l.length - i = m → m < k → l.length ≤ 1000000 → spec_l1Has.l0 k n l (l.length : Int) (i : Int) = some (decide (n ∈ l.drop i)) := by
  induction m with
  | zero =>
    intro k l n i h1 hd hk hn
    obtain ⟨k, rfl⟩ : ∃ m, k = m + 1 := ⟨k - 1, by omega⟩
    simp only [spec_l1Has.l0]
    rw [if_neg (by omega), List.drop_of_length_le (by omega)]; simp
  | succ m ih =>
    intro k l n i h1 hd hk hn
    obtain ⟨k, rfl⟩ : ∃ m, k = m + 1 := ⟨k - 1, by omega⟩
    simp only [spec_l1Has.l0]
    have wi : wrap64 ((i : Int) + 1) = ((i + 1 : Nat) : Int) := by rw [w64 (by omega) (by omega)]; omega
    have er : rd l (i : Int) = l[i] := by unfold rd; rw [Int.toNat_natCast, List.getD_eq_getElem?_getD, List.getElem?_eq_getElem (show i < l.length by omega)]; rfl
    rw [if_pos (show (i : Int) < (l.length : Int) by omega), if_pos (show 0 ≤ (i : Int) by omega), if_pos (show (i : Int) < (l.length : Int) by omega), er, wi, List.drop_eq_getElem_cons (show i < l.length by omega)]
    by_cases c : l[i] = n
    · rw [if_pos c]; simp [c]
    · rw [if_neg c, ih k l n (i + 1) (by omega) (by omega) (by omega) hn]
      congr 1
      rw [decide_eq_decide, List.mem_cons]
      exact ⟨fun h => .inr h, fun h => h.resolve_left (fun e => c e.symm)⟩
theorem s_has (k : Nat) (l : List Int) (n : Int) (hk : l.length < k) (hn : l.length ≤ 1000000) : spec_l1Has.f k l n = some (decide (n ∈ l)) := by
  have h := has_loop l.length k l n 0 (by omega) (by omega) hk hn
  unfold spec_l1Has.f
  rw [List.drop_zero] at h
  exact h
/-- The reference's inner loop. -/
theorem s_in_loop (ys : List Int) (hy : ys.length ≤ 2) (m : Nat) : ∀ (k : Nat) (st out : List Int) (l : List I) (i : Int) (j : Nat) (a b c d e : Int), j ≤ ys.length → ys.length - j = m → 300 < k → st.length ≤ 100 → out.length + m ≤ 200 →
    spec_NamesNeeded.l1 (k + m + 1) st out l (l.length : Int) i ys (ys.length : Int) (j : Int) a b c d e =
      (if a = 8 then (spec_NamesNeeded.l0 (k + 0) st (((ys.drop j).filter (fun v => decide (v ∉ st))).foldl ins out) l (l.length : Int) (wrap64 (i + 1))) else ((spec_l1Put.f (k + 0) st b).bind fun t => (spec_NamesNeeded.l0 (k + 0) t (((ys.drop j).filter (fun v => decide (v ∉ st))).foldl ins out) l (l.length : Int) (wrap64 (i + 1))))) := by
  induction m with
  | zero =>
    intro k st out l i j a b c d e h1 hd hk hs ho
    simp only [spec_NamesNeeded.l1]
    rw [if_neg (by omega), List.drop_of_length_le (by omega)]; rfl
  | succ m ih =>
    intro k st out l i j a b c d e h1 hd hk hs ho
    rw [show k + (m + 1) + 1 = (k + m + 1) + 1 by omega]
    simp only [spec_NamesNeeded.l1]
    have wi : wrap64 ((j : Int) + 1) = ((j + 1 : Nat) : Int) := by rw [w64 (by omega) (by omega)]; omega
    have er : rd ys (j : Int) = ys[j] := by unfold rd; rw [Int.toNat_natCast, List.getD_eq_getElem?_getD, List.getElem?_eq_getElem (show j < ys.length by omega)]; rfl
    rw [if_pos (show (j : Int) < (ys.length : Int) by omega), if_pos (show 0 ≤ (j : Int) by omega), if_pos (show (j : Int) < (ys.length : Int) by omega), er, wi, s_has _ st _ (by omega) (by omega), List.drop_eq_getElem_cons (show j < ys.length by omega)]
    simp only [Option.bind_some]
    by_cases cm : ys[j] ∈ st
    · rw [if_pos (by simpa using cm), List.filter_cons_of_neg (by simpa using cm)]
      exact ih k st out l i (j + 1) a b c d e (by omega) (by omega) hk hs (by omega)
    · rw [if_neg (by simpa using cm), List.filter_cons_of_pos (by simpa using cm), s_put _ out _ (by omega) (by omega)]
      simp only [Option.bind_some, List.foldl_cons]
      have hl := ins_len out ys[j]
      exact ih k st _ l i (j + 1) a b c d e (by omega) (by omega) hk hs (by omega)
theorem fold_len2 (xs : List Int) : ∀ acc : List Int, (xs.foldl ins acc).length ≤ acc.length + xs.length := by
  induction xs with
  | nil => intro acc; simp
  | cons y xs ih =>
    intro acc
    have h := ih (ins acc y)
    have h2 := ins_len acc y
    show (xs.foldl ins (ins acc y)).length ≤ _
    rw [List.length_cons]; omega
theorem s_nn_loop (m : Nat) : ∀ (k : Nat) (l : List I) (i : Nat) (st out : List Int), i ≤ l.length → l.length - i = m → 10 * m + 1000 < k → l.length ≤ 30 → st.length ≤ i → out.length ≤ 2 * i → (l.drop i).all gI = true →
    spec_NamesNeeded.l0 k st out l (l.length : Int) (i : Int) = some ((need (l.drop i) st).foldl ins out, true) := by
  induction m with
  | zero =>
    intro k l i st out h1 hd hk hn hs ho hg
    obtain ⟨k, rfl⟩ : ∃ m, k = m + 1 := ⟨k - 1, by omega⟩
    simp only [spec_NamesNeeded.l0]
    rw [if_neg (by omega), List.drop_of_length_le (by omega)]; rfl
  | succ m ih =>
    intro k l i st out h1 hd hk hn hs ho hg
    obtain ⟨k, rfl⟩ : ∃ m, k = m + 1 := ⟨k - 1, by omega⟩
    simp only [spec_NamesNeeded.l0]
    have wi : wrap64 ((i : Int) + 1) = ((i + 1 : Nat) : Int) := by rw [w64 (by omega) (by omega)]; omega
    rw [rdI_drop (l := l) (i := i) (by omega)] at hg
    rw [if_pos (show (i : Int) < (l.length : Int) by omega), if_pos (show 0 ≤ (i : Int) by omega), if_pos (show (i : Int) < (l.length : Int) by omega), rdI_drop (l := l) (i := i) (by omega)]
    simp only [List.all_cons, Bool.and_eq_true] at hg
    generalize rd_T53 l (i : Int) = x at hg ⊢
    have hu := uses_len x
    rw [s_uses hg.1]; simp only [Option.bind_some]
    obtain ⟨q, hq⟩ : ∃ q, k = q + (uses x).length + 1 := ⟨k - (uses x).length - 1, by omega⟩
    rw [hq, show (0 : Int) = ((0 : Nat) : Int) from rfl, s_in_loop (uses x) hu (uses x).length q st out l (i : Int) 0 x.f0 x.f1 x.f2 x.f3 x.f4 (by omega) (by omega) (by omega) (by omega) (by omega), List.drop_zero, wi, Nat.add_zero]
    unfold need
    rw [List.foldl_append]
    have hf : ((uses x).filter (fun v => decide (v ∉ st))).length ≤ 2 := Nat.le_trans (List.length_filter_le _ _) hu
    have hl := fold_len2 ((uses x).filter (fun v => decide (v ∉ st))) out
    by_cases c : x.f0 = 8
    · rw [if_pos c, if_pos c]
      exact ih q l (i + 1) st _ (by omega) (by omega) (by omega) hn (by omega) (by omega) hg.2
    · rw [if_neg c, if_neg c, s_put q st _ (by omega) (by omega)]
      simp only [Option.bind_some]
      have hl2 := ins_len st x.f1
      rw [ih q l (i + 1) (ins st x.f1) _ (by omega) (by omega) (by omega) hn (by omega) (by omega) hg.2, need_congr _ (ins st x.f1) (x.f1 :: st) (fun v => by rw [mem_ins, List.mem_cons]; exact or_comm)]
theorem add_ok (bs : List Bool) (S : List Int) (hS : ∀ v : Int, 0 ≤ v → v ≤ 7 → (bs.getD v.toNat false = true ↔ v ∈ S)) : ∀ (ys out : List Int), (∀ v ∈ ys, 0 ≤ v ∧ v ≤ 7) → out.length + ys.length ≤ 1000000 → impl_NamesNeeded.add bs out ys = some (out ++ ys.filter (fun v => decide (v ∉ S)))
  | [], out, _, _ => by simp [impl_NamesNeeded.add]
  | v :: ys, out, h, hl => by
    rw [List.length_cons] at hl
    have hv := h v (List.mem_cons_self ..)
    have hr := fun u hu => h u (List.mem_cons_of_mem v hu)
    simp only [impl_NamesNeeded.add]
    rw [if_pos hv.1, if_pos (by omega)]
    by_cases c : v ∈ S
    · rw [if_pos ((hS v hv.1 hv.2).2 c), List.filter_cons_of_neg (by simpa using c)]
      exact add_ok bs S hS ys out hr (by omega)
    · rw [if_neg (fun e => c ((hS v hv.1 hv.2).1 e)), List.filter_cons_of_pos (by simpa using c), if_pos (by omega), add_ok bs S hS ys (out ++ [v]) hr (by simp; omega)]
      simp
theorem i_nn_loop (m : Nat) : ∀ (k : Nat) (l : List I) (i : Nat) (bs : List Bool) (S acc : List Int), i ≤ l.length → l.length - i = m → m + 1000 < k → l.length ≤ 30 → acc.length ≤ 2 * i → bs.length = 8 → (∀ v : Int, 0 ≤ v → v ≤ 7 → (bs.getD v.toNat false = true ↔ v ∈ S)) → (l.drop i).all gI = true →
    impl_NamesNeeded.l0 k bs acc l (i : Int) = some ((acc ++ need (l.drop i) S).foldl ins [], true) := by
  induction m with
  | zero =>
    intro k l i bs S acc h1 hd hk hn ha hb hS hg
    obtain ⟨k, rfl⟩ : ∃ m, k = m + 1 := ⟨k - 1, by omega⟩
    simp only [impl_NamesNeeded.l0]
    rw [if_neg (by omega), List.drop_of_length_le (by omega)]
    unfold slices_Sort_int_int.f slices_Compact_int_int.f
    rw [if_pos (by omega)]; simp only [Option.bind_some]
    rw [if_pos (by rw [List.length_mergeSort]; omega), compact_sort]
    simp [need]
  | succ m ih =>
    intro k l i bs S acc h1 hd hk hn ha hb hS hg
    obtain ⟨k, rfl⟩ : ∃ m, k = m + 1 := ⟨k - 1, by omega⟩
    simp only [impl_NamesNeeded.l0]
    have wi : wrap64 ((i : Int) + 1) = ((i + 1 : Nat) : Int) := by rw [w64 (by omega) (by omega)]; omega
    rw [rdI_drop (l := l) (i := i) (by omega)] at hg
    rw [if_pos (show (i : Int) < (l.length : Int) by omega), if_pos (show 0 ≤ (i : Int) by omega), rdI_drop (l := l) (i := i) (by omega), wi]
    simp only [List.all_cons, Bool.and_eq_true] at hg
    generalize rd_T53 l (i : Int) = x at hg ⊢
    have hu := uses_len x
    have hn2 := gI_names hg.1
    rw [i_uses]; simp only [Option.bind_some]
    rw [add_ok bs S hS (uses x) acc hn2.2 (by omega)]; simp only [Option.bind_some]
    have hf : ((uses x).filter (fun v => decide (v ∉ S))).length ≤ 2 := Nat.le_trans (List.length_filter_le _ _) hu
    unfold need
    rw [← List.append_assoc]
    by_cases c : x.f0 = 8
    · rw [if_pos c, if_pos c]
      exact ih k l (i + 1) bs S _ (by omega) (by omega) (by omega) hn (by rw [List.length_append]; omega) hb hS hg.2
    · rw [if_neg c, if_neg c, if_pos hn2.1.1, if_pos (by omega)]
      refine ih k l (i + 1) (bs.set x.f1.toNat true) (x.f1 :: S) _ (by omega) (by omega) (by omega) hn (by rw [List.length_append]; omega) (by rw [List.length_set]; exact hb) (fun v v0 v1 => ?_) hg.2
      rw [List.mem_cons, ← hS v v0 v1, List.getD_eq_getElem?_getD, List.getD_eq_getElem?_getD, List.getElem?_set]
      by_cases e : x.f1 = v
      · subst e; rw [if_pos rfl, if_pos (by omega)]; simp
      · rw [if_neg (by omega)]
        exact ⟨fun h => .inr h, fun h => h.resolve_left (fun e2 => e e2.symm)⟩
def resD (l : List I) : List Int × Bool := if gC l = true then ((need l []).foldl ins [], true) else ([], false)
theorem gC_le {l : List I} (h : gC l = true) : l.length ≤ 30 := by
  unfold gC at h; rw [Bool.and_eq_true, decide_eq_true_eq] at h; exact h.2
theorem gC_all {l : List I} (h : gC l = true) : l.all gI = true := by
  unfold gC at h; rw [Bool.and_eq_true] at h; exact h.1
theorem need_len : ∀ (l : List I) (S : List Int), (need l S).length ≤ 2 * l.length
  | [], _ => by simp [need]
  | x :: l, S => by
    unfold need
    have h1 := need_len l (if x.f0 = 8 then S else x.f1 :: S)
    have h2 : ((uses x).filter (fun v => decide (v ∉ S))).length ≤ 2 := Nat.le_trans (List.length_filter_le _ _) (uses_len x)
    rw [List.length_append, List.length_cons]; omega
theorem resD_len (l : List I) : (resD l).1.length ≤ 60 := by
  unfold resD
  by_cases c : gC l = true
  · rw [if_pos c]
    have h := fold_len2 (need l []) []
    have h2 := need_len l []
    have h3 := gC_le c
    show ((need l []).foldl ins []).length ≤ 60
    rw [List.length_nil] at h
    omega
  · rw [if_neg c]; simp
theorem s_resD (k : Nat) (l : List I) (hk : l.length + 2000 < k) (hl : l.length ≤ 1048576) : spec_NamesNeeded.f k l = some (resD l) := by
  unfold spec_NamesNeeded.f resD
  rw [s_code k l (by omega) (by omega)]
  simp only [Option.bind_some]
  by_cases c : gC l = true
  · rw [if_pos c, if_pos c]
    have h := s_nn_loop l.length k l 0 [] [] (by omega) (by omega) (by have := gC_le c; omega) (gC_le c) (by simp) (by simp) (by rw [List.drop_zero]; exact gC_all c)
    rw [List.drop_zero] at h
    exact h
  · rw [if_neg c, if_neg c]
theorem i_resD (k : Nat) (l : List I) (hk : l.length + 2000 < k) (hl : l.length ≤ 1048576) : impl_NamesNeeded.f k l = some (resD l) := by
  unfold impl_NamesNeeded.f resD
  rw [i_code k l (by omega) (by omega)]
  simp only [Option.bind_some]
  by_cases c : gC l = true
  · rw [if_pos c, if_pos c]
    have h := i_nn_loop l.length k l 0 (List.replicate 8 false) [] [] (by omega) (by omega) (by have := gC_le c; omega) (gC_le c) (by simp) (by simp) (fun v v0 v1 => by
      rw [List.getD_eq_getElem?_getD, List.getElem?_replicate]
      split <;> simp) (by rw [List.drop_zero]; exact gC_all c)
    rw [List.drop_zero, List.nil_append] at h
    exact h
  · rw [if_neg c, if_neg c]
/-! Code that runs: what both compute. -/
def wV (v : List Int) : Bool := v.all wd && decide (v.length = 8)
def dv (o a b : Int) : Int := if o = 3 then Go.bits .and .i64 (wrap64 (a + b)) 65535 else if o = 4 then Go.bits .and .i64 (wrap64 (a - b)) 65535 else if o = 5 then Go.bits .and .i64 (wrap64 (a * b)) 65535 else if o = 6 then (if a < b then 1 else 0) else (if a = b then 1 else 0)
def stV (x : I) (v : List Int) : List Int := if x.f0 = 8 then v else if x.f0 = 1 then v.set x.f1.toNat x.f4 else if x.f0 = 2 then v.set x.f1.toNat (rd v x.f2) else v.set x.f1.toNat (dv x.f0 (rd v x.f2) (rd v x.f3))
def stT (x : I) (v t : List Int) : List Int := if x.f0 = 8 then t ++ [rd v x.f2] else t
def runL : List I → List Int → List Int → List Int × List Int
  | [], v, t => (t, v)
  | x :: l, v, t => runL l (stV x v) (stT x v t)
theorem stV_len (x : I) (v : List Int) : (stV x v).length = v.length := by
  unfold stV; (repeat' split) <;> simp
theorem stT_len (x : I) (v t : List Int) : (stT x v t).length ≤ t.length + 1 := by
  unfold stT; split <;> simp
theorem runL_len (l : List I) : ∀ v t, (runL l v t).1.length ≤ t.length + l.length ∧ (runL l v t).2.length = v.length := by
  induction l with
  | nil => intro v t; exact ⟨by simp [runL], rfl⟩
  | cons x l ih =>
    intro v t
    have h := ih (stV x v) (stT x v t)
    have h2 := stT_len x v t
    rw [stV_len] at h
    show (runL l (stV x v) (stT x v t)).1.length ≤ _ ∧ (runL l (stV x v) (stT x v t)).2.length = _
    rw [List.length_cons]
    exact ⟨by omega, h.2⟩
theorem s_do (o a b : Int) : spec_l3Do.f o a b = some (dv o a b) := by
  unfold spec_l3Do.f spec_l3Bit.f dv
  by_cases c3 : o = 3
  · rw [if_pos c3, if_pos c3]
  · by_cases c4 : o = 4
    · rw [if_neg c3, if_pos c4, if_neg c3, if_pos c4]
    · by_cases c5 : o = 5
      · rw [if_neg c3, if_neg c4, if_pos c5, if_neg c3, if_neg c4, if_pos c5]
      · by_cases c6 : o = 6
        · rw [if_neg c3, if_neg c4, if_neg c5, if_pos c6, if_neg c3, if_neg c4, if_neg c5, if_pos c6]
          by_cases c : a < b <;> simp [c]
        · rw [if_neg c3, if_neg c4, if_neg c5, if_neg c6, if_neg c3, if_neg c4, if_neg c5, if_neg c6]
          by_cases c : a = b <;> simp [c]
theorem i_do (o a b : Int) (h : 3 ≤ o ∧ o ≤ 7) : impl_reckon.f o a b = some (dv o a b) := by
  unfold impl_reckon.f dv
  have ho : o = 3 ∨ o = 4 ∨ o = 5 ∨ o = 6 ∨ o = 7 := by omega
  rcases ho with rfl | rfl | rfl | rfl | rfl
  · rfl
  · rfl
  · rfl
  · by_cases c : a < b <;> simp [c]
  · by_cases c : a = b <;> simp [c]
/-- What a good step is. -/
theorem good_step {x : I} (h : gI x = true) : (x.f0 = 1 ∧ 0 ≤ x.f1 ∧ x.f1 ≤ 7) ∨ (x.f0 = 2 ∧ 0 ≤ x.f1 ∧ x.f1 ≤ 7 ∧ 0 ≤ x.f2 ∧ x.f2 ≤ 7) ∨ (x.f0 = 8 ∧ 0 ≤ x.f2 ∧ x.f2 ≤ 7) ∨ ((3 ≤ x.f0 ∧ x.f0 ≤ 7) ∧ 0 ≤ x.f1 ∧ x.f1 ≤ 7 ∧ 0 ≤ x.f2 ∧ x.f2 ≤ 7 ∧ 0 ≤ x.f3 ∧ x.f3 ≤ 7) := by
  unfold gI gi nm at h
  by_cases c1 : x.f0 = 1
  · rw [if_pos c1] at h; simp only [Bool.and_eq_true, decide_eq_true_eq] at h; omega
  · by_cases c2 : x.f0 = 2
    · rw [if_neg c1, if_pos c2] at h; simp only [Bool.and_eq_true, decide_eq_true_eq] at h; omega
    · by_cases c8 : x.f0 = 8
      · rw [if_neg c1, if_neg c2, if_pos c8] at h; simp only [Bool.and_eq_true, decide_eq_true_eq] at h; omega
      · rw [if_neg c1, if_neg c2, if_neg c8] at h; simp only [Bool.and_eq_true, decide_eq_true_eq] at h; omega
theorem s_step (k : Nat) (l : List I) (i : Nat) (v t : List Int) (hi : i < l.length) (hn : l.length ≤ 2000000) (hv : v.length = 8) (ht : t.length ≤ 2000000) (hg : gI (rd_T53 l (i : Int)) = true) :
    spec_l3Run.l0 (k + 1) v t l (l.length : Int) (i : Int) = spec_l3Run.l0 k (stV (rd_T53 l (i : Int)) v) (stT (rd_T53 l (i : Int)) v t) l (l.length : Int) ((i + 1 : Nat) : Int) := by
  simp only [spec_l3Run.l0]
  have wi : wrap64 ((i : Int) + 1) = ((i + 1 : Nat) : Int) := by rw [w64 (by omega) (by omega)]; omega
  rw [if_pos (show (i : Int) < (l.length : Int) by omega), if_pos (show 0 ≤ (i : Int) by omega), if_pos (show (i : Int) < (l.length : Int) by omega), wi]
  generalize rd_T53 l (i : Int) = x at *
  unfold stV stT
  rcases good_step hg with ⟨o, h⟩ | ⟨o, h⟩ | ⟨o, h⟩ | ⟨o, h⟩
  · rw [if_pos o, if_pos (by omega), if_pos (by omega)]; simp [o]
  · rw [if_neg (by omega), if_pos o, if_pos (by omega), if_pos (by omega), if_pos (by omega), if_pos (by omega)]; simp [o]
  · rw [if_neg (by omega), if_neg (by omega), if_pos o, if_pos (by omega), if_pos (by omega), if_pos (by omega)]; simp [o]
  · have e1 : ¬ x.f0 = 1 := by omega
    have e2 : ¬ x.f0 = 2 := by omega
    have e8 : ¬ x.f0 = 8 := by omega
    rw [if_neg e1, if_neg e2, if_neg e8, if_pos (by omega), if_pos (by omega), if_pos (by omega), if_pos (by omega), s_do]
    simp only [Option.bind_some]
    rw [if_pos (by omega), if_pos (by omega), if_neg e8, if_neg e1, if_neg e2, if_neg e8]
theorem i_step (k : Nat) (l : List I) (i : Nat) (v t : List Int) (hi : i < l.length) (hn : l.length ≤ 2000000) (hv : v.length = 8) (ht : t.length ≤ 2000000) (hg : gI (rd_T53 l (i : Int)) = true) :
    impl_RunCode.l0 (k + 1) v t l (l.length : Int) (i : Int) = impl_RunCode.l0 k (stV (rd_T53 l (i : Int)) v) (stT (rd_T53 l (i : Int)) v t) l (l.length : Int) ((i + 1 : Nat) : Int) := by
  simp only [impl_RunCode.l0]
  have wi : wrap64 ((i : Int) + 1) = ((i + 1 : Nat) : Int) := by rw [w64 (by omega) (by omega)]; omega
  rw [if_pos (show (i : Int) < (l.length : Int) by omega), if_pos (show 0 ≤ (i : Int) by omega), if_pos (show (i : Int) < (l.length : Int) by omega), wi]
  generalize rd_T53 l (i : Int) = x at *
  unfold stV stT
  rcases good_step hg with ⟨o, h⟩ | ⟨o, h⟩ | ⟨o, h⟩ | ⟨o, h⟩
  · rw [if_neg (by omega), if_pos o, if_pos (by omega), if_pos (by omega)]; simp [o]
  · rw [if_neg (by omega), if_neg (by omega), if_pos o, if_pos (by omega), if_pos (by omega), if_pos (by omega), if_pos (by omega)]; simp [o]
  · rw [if_pos o, if_pos (by omega), if_pos (by omega), if_pos (by omega)]; simp [o]
  · have e1 : ¬ x.f0 = 1 := by omega
    have e2 : ¬ x.f0 = 2 := by omega
    have e8 : ¬ x.f0 = 8 := by omega
    rw [if_neg e8, if_neg e1, if_neg e2, if_pos (by omega), if_pos (by omega), if_pos (by omega), if_pos (by omega), i_do _ _ _ o]
    simp only [Option.bind_some]
    rw [if_pos (by omega), if_pos (by omega), if_neg e8, if_neg e1, if_neg e2, if_neg e8]
theorem s_run_loop (m : Nat) : ∀ (k : Nat) (l : List I) (i : Nat) (v t : List Int), i ≤ l.length → l.length - i = m → m < k → l.length ≤ 1000000 → v.length = 8 → t.length ≤ 900000 + i → (l.drop i).all gI = true →
    spec_l3Run.l0 k v t l (l.length : Int) (i : Int) = some (runL (l.drop i) v t) := by
  induction m with
  | zero =>
    intro k l i v t h1 hd hk hn hv ht hg
    obtain ⟨k, rfl⟩ : ∃ m, k = m + 1 := ⟨k - 1, by omega⟩
    simp only [spec_l3Run.l0]
    rw [if_neg (by omega), List.drop_of_length_le (by omega)]; rfl
  | succ m ih =>
    intro k l i v t h1 hd hk hn hv ht hg
    obtain ⟨k, rfl⟩ : ∃ m, k = m + 1 := ⟨k - 1, by omega⟩
    rw [rdI_drop (l := l) (i := i) (by omega), List.all_cons, Bool.and_eq_true] at hg
    have h2 := stT_len (rd_T53 l (i : Int)) v t
    rw [s_step k l i v t (by omega) (by omega) hv (by omega) hg.1, rdI_drop (l := l) (i := i) (by omega)]
    exact ih k l (i + 1) _ _ (by omega) (by omega) (by omega) hn (by rw [stV_len]; exact hv) (by omega) hg.2
theorem i_run_loop (m : Nat) : ∀ (k : Nat) (l : List I) (i : Nat) (v t : List Int), i ≤ l.length → l.length - i = m → m < k → l.length ≤ 1000000 → v.length = 8 → t.length ≤ 900000 + i → (l.drop i).all gI = true →
    impl_RunCode.l0 k v t l (l.length : Int) (i : Int) = some ((runL (l.drop i) v t).1, (runL (l.drop i) v t).2, true) := by
  induction m with
  | zero =>
    intro k l i v t h1 hd hk hn hv ht hg
    obtain ⟨k, rfl⟩ : ∃ m, k = m + 1 := ⟨k - 1, by omega⟩
    simp only [impl_RunCode.l0]
    rw [if_neg (by omega), List.drop_of_length_le (by omega)]; rfl
  | succ m ih =>
    intro k l i v t h1 hd hk hn hv ht hg
    obtain ⟨k, rfl⟩ : ∃ m, k = m + 1 := ⟨k - 1, by omega⟩
    rw [rdI_drop (l := l) (i := i) (by omega), List.all_cons, Bool.and_eq_true] at hg
    have h2 := stT_len (rd_T53 l (i : Int)) v t
    rw [i_step k l i v t (by omega) (by omega) hv (by omega) hg.1, rdI_drop (l := l) (i := i) (by omega)]
    exact ih k l (i + 1) _ _ (by omega) (by omega) (by omega) hn (by rw [stV_len]; exact hv) (by omega) hg.2
theorem rd_drop {l : List Int} {i : Nat} (h : i < l.length) : l.drop i = rd l (i : Int) :: l.drop (i + 1) := by
  rw [List.drop_eq_getElem_cons h]
  unfold rd
  rw [Int.toNat_natCast, List.getD_eq_getElem?_getD, List.getElem?_eq_getElem h]; rfl
theorem s_words_loop (m : Nat) : ∀ (k : Nat) (x0 l : List Int) (i : Nat), i ≤ l.length → l.length - i = m → m < k → l.length ≤ 2000000 →
    spec_l3Words.l0 k x0 l (l.length : Int) (i : Int) = some ((l.drop i).all wd && decide (x0.length = 8)) := by
  induction m with
  | zero =>
    intro k x0 l i h1 hd hk hn
    obtain ⟨k, rfl⟩ : ∃ m, k = m + 1 := ⟨k - 1, by omega⟩
    simp only [spec_l3Words.l0]
    rw [if_neg (by omega), List.drop_of_length_le (by omega)]
    by_cases c : x0.length = 8
    · simp [c]
    · have c' : ¬ (x0.length : Int) = 8 := by omega
      simp [c, c']
  | succ m ih =>
    intro k x0 l i h1 hd hk hn
    obtain ⟨k, rfl⟩ : ∃ m, k = m + 1 := ⟨k - 1, by omega⟩
    simp only [spec_l3Words.l0]
    have wi : wrap64 ((i : Int) + 1) = ((i + 1 : Nat) : Int) := by rw [w64 (by omega) (by omega)]; omega
    rw [if_pos (show (i : Int) < (l.length : Int) by omega), if_pos (show 0 ≤ (i : Int) by omega), if_pos (show (i : Int) < (l.length : Int) by omega), s_word, wi, rd_drop (l := l) (i := i) (by omega)]
    simp only [Option.bind_some, List.all_cons]
    cases h : wd (rd l (i : Int))
    · simp
    · rw [if_pos rfl, ih k x0 l (i + 1) (by omega) (by omega) (by omega) hn]; simp
theorem s_words (k : Nat) (l : List Int) (hk : l.length < k) (hn : l.length ≤ 2000000) : spec_l3Words.f k l = some (wV l) := by
  unfold spec_l3Words.f wV
  have h := s_words_loop l.length k l l 0 (by omega) (by omega) hk hn
  rw [List.drop_zero] at h
  exact h
theorem i_words_loop (m : Nat) : ∀ (k : Nat) (l : List Int) (i : Nat), i ≤ l.length → l.length - i = m → m < k → l.length ≤ 2000000 →
    ∃ r, slices_IndexFunc_v30.l0 k l (l.length : Int) (i : Int) = some r ∧ decide (r ≥ 0) = !(l.drop i).all wd := by
  induction m with
  | zero =>
    intro k l i h1 hd hk hn
    obtain ⟨k, rfl⟩ : ∃ m, k = m + 1 := ⟨k - 1, by omega⟩
    simp only [slices_IndexFunc_v30.l0]
    rw [if_neg (by omega), List.drop_of_length_le (by omega)]
    exact ⟨_, rfl, by decide⟩
  | succ m ih =>
    intro k l i h1 hd hk hn
    obtain ⟨k, rfl⟩ : ∃ m, k = m + 1 := ⟨k - 1, by omega⟩
    simp only [slices_IndexFunc_v30.l0]
    have wi : wrap64 ((i : Int) + 1) = ((i + 1 : Nat) : Int) := by rw [w64 (by omega) (by omega)]; omega
    unfold impl_RunCode_1.f
    rw [if_pos (show (i : Int) < (l.length : Int) by omega), if_pos (show 0 ≤ (i : Int) by omega), if_pos (show (i : Int) < (l.length : Int) by omega), i_word, wi, rd_drop (l := l) (i := i) (by omega)]
    simp only [Option.bind_some, List.all_cons]
    cases h : wd (rd l (i : Int))
    · exact ⟨(i : Int), by simp, by simp⟩
    · obtain ⟨r, e1, e2⟩ := ih k l (i + 1) (by omega) (by omega) (by omega) hn
      exact ⟨r, by simpa using e1, by simpa using e2⟩
theorem i_words (k : Nat) (l : List Int) (hk : l.length < k) (hn : l.length ≤ 2000000) : slices_ContainsFunc_v30.f k l = some (!l.all wd) := by
  unfold slices_ContainsFunc_v30.f slices_IndexFunc_v30.f
  obtain ⟨r, e1, e2⟩ := i_words_loop l.length k l 0 (by omega) (by omega) hk hn
  rw [show ((0 : Nat) : Int) = 0 from rfl] at e1
  rw [List.drop_zero] at e2
  rw [e1]; simp only [Option.bind_some]
  rw [e2]
def res (l : List I) (v : List Int) : List Int × List Int × Bool := if gC l = true then (if wV v = true then ((runL l v []).1, (runL l v []).2, true) else ([], [], false)) else ([], [], false)
theorem gC_len {l : List I} (h : gC l = true) : l.all gI = true ∧ l.length ≤ 30 := by
  unfold gC at h; rw [Bool.and_eq_true, decide_eq_true_eq] at h; exact h
theorem wV_len {v : List Int} (h : wV v = true) : v.all wd = true ∧ v.length = 8 := by
  unfold wV at h; rw [Bool.and_eq_true, decide_eq_true_eq] at h; exact h
theorem res_len (l : List I) (v : List Int) : (res l v).1.length ≤ 30 ∧ (res l v).2.1.length ≤ 8 := by
  unfold res
  by_cases c : gC l = true
  · rw [if_pos c]
    by_cases d : wV v = true
    · rw [if_pos d]
      have h := runL_len l v []
      have h2 := (gC_len c).2
      have h3 := (wV_len d).2
      simp only [List.length_nil] at h
      exact ⟨by show (runL l v []).1.length ≤ 30; omega, by show (runL l v []).2.length ≤ 8; omega⟩
    · rw [if_neg d]; simp
  · rw [if_neg c]; simp
theorem i_res (k : Nat) (l : List I) (v : List Int) (hk : 1500000 < k) (hl : l.length ≤ 1048576) (hv : v.length ≤ 1048576) : impl_RunCode.f k l v = some (res l v) := by
  obtain ⟨k, rfl⟩ : ∃ m, k = m + 1 := ⟨k - 1, by omega⟩
  unfold impl_RunCode.f res
  rw [i_code (k + 1) l (by omega) (by omega), i_words (k + 1) v (by omega) (by omega)]
  simp only [Option.bind_some, impl_RunCode.j0, List.length_nil, List.nil_append]
  by_cases c : gC l = true
  · rw [if_pos c, if_pos c]
    by_cases e : (v.length : Int) = 8
    · rw [if_pos e]
      cases a : v.all wd
      · rw [if_pos (show (!false) = true from rfl), if_neg (by unfold wV; rw [a]; simp)]
      · rw [if_neg (show ¬ (!true) = true by decide), if_pos (show wV v = true by unfold wV; rw [a]; simp; omega), if_pos (by omega)]
        have h := i_run_loop l.length k l 0 v [] (by omega) (by omega) (by omega) (by have := (gC_len c).2; omega) (by omega) (by simp) (by rw [List.drop_zero]; exact (gC_len c).1)
        rw [List.drop_zero] at h
        rw [show ((0 : Nat) : Int) = 0 from rfl] at h
        exact h
    · rw [if_neg e, if_pos trivial, if_neg (by intro d; have := (wV_len d).2; omega)]
  · rw [if_neg c, if_pos trivial, if_neg c]
theorem s_res (k : Nat) (l : List I) (v : List Int) (hk : 1500000 < k) (hl : l.length ≤ 1048576) (hv : v.length ≤ 1048576) : spec_RunCode.f k l v = some (res l v) := by
  unfold spec_RunCode.f res
  rw [s_code k l (by omega) (by omega), s_words k v (by omega) (by omega)]
  simp only [Option.bind_some, List.length_nil, List.nil_append]
  by_cases c : gC l = true
  · rw [if_pos c, if_pos c]
    by_cases d : wV v = true
    · rw [if_pos d, if_pos d, if_pos (by omega)]
      have h := s_run_loop l.length k l 0 v [] (by omega) (by omega) (by omega) (by have := (gC_len c).2; omega) (wV_len d).2 (by simp) (by rw [List.drop_zero]; exact (gC_len c).1)
      rw [List.drop_zero] at h
      unfold spec_l3Run.f
      rw [show ((0 : Nat) : Int) = 0 from rfl] at h
      rw [h]; rfl
    · rw [if_neg d, if_neg d]
  · rw [if_neg c, if_neg c]
theorem number_loop (d : Nat) : ∀ (k : Nat) (n : Int) (l : List Int) (i : Int), 0 ≤ i → i ≤ l.length → (l.length : Int) - i = d → d < k → Bytes l → 0 ≤ n → n ≤ 1000003 →
    ∃ r, laws_numberOf.l0 k n l (l.length : Int) i = some r ∧ 0 ≤ r ∧ r ≤ 1000003 := by
  induction d with
  | zero =>
    intro k n l i h0 h1 hd hk hB n0 n1
    obtain ⟨k, rfl⟩ : ∃ m, k = m + 1 := ⟨k - 1, by omega⟩
    simp only [laws_numberOf.l0]; rw [if_neg (by omega)]; exact ⟨_, rfl, n0, n1⟩
  | succ d ih =>
    intro k n l i h0 h1 hd hk hB n0 n1
    obtain ⟨k, rfl⟩ : ∃ m, k = m + 1 := ⟨k - 1, by omega⟩
    have hr := bytes_rd hB i
    have hl := hB.1
    simp only [laws_numberOf.l0]
    rw [if_pos (by omega), if_pos h0, if_pos (by omega), w64 (n := rd l i) (by omega) (by omega), w64 (n := 31 * n) (by omega) (by omega), w64 (n := 31 * n + rd l i) (by omega) (by omega), w64 (n := i + 1) (by omega) (by omega), Int.tmod_eq_emod_of_nonneg (by omega)]
    have t := emod_in (31 * n + rd l i) 1000003 (by omega)
    exact ih k _ l (i + 1) (by omega) (by omega) (by omega) (by omega) hB t.1 (by omega)
theorem number (k : Nat) (l : List Int) (hk : l.length < k) (hB : Bytes l) : ∃ r, laws_numberOf.f k l = some r ∧ 0 ≤ r ∧ r ≤ 1000003 := by
  unfold laws_numberOf.f
  exact number_loop l.length k 0 l 0 (by omega) (by omega) (by omega) hk hB (by omega) (by omega)
/-! ### What the law's own functions tell -/
theorem same_loop (d : Nat) : ∀ (k : Nat) (xs : List Int) (i : Nat), i ≤ xs.length → xs.length - i = d → d < k → xs.length ≤ 1000000 → laws_sameInts.l0 k xs xs (xs.length : Int) (i : Int) = some true := by
  induction d with
  | zero =>
    intro k xs i h1 hd hk hn
    obtain ⟨k, rfl⟩ : ∃ m, k = m + 1 := ⟨k - 1, by omega⟩
    simp only [laws_sameInts.l0]; rw [if_neg (by omega)]
  | succ d ih =>
    intro k xs i h1 hd hk hn
    obtain ⟨k, rfl⟩ : ∃ m, k = m + 1 := ⟨k - 1, by omega⟩
    simp only [laws_sameInts.l0]
    have wi : wrap64 ((i : Int) + 1) = ((i + 1 : Nat) : Int) := by rw [w64 (by omega) (by omega)]; omega
    rw [if_pos (show (i : Int) < (xs.length : Int) by omega), if_pos (show 0 ≤ (i : Int) by omega), if_pos (show (i : Int) < (xs.length : Int) by omega), if_pos (show (i : Int) < (xs.length : Int) by omega), if_pos trivial, wi]
    exact ih k xs (i + 1) (by omega) (by omega) (by omega) hn
theorem same_self (k : Nat) (xs : List Int) (hk : xs.length < k) (hn : xs.length ≤ 1000000) : laws_sameInts.f k xs xs = some true := by
  unfold laws_sameInts.f
  rw [if_pos rfl]
  exact same_loop xs.length k xs 0 (by omega) (by omega) hk hn
theorem lhas_loop (m : Nat) : ∀ (k : Nat) (l : List Int) (n : Int) (i : Nat), i ≤ l.length → l.length - i = m → m < k → l.length ≤ 1000000 → laws_has.l0 k n l (l.length : Int) (i : Int) = some (decide (n ∈ l.drop i)) := by
  induction m with
  | zero =>
    intro k l n i h1 hd hk hn
    obtain ⟨k, rfl⟩ : ∃ m, k = m + 1 := ⟨k - 1, by omega⟩
    simp only [laws_has.l0]
    rw [if_neg (by omega), List.drop_of_length_le (by omega)]; simp
  | succ m ih =>
    intro k l n i h1 hd hk hn
    obtain ⟨k, rfl⟩ : ∃ m, k = m + 1 := ⟨k - 1, by omega⟩
    simp only [laws_has.l0]
    have wi : wrap64 ((i : Int) + 1) = ((i + 1 : Nat) : Int) := by rw [w64 (by omega) (by omega)]; omega
    rw [if_pos (show (i : Int) < (l.length : Int) by omega), if_pos (show 0 ≤ (i : Int) by omega), if_pos (show (i : Int) < (l.length : Int) by omega), rd_drop (l := l) (i := i) (by omega), wi]
    by_cases c : rd l (i : Int) = n
    · rw [if_pos c]; simp [c]
    · rw [if_neg c, ih k l n (i + 1) (by omega) (by omega) (by omega) hn]
      congr 1
      rw [decide_eq_decide, List.mem_cons]
      exact ⟨fun h => .inr h, fun h => h.resolve_left (fun e => c e.symm)⟩
theorem l_has (k : Nat) (l : List Int) (n : Int) (hk : l.length < k) (hn : l.length ≤ 1000000) : laws_has.f k l n = some (decide (n ∈ l)) := by
  have h := lhas_loop l.length k l n 0 (by omega) (by omega) hk hn
  unfold laws_has.f
  rw [List.drop_zero] at h
  exact h
theorem i_goodcode (k : Nat) (l : List I) (hk : l.length + 2 < k) (hn : l.length ≤ 2000000) : impl_GoodCode.f k l = some (gC l) := by
  unfold impl_GoodCode.f
  rw [i_code k l hk hn]; rfl
/-! ### What is drawn -/
theorem instr_ok {l : List Int} (h : Bytes l) (k : Nat) (s1 s2 : Int) (h0 : 0 ≤ s1) (h1 : s1 ≤ 700000000) :
    ∃ o d a b n s1' s2', spec_l1Cur_instr.f (k + 2) l s1 s2 = some (o, d, a, b, n, s1', s2') ∧ s1 ≤ s1' ∧ s1' ≤ s1 + 40 := by
  have last : ∀ (t1 t2 o d a b n : Int), s1 ≤ t1 → t1 ≤ s1 + 20 → ∃ o' d' a' b' n' s1' s2', spec_l1Cur_instr.j1 (k + 1) l t1 t2 o d a b n = some (o', d', a', b', n', s1', s2') ∧ s1 ≤ s1' ∧ s1' ≤ s1 + 40 := by
    intro t1 t2 o d a b n g0 g1
    simp only [spec_l1Cur_instr.j1]
    obtain ⟨c, u1, u2, e, a1, a2⟩ := one_ok h t1 t2 60 (by omega) (by omega)
    rw [e]; simp only [Option.bind_some]
    by_cases hc : c = true
    · rw [if_pos hc]
      obtain ⟨x1, v1, v2, e1, b1, b2, _⟩ := pick_ok h u1 u2 10 (by omega) (by omega)
      rw [e1]; simp only [Option.bind_some]
      obtain ⟨x2, y1, y2, e2, c1, c2, _⟩ := pick_ok h v1 v2 10 (by omega) (by omega)
      rw [e2]; simp only [Option.bind_some]
      obtain ⟨x3, z1, z2, e3, d1, d2, _⟩ := pick_ok h y1 y2 3 (by omega) (by omega)
      rw [e3]; simp only [Option.bind_some]
      obtain ⟨x4, q1, q2, e4, f1, f2, _⟩ := among_ok h z1 z2 [0, 1, 65536] (by decide) (by omega) (by omega)
      rw [e4]; simp only [Option.bind_some]
      exact ⟨_, _, _, _, _, _, _, rfl, by omega, by omega⟩
    · rw [if_neg hc]
      exact ⟨_, _, _, _, _, _, _, rfl, by omega, by omega⟩
  have mid : ∀ (t1 t2 o d : Int), s1 ≤ t1 → t1 ≤ s1 + 10 → ∃ o' d' a' b' n' s1' s2', spec_l1Cur_instr.j0 (k + 2) l t1 t2 o d 0 0 0 = some (o', d', a', b', n', s1', s2') ∧ s1 ≤ s1' ∧ s1' ≤ s1 + 40 := by
    intro t1 t2 o d g0 g1
    rw [show k + 2 = (k + 1) + 1 from rfl]
    simp only [spec_l1Cur_instr.j0]
    by_cases c1 : o = 1
    · rw [if_pos c1]
      obtain ⟨x4, q1, q2, e4, f1, f2, _⟩ := among_ok h t1 t2 [0, 1, 2, 3, 5, 65535] (by decide) (by omega) (by omega)
      rw [e4]; simp only [Option.bind_some]
      exact last _ _ _ _ _ _ _ (by omega) (by omega)
    · rw [if_neg c1, s_two]; simp only [Option.bind_some]
      obtain ⟨x1, v1, v2, e1, b1, b2, _⟩ := pick_ok h t1 t2 4 (by omega) (by omega)
      rw [e1]; simp only [Option.bind_some]
      by_cases c2 : decide (3 ≤ o ∧ o ≤ 7) = true
      · rw [if_pos c2]
        obtain ⟨x2, y1, y2, e2, d1, d2, _⟩ := pick_ok h v1 v2 4 (by omega) (by omega)
        rw [e2]; simp only [Option.bind_some]
        exact last _ _ _ _ _ _ _ (by omega) (by omega)
      · rw [if_neg c2]
        exact last _ _ _ _ _ _ _ (by omega) (by omega)
  unfold spec_l1Cur_instr.f
  obtain ⟨o, t1, t2, e, a1, a2, _⟩ := among_ok h s1 s2 [1, 2, 3, 3, 4, 5, 6, 7, 8] (by decide) (by omega) (by omega)
  rw [e]; simp only [Option.bind_some]
  by_cases c8 : o = 8
  · rw [if_pos c8]
    exact mid _ _ _ _ (by omega) (by omega)
  · rw [if_neg c8]
    obtain ⟨x1, v1, v2, e1, b1, b2, _⟩ := pick_ok h t1 t2 4 (by omega) (by omega)
    rw [e1]; simp only [Option.bind_some]
    exact mid _ _ _ _ (by omega) (by omega)
theorem code_loop {l : List Int} (h : Bytes l) (m : Nat) : ∀ (k : Nat) (x : List I) (s1 s2 : Int), m + 5 < k → x.length + m ≤ 100 → 0 ≤ s1 → s1 + 40 * m ≤ 100000 →
    ∃ y s1' s2', spec_l1Cur_code3.l0 k x (m : Int) l s1 s2 = some (y, s1', s2') ∧ y.length = x.length + m ∧ s1 ≤ s1' ∧ s1' ≤ s1 + 40 * m := by
  induction m with
  | zero =>
    intro k x s1 s2 hk hx h0 h1
    obtain ⟨k, rfl⟩ : ∃ m, k = m + 1 := ⟨k - 1, by omega⟩
    simp only [spec_l1Cur_code3.l0]
    rw [if_neg (by omega)]
    exact ⟨_, _, _, rfl, rfl, by omega, by omega⟩
  | succ m ih =>
    intro k x s1 s2 hk hx h0 h1
    obtain ⟨k, rfl⟩ : ∃ m, k = m + 1 := ⟨k - 1, by omega⟩
    simp only [spec_l1Cur_code3.l0]
    obtain ⟨k, rfl⟩ : ∃ m, k = m + 2 := ⟨k - 2, by omega⟩
    obtain ⟨o, d, a, b, n, t1, t2, e, a1, a2⟩ := instr_ok h k s1 s2 h0 (by omega)
    rw [if_pos (by omega), e]; simp only [Option.bind_some]
    rw [if_pos (by omega), show ((m + 1 : Nat) : Int) - 1 = (m : Int) by omega, w64 (by omega) (by omega)]
    obtain ⟨y, u1, u2, e2, hl, b1, b2⟩ := ih (k + 2) (x ++ [⟨o, d, a, b, n⟩]) t1 t2 (by omega) (by simp; omega) (by omega) (by omega)
    rw [e2]
    exact ⟨_, _, _, rfl, by rw [hl]; simp; omega, by omega, by omega⟩
theorem code_ok {l : List Int} (h : Bytes l) (k : Nat) (hk : 100 < k) : ∃ y s1' s2', spec_l1Cur_code3.f k l 0 0 = some (y, s1', s2') ∧ y.length ≤ 31 ∧ 0 ≤ s1' ∧ s1' ≤ 10000 := by
  unfold spec_l1Cur_code3.f
  obtain ⟨n, t1, t2, e, a1, a2, n0, n1, _⟩ := pick_ok h 0 0 10 (by omega) (by omega)
  have n1 := n1 (by omega)
  rw [e]; simp only [Option.bind_some]
  obtain ⟨c, u1, u2, e2, b1, b2⟩ := one_ok h t1 t2 20 (by omega) (by omega)
  rw [e2]; simp only [Option.bind_some]
  have fin : ∀ (m : Nat) (v1 v2 : Int), m ≤ 31 → 0 ≤ v1 → v1 ≤ 100 → ∃ y s1' s2', spec_l1Cur_code3.j0 k ([] : List I) (m : Int) l v1 v2 = some (y, s1', s2') ∧ y.length ≤ 31 ∧ 0 ≤ s1' ∧ s1' ≤ 10000 := by
    intro m v1 v2 hm g0 g1
    obtain ⟨k, rfl⟩ : ∃ m, k = m + 1 := ⟨k - 1, by omega⟩
    simp only [spec_l1Cur_code3.j0]
    obtain ⟨y, w1, w2, e3, hl, c1, c2⟩ := code_loop h m k [] v1 v2 (by omega) (by simp; omega) g0 (by omega)
    exact ⟨y, w1, w2, e3, by rw [hl]; simp; omega, by omega, by omega⟩
  by_cases hc : c = true
  · rw [if_pos hc]
    obtain ⟨p, v1, v2, e3, c1, c2, p0, p1, _⟩ := pick_ok h u1 u2 2 (by omega) (by omega)
    have p1 := p1 (by omega)
    rw [e3]; simp only [Option.bind_some]
    rw [w64 (by omega) (by omega), show 30 + p = (((30 + p).toNat : Nat) : Int) by omega]
    exact fin _ _ _ (by omega) (by omega) (by omega)
  · rw [if_neg hc, show n = ((n.toNat : Nat) : Int) by omega]
    exact fin _ _ _ (by omega) (by omega) (by omega)
theorem vars_loop {l : List Int} (h : Bytes l) (m : Nat) : ∀ (k : Nat) (x : List Int) (i s1 s2 : Int), m + 5 < k → i + m = 8 → 0 ≤ i → x.length + m = 8 → 0 ≤ s1 → s1 + 10 * m ≤ 100000 →
    ∃ y s1' s2', spec_l1Cur_vars.l0 k x i l s1 s2 = some (y, s1', s2') ∧ y.length = 8 := by
  induction m with
  | zero =>
    intro k x i s1 s2 hk hi i0 hx h0 h1
    obtain ⟨k, rfl⟩ : ∃ m, k = m + 1 := ⟨k - 1, by omega⟩
    simp only [spec_l1Cur_vars.l0]
    rw [if_neg (by omega)]
    obtain ⟨c, u1, u2, e2, b1, b2⟩ := one_ok h s1 s2 30 (by omega) (by omega)
    rw [e2]; simp only [Option.bind_some]
    by_cases hc : c = true
    · rw [if_pos hc, if_pos (by omega)]
      exact ⟨_, _, _, rfl, by rw [List.length_set]; omega⟩
    · rw [if_neg hc]
      exact ⟨_, _, _, rfl, by omega⟩
  | succ m ih =>
    intro k x i s1 s2 hk hi i0 hx h0 h1
    obtain ⟨k, rfl⟩ : ∃ m, k = m + 1 := ⟨k - 1, by omega⟩
    simp only [spec_l1Cur_vars.l0]
    obtain ⟨v, t1, t2, e, a1, a2, _⟩ := among_ok h s1 s2 [0, 1, 2, 7, 65535] (by decide) (by omega) (by omega)
    rw [if_pos (by omega), e]; simp only [Option.bind_some]
    rw [if_pos (by omega), w64 (by omega) (by omega)]
    exact ih k (x ++ [v]) (i + 1) t1 t2 (by omega) (by omega) (by omega) (by simp; omega) (by omega) (by omega)
theorem draw_run {l : List Int} (h : Bytes l) (k : Nat) (hk : 100 < k) : ∃ (c : List I) (v : List Int), spec_DrawRunCode.f k l = some (c, v) ∧ c.length ≤ 31 ∧ v.length = 8 := by
  unfold spec_DrawRunCode.f
  obtain ⟨y, s1, s2, e, hl, a0, a1⟩ := code_ok h k hk
  rw [e]; simp only [Option.bind_some]
  unfold spec_l1Cur_vars.f
  obtain ⟨v, t1, t2, e2, hv⟩ := vars_loop h 8 k [] 0 s1 s2 (by omega) (by omega) (by omega) (by simp) a0 (by omega)
  rw [e2]
  exact ⟨_, _, rfl, hl, hv⟩
theorem draw_names {l : List Int} (h : Bytes l) (k : Nat) (hk : 100 < k) : ∃ c : List I, spec_DrawNamesNeeded.f k l = some c ∧ c.length ≤ 31 := by
  unfold spec_DrawNamesNeeded.f spec_DrawGoodCode.f
  obtain ⟨y, s1, s2, e, hl, a0, a1⟩ := code_ok h k hk
  rw [e]
  exact ⟨_, rfl, hl⟩
/-! ### Code in two parts -/
theorem run_append : ∀ (a b : List I) (v t : List Int), runL (a ++ b) v t = runL b (runL a v t).2 (runL a v t).1
  | [], _, _, _ => rfl
  | x :: a, b, v, t => run_append a b (stV x v) (stT x v t)
theorem run_told : ∀ (l : List I) (v t : List Int), (runL l v t).1 = t ++ (runL l v []).1 ∧ (runL l v t).2 = (runL l v []).2
  | [], v, t => by simp [runL]
  | x :: l, v, t => by
    have h1 := run_told l (stV x v) (stT x v t)
    have h2 := run_told l (stV x v) (stT x v [])
    show (runL l (stV x v) (stT x v t)).1 = t ++ (runL l (stV x v) (stT x v [])).1 ∧ (runL l (stV x v) (stT x v t)).2 = (runL l (stV x v) (stT x v [])).2
    rw [h1.1, h1.2, h2.1, h2.2]
    refine ⟨?_, rfl⟩
    unfold stT
    by_cases c : x.f0 = 8
    · rw [if_pos c, if_pos c]; simp
    · rw [if_neg c, if_neg c]; simp
theorem gC_take {l : List I} (h : gC l = true) (k : Nat) : gC (l.take k) = true := by
  unfold gC at h ⊢
  rw [Bool.and_eq_true, decide_eq_true_eq] at h ⊢
  refine ⟨?_, by rw [List.length_take]; omega⟩
  rw [List.all_eq_true] at h ⊢
  exact fun x hx => h.1 x (List.mem_of_mem_take hx)
theorem gC_drop {l : List I} (h : gC l = true) (k : Nat) : gC (l.drop k) = true := by
  unfold gC at h ⊢
  rw [Bool.and_eq_true, decide_eq_true_eq] at h ⊢
  refine ⟨?_, by rw [List.length_drop]; omega⟩
  rw [List.all_eq_true] at h ⊢
  exact fun x hx => h.1 x (List.mem_of_mem_drop hx)
theorem wd_iff {v : Int} : wd v = true ↔ 0 ≤ v ∧ v ≤ 65535 := by simp [wd]
theorem dv_wd (o a b : Int) : wd (dv o a b) = true := by
  unfold dv
  rw [wd_iff]
  by_cases c3 : o = 3
  · rw [if_pos c3, and65535]; omega
  · rw [if_neg c3]
    by_cases c4 : o = 4
    · rw [if_pos c4, and65535]; omega
    · rw [if_neg c4]
      by_cases c5 : o = 5
      · rw [if_pos c5, and65535]; omega
      · rw [if_neg c5]
        (repeat' split) <;> omega
theorem rd_wd {v : List Int} (h : v.all wd = true) (i : Int) : wd (rd v i) = true := by
  unfold rd
  rw [List.getD_eq_getElem?_getD]
  by_cases c : i.toNat < v.length
  · rw [List.getElem?_eq_getElem c]; exact List.all_eq_true.1 h _ (List.getElem_mem c)
  · rw [List.getElem?_eq_none (by omega)]; decide
theorem set_wd {v : List Int} (h : v.all wd = true) (i : Nat) {x : Int} (hx : wd x = true) : (v.set i x).all wd = true := by
  rw [List.all_eq_true] at h ⊢
  intro y hy
  rcases List.mem_or_eq_of_mem_set hy with hy | rfl
  · exact h y hy
  · exact hx
theorem stV_wd {x : I} (hg : gI x = true) {v : List Int} (h : v.all wd = true) : (stV x v).all wd = true := by
  unfold stV
  by_cases c8 : x.f0 = 8
  · rw [if_pos c8]; exact h
  · rw [if_neg c8]
    by_cases c1 : x.f0 = 1
    · rw [if_pos c1]
      refine set_wd h _ ?_
      unfold gI gi at hg
      rw [if_pos c1] at hg
      simp only [Bool.and_eq_true] at hg
      exact hg.2.2.2
    · rw [if_neg c1]
      by_cases c2 : x.f0 = 2
      · rw [if_pos c2]; exact set_wd h _ (rd_wd h _)
      · rw [if_neg c2]; exact set_wd h _ (dv_wd _ _ _)
theorem run_wd : ∀ (l : List I) (v t : List Int), l.all gI = true → v.all wd = true → (runL l v t).2.all wd = true
  | [], v, t, _, h => h
  | x :: l, v, t, hg, h => by
    rw [List.all_cons, Bool.and_eq_true] at hg
    exact run_wd l (stV x v) (stT x v t) hg.2 (stV_wd hg.1 h)
theorem wV_iff {v : List Int} : wV v = true ↔ v.all wd = true ∧ v.length = 8 := by
  unfold wV; rw [Bool.and_eq_true, decide_eq_true_eq]
theorem res_ok {l : List I} {v : List Int} (hg : gC l = true) (hv : wV v = true) : res l v = ((runL l v []).1, (runL l v []).2, true) := by
  unfold res; rw [if_pos hg, if_pos hv]
theorem run_wV {l : List I} {v : List Int} (hg : gC l = true) (hv : wV v = true) : wV (runL l v []).2 = true := by
  have h := wV_iff.1 hv
  exact wV_iff.2 ⟨run_wd l v [] (gC_all hg) h.1, by rw [(runL_len l v []).2]; exact h.2⟩
theorem two_parts {l : List I} {v : List Int} (hg : gC l = true) (hv : wV v = true) (k : Nat) :
    res (l.drop k) (res (l.take k) v).2.1 = ((runL (l.drop k) (runL (l.take k) v []).2 []).1, (runL l v []).2, true) ∧ (runL (l.take k) v []).1 ++ (runL (l.drop k) (runL (l.take k) v []).2 []).1 = (runL l v []).1 := by
  rw [res_ok (gC_take hg k) hv]
  rw [res_ok (gC_drop hg k) (run_wV (gC_take hg k) hv)]
  have h := run_append (l.take k) (l.drop k) v []
  rw [List.take_append_drop] at h
  have h2 := run_told (l.drop k) (runL (l.take k) v []).2 (runL (l.take k) v []).1
  rw [h]
  exact ⟨by rw [h2.2], by rw [h2.1]⟩
/-! ### The names that code looks at, and those that it sets -/
theorem rd_set {v : List Int} {i j : Int} (x : Int) (hi : 0 ≤ i) (hi2 : i < v.length) (hj : 0 ≤ j) : rd (v.set i.toNat x) j = if i = j then x else rd v j := by
  unfold rd
  rw [List.getD_eq_getElem?_getD, List.getD_eq_getElem?_getD, List.getElem?_set]
  by_cases c : i = j
  · subst c; rw [if_pos rfl, if_pos rfl, if_pos (by omega)]; rfl
  · rw [if_neg (by omega), if_neg c]
theorem dst_mem {x : I} {l : List I} {n : Int} : n ∈ dsts (x :: l) ↔ (x.f0 ≠ 8 ∧ n = x.f1) ∨ n ∈ dsts l := by
  rw [dsts_cons]
  by_cases c : x.f0 = 8
  · rw [if_pos c]; simp [c]
  · rw [if_neg c, List.mem_cons]; simp [c]
theorem stV_rd {x : I} (hg : gI x = true) {v : List Int} (hv : v.length = 8) {n : Int} (hn : 0 ≤ n) : rd (stV x v) n = if x.f0 ≠ 8 ∧ x.f1 = n then (if x.f0 = 1 then x.f4 else if x.f0 = 2 then rd v x.f2 else dv x.f0 (rd v x.f2) (rd v x.f3)) else rd v n := by
  have hd := (gI_names hg).1
  unfold stV
  by_cases c8 : x.f0 = 8
  · rw [if_pos c8, if_neg (by simp [c8])]
  · rw [if_neg c8]
    by_cases c1 : x.f0 = 1
    · rw [if_pos c1, if_pos c1, rd_set _ hd.1 (by omega) hn]; simp [c8]
    · rw [if_neg c1, if_neg c1]
      by_cases c2 : x.f0 = 2
      · rw [if_pos c2, if_pos c2, rd_set _ hd.1 (by omega) hn]; simp [c8]
      · rw [if_neg c2, if_neg c2, rd_set _ hd.1 (by omega) hn]; simp [c8]
theorem run_kept : ∀ (l : List I) (v t : List Int), l.all gI = true → v.length = 8 → ∀ n : Int, 0 ≤ n → n ∉ dsts l → rd (runL l v t).2 n = rd v n
  | [], _, _, _, _, _, _, _ => rfl
  | x :: l, v, t, hg, hv, n, hn, hs => by
    rw [List.all_cons, Bool.and_eq_true] at hg
    rw [dst_mem] at hs
    have h := run_kept l (stV x v) (stT x v t) hg.2 (by rw [stV_len]; exact hv) n hn (fun h => hs (.inr h))
    show rd (runL l (stV x v) (stT x v t)).2 n = _
    rw [h, stV_rd hg.1 hv hn, if_neg (fun h => hs (.inl ⟨h.1, h.2.symm⟩))]
theorem run_alike : ∀ (l : List I) (S v v' t : List Int), l.all gI = true → v.length = 8 → v'.length = 8 → (∀ n : Int, 0 ≤ n → n ≤ 7 → (n ∈ S ∨ n ∈ need l S) → rd v n = rd v' n) →
    (runL l v t).1 = (runL l v' t).1 ∧ ∀ n : Int, 0 ≤ n → n ≤ 7 → (n ∈ S ∨ n ∈ dsts l) → rd (runL l v t).2 n = rd (runL l v' t).2 n
  | [], S, v, v', t, _, _, _, h => ⟨rfl, fun n n0 n1 hn => h n n0 n1 (.inl (hn.resolve_right (by simp [dsts])))⟩
  | x :: l, S, v, v', t, hg, hv, hv', h => by
    rw [List.all_cons, Bool.and_eq_true] at hg
    have hu := (gI_names hg.1).2
    have same : ∀ n ∈ uses x, rd v n = rd v' n := fun n hn => by
      refine h n (hu n hn).1 (hu n hn).2 ?_
      by_cases c : n ∈ S
      · exact .inl c
      · right; unfold need; exact List.mem_append_left _ (List.mem_filter.2 ⟨hn, by simpa using c⟩)
    have told : stT x v t = stT x v' t := by
      unfold stT
      by_cases c8 : x.f0 = 8
      · rw [if_pos c8, if_pos c8, same x.f2 (by unfold uses; rw [if_neg (by omega), if_pos (.inr c8)]; simp)]
      · rw [if_neg c8, if_neg c8]
    have new : x.f0 ≠ 8 → (if x.f0 = 1 then x.f4 else if x.f0 = 2 then rd v x.f2 else dv x.f0 (rd v x.f2) (rd v x.f3)) = (if x.f0 = 1 then x.f4 else if x.f0 = 2 then rd v' x.f2 else dv x.f0 (rd v' x.f2) (rd v' x.f3)) := by
      intro c8
      by_cases c1 : x.f0 = 1
      · rw [if_pos c1, if_pos c1]
      · rw [if_neg c1, if_neg c1]
        by_cases c2 : x.f0 = 2
        · rw [if_pos c2, if_pos c2]; exact same _ (by unfold uses; rw [if_neg c1, if_pos (.inl c2)]; simp)
        · rw [if_neg c2, if_neg c2, same x.f2 (by unfold uses; rw [if_neg c1, if_neg (by omega)]; simp), same x.f3 (by unfold uses; rw [if_neg c1, if_neg (by omega)]; simp)]
    have step : ∀ n : Int, 0 ≤ n → n ≤ 7 → ((x.f0 ≠ 8 ∧ x.f1 = n) ∨ rd v n = rd v' n) → rd (stV x v) n = rd (stV x v') n := fun n n0 n1 hn => by
      rw [stV_rd hg.1 hv n0, stV_rd hg.1 hv' n0]
      by_cases c : x.f0 ≠ 8 ∧ x.f1 = n
      · rw [if_pos c, if_pos c]; exact new c.1
      · rw [if_neg c, if_neg c]; exact hn.resolve_left c
    have ih := run_alike l (if x.f0 = 8 then S else x.f1 :: S) (stV x v) (stV x v') (stT x v t) hg.2 (by rw [stV_len]; exact hv) (by rw [stV_len]; exact hv') (fun n n0 n1 hn => by
      refine step n n0 n1 ?_
      by_cases c : x.f0 ≠ 8 ∧ x.f1 = n
      · exact .inl c
      · right
        refine h n n0 n1 ?_
        rcases hn with hn | hn
        · by_cases c8 : x.f0 = 8
          · rw [if_pos c8] at hn; exact .inl hn
          · rw [if_neg c8, List.mem_cons] at hn
            rcases hn with e | hn
            · exact absurd ⟨c8, e.symm⟩ c
            · exact .inl hn
        · right; unfold need; exact List.mem_append_right _ hn)
    show (runL l (stV x v) (stT x v t)).1 = (runL l (stV x v') (stT x v' t)).1 ∧ ∀ n : Int, 0 ≤ n → n ≤ 7 → (n ∈ S ∨ n ∈ dsts (x :: l)) → rd (runL l (stV x v) (stT x v t)).2 n = rd (runL l (stV x v') (stT x v' t)).2 n
    rw [← told]
    refine ⟨ih.1, fun n n0 n1 hn => ih.2 n n0 n1 ?_⟩
    rw [dst_mem] at hn
    by_cases c8 : x.f0 = 8
    · rw [if_pos c8]
      rcases hn with hn | hn | hn
      · exact .inl hn
      · exact absurd c8 hn.1
      · exact .inr hn
    · rw [if_neg c8]
      rcases hn with hn | hn | hn
      · exact .inl (List.mem_cons_of_mem _ hn)
      · rw [hn.2]; exact .inl (List.mem_cons_self ..)
      · exact .inr hn
/-! ### The law -/
theorem resN_ok {l : List I} (h : gC l = true) : resN l = ((dsts l).foldl ins [], true) := by unfold resN; rw [if_pos h]
theorem resD_ok {l : List I} (h : gC l = true) : resD l = ((need l []).foldl ins [], true) := by unfold resD; rw [if_pos h]
theorem mem_fold (xs : List Int) (n : Int) : n ∈ xs.foldl ins [] ↔ n ∈ xs := by
  rw [(foldl_ins xs [] List.Pairwise.nil).2 n]; simp
theorem j6_ok {l : List Int} (h : Bytes l) (k : Nat) (hk : 2000000 < k) : laws_FnCode.j6 (k + 1) l = some true := by
  obtain ⟨c, e, hc⟩ := draw_names h k (by omega)
  simp only [laws_FnCode.j6]
  rw [e]; simp only [Option.bind_some]
  rw [i_resD k c (by omega) (by omega), s_resD k c (by omega) (by omega), i_resN k c (by omega) (by omega), s_resN k c (by omega) (by omega)]
  simp only [Option.bind_some, beq_self_eq_true, if_true]
  have h1 := resD_len c
  have h2 := resN_len c
  rw [same_self k _ (by omega) (by omega), same_self k _ (by omega) (by omega)]; simp
theorem last_loop {l : List Int} (h : Bytes l) (vars V s ot Z : List Int) (h1 : vars.length = 8) (h2 : V.length = 8) (h3 : ot.length = 8) (h4 : Z.length = 8) (h5 : s.length ≤ 100)
    (hs : ∀ n : Int, 0 ≤ n → n ≤ 7 → n ∈ s → rd Z n = rd V n) (hn : ∀ n : Int, 0 ≤ n → n ≤ 7 → n ∉ s → rd Z n = rd ot n ∧ rd V n = rd vars n) (m : Nat) : ∀ (k i : Nat), i + m = 8 → 2000000 + m + 5 < k →
    laws_FnCode.l1 k l vars V s ot Z 8 (i : Int) = some true := by
  induction m with
  | zero =>
    intro k i hi hk
    obtain ⟨k, rfl⟩ : ∃ m, k = m + 1 := ⟨k - 1, by omega⟩
    simp only [laws_FnCode.l1]
    rw [if_neg (show ¬ ((i : Int) < 8) by omega)]
    obtain ⟨k, rfl⟩ : ∃ m, k = m + 1 := ⟨k - 1, by omega⟩
    exact j6_ok h k (by omega)
  | succ m ih =>
    intro k i hi hk
    obtain ⟨k, rfl⟩ : ∃ m, k = m + 1 := ⟨k - 1, by omega⟩
    simp only [laws_FnCode.l1]
    have wi : wrap64 ((i : Int) + 1) = ((i + 1 : Nat) : Int) := by rw [w64 (by omega) (by omega)]; omega
    rw [if_pos (show (i : Int) < 8 by omega), l_has k s _ (by omega) (by omega)]
    simp only [Option.bind_some]
    by_cases c : (i : Int) ∈ s
    · rw [if_pos (by simpa using c), if_pos (show 0 ≤ (i : Int) by omega), if_pos (show (i : Int) < (Z.length : Int) by omega), if_pos (show (i : Int) < (V.length : Int) by omega), if_pos (hs i (by omega) (by omega) c), if_pos (by simpa using c), wi]
      exact ih k (i + 1) (by omega) (by omega)
    · have hz := hn i (by omega) (by omega) c
      rw [if_neg (by simpa using c), if_neg (by simpa using c), if_pos (show 0 ≤ (i : Int) by omega), if_pos (show (i : Int) < (Z.length : Int) by omega), if_pos (show (i : Int) < (ot.length : Int) by omega), if_pos hz.1, if_pos (show (i : Int) < (V.length : Int) by omega), if_pos (show (i : Int) < (vars.length : Int) by omega), if_pos hz.2, wi]
      exact ih k (i + 1) (by omega) (by omega)
theorem other_loop (l1 : List Int) (c : List I) (vars T V s N : List Int) (kk : Int) (_k0 : 0 ≤ kk) (_k1 : kk ≤ 100) (hN : N.length ≤ 100) (hs : ∀ n ∈ N, 0 ≤ n ∧ n ≤ 7) (m : Nat) : ∀ (k i : Nat) (ot : List Int), i + m = 8 → 200 < k → ot.length = 8 → ot.all wd = true → (∀ n ∈ N, rd ot n = rd vars n) →
    ∃ ot' : List Int, ot'.length = 8 ∧ ot'.all wd = true ∧ (∀ n ∈ N, rd ot' n = rd vars n) ∧ laws_FnCode.l0 (k + m + 1) l1 c vars T V kk N s ot 8 (i : Int) =
      (impl_RunCode.f k c ot').bind fun bt466 => (if bt466.2.2 = true then ((laws_sameInts.f k bt466.1 T).bind fun t473 => (laws_FnCode.j4 k l1 vars V s ot' bt466.2.1 (!t473))) else (laws_FnCode.j4 k l1 vars V s ot' bt466.2.1 true)) := by
  induction m with
  | zero =>
    intro k i ot hi hk h1 h2 h3
    refine ⟨ot, h1, h2, h3, ?_⟩
    simp only [laws_FnCode.l0]
    rw [if_neg (show ¬ ((i : Int) < 8) by omega)]
  | succ m ih =>
    intro k i ot hi hk h1 h2 h3
    rw [show k + (m + 1) + 1 = (k + m + 1) + 1 by omega]
    simp only [laws_FnCode.l0]
    have wi : wrap64 ((i : Int) + 1) = ((i + 1 : Nat) : Int) := by rw [w64 (by omega) (by omega)]; omega
    rw [if_pos (show (i : Int) < 8 by omega), l_has _ N _ (by omega) (by omega)]
    simp only [Option.bind_some]
    by_cases c : (i : Int) ∈ N
    · rw [if_pos (by simpa using c), wi]
      exact ih k (i + 1) ot (by omega) hk h1 h2 h3
    · rw [if_neg (by simpa using c), if_pos (show 0 ≤ (i : Int) by omega), if_pos (show (i : Int) < (ot.length : Int) by omega), wi]
      refine ih k (i + 1) _ (by omega) hk (by rw [List.length_set]; exact h1) (set_wd h2 _ ?_) (fun n hn => ?_)
      · rw [and65535, wd_iff]; omega
      · rw [rd_set _ (by omega) (by omega) (hs n hn).1, if_neg (fun e => c (by rw [e]; exact hn))]
        exact h3 n hn
theorem hNin {c : List I} (hg : gC c = true) : ∀ n ∈ (need c []).foldl ins [], 0 ≤ n ∧ n ≤ 7 := fun n hn => by
  have hn := (mem_fold _ _).1 hn
  have aux : ∀ (l : List I) (S : List Int), l.all gI = true → ∀ n ∈ need l S, 0 ≤ n ∧ n ≤ 7 := by
    intro l
    induction l with
    | nil => intro S _ n hn; simp [need] at hn
    | cons x l ih =>
      intro S hg n hn
      rw [List.all_cons, Bool.and_eq_true] at hg
      unfold need at hn
      rcases List.mem_append.1 hn with hn | hn
      · exact (gI_names hg.1).2 n (List.mem_filter.1 hn).1
      · exact ih _ hg.2 n hn
  exact aux c [] (gC_all hg) n hn
theorem l0_ok {l : List Int} (h : Bytes l) (c : List I) (v T V : List Int) (hg : gC c = true) (hw : wV v = true) (hT : (runL c v []).1 = T) (hV : (runL c v []).2 = V) (kk : Int) (k0 : 0 ≤ kk) (k1 : kk ≤ 31) (k : Nat) (hk : 2100000 < k) :
    laws_FnCode.l0 (k + 8 + 1) l c v T V kk ((need c []).foldl ins []) ((dsts c).foldl ins []) v 8 0 = some true := by
  have hwv := wV_iff.1 hw
  have hgl := gC_le hg
  have hTl := (runL_len c v []).1
  have hVl := (runL_len c v []).2
  rw [hT, List.length_nil] at hTl
  rw [hV] at hVl
  have hDl := resD_len c
  have hNl := resN_len c
  rw [resD_ok hg] at hDl; rw [resN_ok hg] at hNl
  dsimp only at hDl hNl
  obtain ⟨ot, o1, o2, o3, e3⟩ := other_loop l c v T V ((dsts c).foldl ins []) ((need c []).foldl ins []) kk k0 (by omega) (by omega) (hNin hg) 8 k 0 v (by omega) (by omega) hwv.2 hwv.1 (fun n _ => rfl)
  rw [show ((0 : Nat) : Int) = 0 from rfl] at e3
  rw [e3, i_res k c ot (by omega) (by omega) (by omega)]
  clear e3
  simp only [Option.bind_some]
  have how : wV ot = true := wV_iff.2 ⟨o2, o1⟩
  rw [res_ok hg how]
  dsimp only
  have al := run_alike c [] v ot [] (gC_all hg) hwv.2 o1 (fun n n0 n1 hn => by
    rcases hn with hn | hn
    · simp at hn
    · exact (o3 n ((mem_fold _ _).2 hn)).symm)
  rw [if_pos rfl, ← al.1, hT, same_self k T (by omega) (by omega)]
  simp only [Option.bind_some, Bool.not_true]
  obtain ⟨k, rfl⟩ : ∃ m, k = m + 1 := ⟨k - 1, by omega⟩
  simp only [laws_FnCode.j4]
  rw [if_neg (by decide)]
  have hZ := (runL_len c ot []).2
  have ll := last_loop h v V ((dsts c).foldl ins []) ot (runL c ot []).2 hwv.2 (by omega) o1 (by omega) (by omega)
    (fun n n0 n1 hn => by rw [← hV]; exact (al.2 n n0 n1 (.inr ((mem_fold _ _).1 hn))).symm)
    (fun n n0 n1 hn => by
      have hn' : n ∉ dsts c := fun h => hn ((mem_fold _ _).2 h)
      exact ⟨run_kept c ot [] (gC_all hg) o1 n n0 hn', by rw [← hV]; exact run_kept c v [] (gC_all hg) hwv.2 n n0 hn'⟩) 8 k 0 (by omega) (by omega)
  rw [hZ, o1]
  exact ll
theorem j1_ok {l : List Int} (h : Bytes l) (c : List I) (v T V : List Int) (hg : gC c = true) (hw : wV v = true) (hT : (runL c v []).1 = T) (hV : (runL c v []).2 = V) (kk : Int) (k0 : 0 ≤ kk) (k1 : kk ≤ 31) (k : Nat) (hk : 2100000 < k) :
    laws_FnCode.j1 (k + 11) l c v T V kk false = some true := by
  have hl := l0_ok h c v T V hg hw hT hV kk k0 k1 k hk
  have hgl := gC_le hg
  obtain ⟨q, hq⟩ : ∃ q, q = k + 8 + 1 := ⟨_, rfl⟩
  rw [← hq] at hl
  rw [show k + 11 = (q + 1) + 1 by omega]
  simp only [laws_FnCode.j1]
  rw [if_neg (by decide), i_resD (q + 1) c (by omega) (by omega), i_resN (q + 1) c (by omega) (by omega), resD_ok hg, resN_ok hg]
  simp only [Option.bind_some, if_true, Bool.not_true]
  simp only [laws_FnCode.j2]
  have hv := (wV_iff.1 hw).2
  rw [if_neg (by decide)]
  simp only [Option.bind_some, List.length_nil, List.nil_append]
  rw [if_pos (by omega), hv]
  exact hl
theorem j0_run (q : Nat) (l : List Int) (c : List I) (v T V T1 T2 V1 : List Int) (r kk : Int) (hc : c.length ≤ 31) (hq : 2000000 < q) (hT : T.length ≤ 31) (hV : V.length = 8) (hT1 : T1.length + T2.length = T.length) (er : laws_numberOf.f q l = some r) (r0 : 0 ≤ r) (hkk : kk = r % ((c.length : Int) + 1)) (k0 : 0 ≤ kk) (k1 : kk < (c.length : Int) + 1)
    (e1 : impl_RunCode.f q (c.take kk.toNat) v = some (T1, V1, true)) (e2 : impl_RunCode.f q (c.drop kk.toNat) V1 = some (T2, V, true)) (ea : T1 ++ T2 = T) (hj : laws_FnCode.j1 q l c v T V kk false = some true) : laws_FnCode.j0 (q + 1) l c v T V true false = some true := by
  have hw : wrap64 ((c.length : Int) + 1) = (c.length : Int) + 1 := w64 (by omega) (by omega)
  have ht : Int.tmod r ((c.length : Int) + 1) = kk := by rw [Int.tmod_eq_emod_of_nonneg r0, hkk]
  have s1 := same_self q V (by omega) (by omega)
  have s2 := same_self q T (by omega) (by omega)
  have g1 : (0 : Nat) + T1.length < 17592186044416 := by omega
  have g2 : T1.length + T2.length < 17592186044416 := by omega
  have g3 : ¬ ((c.length : Int) + 1 = 0) := by omega
  have g4 : kk ≤ (c.length : Int) := by omega
  clear hc hq hT hV hT1 r0 hkk k1
  simp only [laws_FnCode.j0]
  rw [if_neg (by decide), if_pos trivial, er]
  simp only [Option.bind_some, hw, ht]
  rw [if_neg g3, if_pos k0, if_pos g4, e1]
  simp only [Option.bind_some]
  rw [e2]
  simp only [Option.bind_some, if_true]
  rw [s1]
  simp only [Option.bind_some, if_true, List.length_nil, List.nil_append]
  rw [if_pos g1, if_pos g2, ea, s2]
  simp only [Option.bind_some, Bool.not_true]
  exact hj
theorem j0_ok {l : List Int} (h : Bytes l) (c : List I) (v : List Int) (hc : c.length ≤ 31) (hv : v.length = 8) (k : Nat) (hk : 2100000 < k) : laws_FnCode.j0 (k + 11 + 1) l c v (res c v).1 (res c v).2.1 (res c v).2.2 false = some true := by
  obtain ⟨q, hq⟩ : ∃ q, q = k + 11 := ⟨_, rfl⟩
  rw [← hq]
  by_cases ok : (res c v).2.2 = true
  · have hg : gC c = true := by
      by_cases g : gC c = true
      · exact g
      · unfold res at ok; rw [if_neg g] at ok; exact absurd ok (by decide)
    have hw : wV v = true := by
      by_cases g : wV v = true
      · exact g
      · unfold res at ok; rw [if_pos hg, if_neg g] at ok; exact absurd ok (by decide)
    rw [res_ok hg hw]
    dsimp only
    have hT := (runL_len c v []).1
    have hV := (runL_len c v []).2
    have hgl := gC_le hg
    rw [List.length_nil] at hT
    obtain ⟨r, er, r0, r1⟩ := number q l (by have := h.1; omega) h
    have hm := emod_in r ((c.length : Int) + 1) (by omega)
    obtain ⟨kk, hkk⟩ : ∃ kk, kk = r % ((c.length : Int) + 1) := ⟨_, rfl⟩
    rw [← hkk] at hm
    have hj := j1_ok h c v _ _ hg hw rfl rfl kk hm.1 (by omega) k hk
    rw [← hq] at hj
    have hp := two_parts hg hw kk.toNat
    have h8 := (res_len (c.take kk.toNat) v)
    have hTl : (runL (c.take kk.toNat) v []).1.length + (runL (c.drop kk.toNat) (runL (c.take kk.toNat) v []).2 []).1.length = (runL c v []).1.length := by rw [← hp.2, List.length_append]
    have e1 := i_res q (c.take kk.toNat) v (by omega) (by rw [List.length_take]; omega) (by omega)
    have e2 := i_res q (c.drop kk.toNat) (res (c.take kk.toNat) v).2.1 (by omega) (by rw [List.length_drop]; omega) (by omega)
    rw [hp.1] at e2
    have hp2 := hp.2
    rw [res_ok (gC_take hg _) hw] at e1 e2
    dsimp only at e2
    exact j0_run q l c v _ _ _ _ _ r kk hc (by omega) (by omega) (by omega) hTl er r0 hkk hm.1 hm.2 e1 e2 hp2 hj
  · simp only [laws_FnCode.j0]
    rw [if_neg (by decide), if_neg ok]
    obtain ⟨q, rfl⟩ : ∃ m, q = m + 1 := ⟨q - 1, by omega⟩
    exact j6_ok h q (by omega)
end FnCode
open FnCode in
theorem FnCode : laws_FnCode.Pure := by
  intro l0 l1 _ q0 hw0 _ q1 hw1
  obtain ⟨k, hk⟩ : ∃ k : Nat, k = 3000000 := ⟨_, rfl⟩
  refine ⟨k + 11 + 1, ?_⟩
  obtain ⟨q, hq⟩ : ∃ q, q = k + 11 + 1 := ⟨_, rfl⟩
  have hj := fun c v hc hv => fun hB => j0_ok (l := l1) hB c v hc hv k (by omega)
  rw [← hq] at hj ⊢
  unfold laws_FnCode.f
  rw [w64 (by omega) (by omega)]
  by_cases hl : (l0.length : Int) + (l1.length : Int) > 1048576
  · rw [if_pos hl]
  rw [if_neg hl]
  have hB0 : Bytes l0 := ⟨by omega, fun x hx => ⟨wf_u8_lo (hw0 x hx), wf_u8_hi (hw0 x hx)⟩⟩
  have hB1 : Bytes l1 := ⟨by omega, fun x hx => ⟨wf_u8_lo (hw1 x hx), wf_u8_hi (hw1 x hx)⟩⟩
  obtain ⟨c, v, e, hc, hv⟩ := draw_run hB0 q (by omega)
  rw [e]; simp only [Option.bind_some]
  rw [i_res q c v (by omega) (by omega) (by omega), s_res q c v (by omega) (by omega) (by omega)]
  simp only [Option.bind_some, bne_self_eq_false]
  have hr := res_len c v
  rw [if_neg (by decide), same_self q _ (by omega) (by omega)]
  simp only [Option.bind_some, if_true]
  rw [same_self q _ (by omega) (by omega)]
  simp only [Option.bind_some, if_true]
  rw [i_goodcode q c (by omega) (by omega), s_code q c (by omega) (by omega)]
  simp only [Option.bind_some, bne_self_eq_false]
  exact hj c v hc hv hB1

end Go.Proofs.Ytapdpmfijijjfaa.Pure
