/- What a readable argument's cells are, kind by kind: from the reading (trod) to the kinds' own words (K). No program in sight. -/
import Derived.Deep.Slices
import Derived.ChangeArms
import Derived.ChangeSame
import Derived.ChangeShapes
import Derived.WideShapes
import Derived.Test.YtapdpmfijijjfaaDoorWWords
namespace Go.Proofs.YtapdpmfijijjfaaDoor.Opens
open Go Go.ChangeShapes Go.WideShapes Go.RowKit Go.Deep Go.Proofs.YtapdpmfijijjfaaDoorW.PrintWords

def Opens (P : Program) (t : TypeId) {α : Type} (d : Kd α) (F : α → Prop) : Prop :=
  ∀ {H : Type} (enc : TypeId × Value → H) (w : World) (base : Nat) (spare : Nat → Bool) (held : Bool) (fuel : Nat) (cs : List Value) (x : DataW H × List MemPlace),
    DataW.trod enc P w base spare held fuel t cs = some x → ∃ a : α, d.K w a cs ∧ F a

theorem opens_int {P : Program} {t : TypeId} {k : IntKind} (h : P.underlying t = some (.int k)) : Opens P t (Kd.int k) (fun n => (Lit.int k n).wf = true) := by
  intro H enc w base spare held fuel cs x hx
  obtain ⟨n, rfl, _, hw⟩ := DataW.trod_int h hx
  exact ⟨n, rfl, hw⟩
theorem opens_bool {P : Program} {t : TypeId} (h : P.underlying t = some .bool) : Opens P t Kd.bool (fun _ => True) := by
  intro H enc w base spare held fuel cs x hx
  obtain ⟨n, rfl, _⟩ := DataW.trod_bool h hx
  exact ⟨n, rfl, trivial⟩
theorem opens_slice {P : Program} {t e : TypeId} {α : Type} {d : Kd α} {F : α → Prop} (h : P.underlying t = some (.slice e)) (hC : P.cellsOf e = d.sz) (ho : Opens P e d F) (hF : ∃ _a : α, True) :
    Opens P t (Kd.slice e d) (fun l => l.length ≤ 9223372036854775807 ∧ ∀ a ∈ l, F a) := by
  intro H enc w base spare held fuel cs x hx
  rcases open_slice h hx with ⟨rfl, rfl⟩ | ⟨a, len, cap, m, n, D, Pl, rfl, hb, hl, hm, hmm, rfl, hi⟩
  · exact ⟨[], ⟨none, 0, rfl, Nat.le_refl _, ⟨rfl, by simp, fun h => by simp at h⟩⟩, by simp, by simp⟩
  · have hlm : len ≤ m := by rw [hmm]; split <;> omega
    unfold maxLen at hm
    have each : ∀ i, ∃ p : α, i < len → (∃ c : List Value, c.length = d.sz ∧ d.K w p c ∧ (∀ j u, c[j]? = some u → w.cell? (a.add (i * d.sz + j)) = some u)) ∧ F p := by
      intro i
      by_cases hil : i < len
      · obtain ⟨cs', h1, h2⟩ := hi i (by omega)
        obtain ⟨p, hK, hFp⟩ := ho enc w base spare held n cs' (D i, Pl i) h2
        rw [hC] at h1
        obtain ⟨_, hcl, hat⟩ := World.cells?_some h1
        refine ⟨p, fun _ => ⟨⟨cs', hcl, hK, fun j u hj => ?_⟩, hFp⟩⟩
        have hjl : j < d.sz := by have := (List.getElem?_eq_some_iff.1 hj).1; omega
        rw [← Go.Deep.add_add, hat j hjl, hj]
      · obtain ⟨p, _⟩ := hF
        exact ⟨p, fun hh => absurd hh hil⟩
    let f : Nat → α := fun i => (each i).choose
    have hf : ∀ i, i < len → (∃ c : List Value, c.length = d.sz ∧ d.K w (f i) c ∧ (∀ j u, c[j]? = some u → w.cell? (a.add (i * d.sz + j)) = some u)) ∧ F (f i) := fun i => (each i).choose_spec
    have hlen : ((List.range len).map f).length = len := by simp
    refine ⟨(List.range len).map f, ⟨some a, cap, by rw [hlen], by rw [hlen]; exact hl, ⟨rfl, by rw [hlen]; omega, fun _ => ⟨a, rfl, fun j p hj => ?_⟩⟩⟩, by rw [hlen]; omega, fun p hp => ?_⟩
    · have hjl : j < len := by have := (List.getElem?_eq_some_iff.1 hj).1; rw [hlen] at this; exact this
      have hp : p = f j := by
        rw [List.getElem?_map, List.getElem?_range hjl] at hj
        simpa using hj.symm
      subst hp
      obtain ⟨⟨c, h1, h2, h3⟩, _⟩ := hf j hjl
      exact ⟨c, h1, h2, h3⟩
    · obtain ⟨i, hi', rfl⟩ := List.mem_map.1 hp
      exact (hf i (List.mem_range.1 hi')).2

theorem opens_iso {P : Program} {t : TypeId} {α β : Type} {d : Kd α} {F : α → Prop} (f : β → α) (g : α → β) (hg : ∀ x, f (g x) = x) (h : Opens P t d F) : Opens P t (Kd.iso d f) (fun b => F (f b)) := by
  intro H enc w base spare held fuel cs x hx
  obtain ⟨a, hK, hF⟩ := h enc w base spare held fuel cs x hx
  exact ⟨g a, by show d.K w (f (g a)) cs; rw [hg]; exact hK, by show F (f (g a)); rw [hg]; exact hF⟩

/-- One field of one cell, at its place. -/
theorem field_at {P : Program} {H : Type} {enc : TypeId × Value → H} {w : World} {base : Nat} {spare : Nat → Bool} {held : Bool} {n i : Nat} {fs : Array Field} {f : Field} {cs : List Value} {xs : List (DataW H × List MemPlace)} {c : Value} {α : Type} {d : Kd α} {F : α → Prop}
    (hf : ∀ (i : Nat) (f : Field), fs[i]? = some f → DataW.trod enc P w base spare held n f.type ((cs.drop f.offset).take (P.cellsOf f.type)) = xs[i]?) (hlen : xs.length = fs.size)
    (hi : fs[i]? = some f) (h1 : P.cellsOf f.type = 1) (hc : cs[f.offset]? = some c) (ho : Opens P f.type d F) : ∃ a : α, d.K w a [c] ∧ F a := by
  have hlt : i < xs.length := by rw [hlen]; exact (Array.getElem?_eq_some_iff.1 hi).1
  have h := hf i f hi
  rw [h1, List.getElem?_eq_getElem hlt] at h
  obtain ⟨hlt2, he⟩ := List.getElem?_eq_some_iff.1 hc
  rw [List.drop_eq_getElem_cons hlt2, he] at h
  exact ho enc w base spare held n _ _ h

theorem opens_struct3 {P : Program} {t : TypeId} {f0 f1 f2 : Field} {α β γ : Type} {d0 : Kd α} {d1 : Kd β} {d2 : Kd γ} {F0 : α → Prop} {F1 : β → Prop} {F2 : γ → Prop}
    (hs : P.underlying t = some (.struct #[f0, f1, f2])) (hC : P.cellsOf t = 3) (hoff : f0.offset = 0 ∧ f1.offset = 1 ∧ f2.offset = 2) (hone : P.cellsOf f0.type = 1 ∧ P.cellsOf f1.type = 1 ∧ P.cellsOf f2.type = 1)
    (o0 : Opens P f0.type d0 F0) (o1 : Opens P f1.type d1 F1) (o2 : Opens P f2.type d2 F2) : Opens P t (Kd.pair d0 (Kd.pair d1 d2)) (fun x => F0 x.1 ∧ F1 x.2.1 ∧ F2 x.2.2) := by
  intro H enc w base spare held fuel cs x hx
  obtain ⟨xs, n, _, rfl, hl, hlen, hf⟩ := DataW.trod_struct hs hx
  obtain ⟨e0, e1, e2⟩ := hoff
  obtain ⟨k0, k1, k2⟩ := hone
  match cs, hl.trans hC with
  | [c0, c1, c2], _ =>
    obtain ⟨a0, h0, g0⟩ := field_at (c := c0) (f := f0) hf hlen (i := 0) rfl k0 (by rw [e0]; rfl) o0
    obtain ⟨a1, h1, g1⟩ := field_at (c := c1) (f := f1) hf hlen (i := 1) rfl k1 (by rw [e1]; rfl) o1
    obtain ⟨a2, h2, g2⟩ := field_at (c := c2) (f := f2) hf hlen (i := 2) rfl k2 (by rw [e2]; rfl) o2
    exact ⟨(a0, a1, a2), ⟨[c0], [c1, c2], rfl, h0, ⟨[c1], [c2], rfl, h1, h2⟩⟩, g0, g1, g2⟩
theorem opens_struct4 {P : Program} {t : TypeId} {f0 f1 f2 f3 : Field} {α β γ δ : Type} {d0 : Kd α} {d1 : Kd β} {d2 : Kd γ} {d3 : Kd δ} {F0 : α → Prop} {F1 : β → Prop} {F2 : γ → Prop} {F3 : δ → Prop}
    (hs : P.underlying t = some (.struct #[f0, f1, f2, f3])) (hC : P.cellsOf t = 4) (hoff : f0.offset = 0 ∧ f1.offset = 1 ∧ f2.offset = 2 ∧ f3.offset = 3) (hone : P.cellsOf f0.type = 1 ∧ P.cellsOf f1.type = 1 ∧ P.cellsOf f2.type = 1 ∧ P.cellsOf f3.type = 1)
    (o0 : Opens P f0.type d0 F0) (o1 : Opens P f1.type d1 F1) (o2 : Opens P f2.type d2 F2) (o3 : Opens P f3.type d3 F3) : Opens P t (Kd.pair d0 (Kd.pair d1 (Kd.pair d2 d3))) (fun x => F0 x.1 ∧ F1 x.2.1 ∧ F2 x.2.2.1 ∧ F3 x.2.2.2) := by
  intro H enc w base spare held fuel cs x hx
  obtain ⟨xs, n, _, rfl, hl, hlen, hf⟩ := DataW.trod_struct hs hx
  obtain ⟨e0, e1, e2, e3⟩ := hoff
  obtain ⟨k0, k1, k2, k3⟩ := hone
  match cs, hl.trans hC with
  | [c0, c1, c2, c3], _ =>
    obtain ⟨a0, h0, g0⟩ := field_at (c := c0) (f := f0) hf hlen (i := 0) rfl k0 (by rw [e0]; rfl) o0
    obtain ⟨a1, h1, g1⟩ := field_at (c := c1) (f := f1) hf hlen (i := 1) rfl k1 (by rw [e1]; rfl) o1
    obtain ⟨a2, h2, g2⟩ := field_at (c := c2) (f := f2) hf hlen (i := 2) rfl k2 (by rw [e2]; rfl) o2
    obtain ⟨a3, h3, g3⟩ := field_at (c := c3) (f := f3) hf hlen (i := 3) rfl k3 (by rw [e3]; rfl) o3
    exact ⟨(a0, a1, a2, a3), ⟨[c0], [c1, c2, c3], rfl, h0, ⟨[c1], [c2, c3], rfl, h1, ⟨[c2], [c3], rfl, h2, h3⟩⟩⟩, g0, g1, g2, g3⟩
theorem opens_struct5 {P : Program} {t : TypeId} {f0 f1 f2 f3 f4 : Field} {α β γ δ ε : Type} {d0 : Kd α} {d1 : Kd β} {d2 : Kd γ} {d3 : Kd δ} {d4 : Kd ε} {F0 : α → Prop} {F1 : β → Prop} {F2 : γ → Prop} {F3 : δ → Prop} {F4 : ε → Prop}
    (hs : P.underlying t = some (.struct #[f0, f1, f2, f3, f4])) (hC : P.cellsOf t = 5) (hoff : f0.offset = 0 ∧ f1.offset = 1 ∧ f2.offset = 2 ∧ f3.offset = 3 ∧ f4.offset = 4) (hone : P.cellsOf f0.type = 1 ∧ P.cellsOf f1.type = 1 ∧ P.cellsOf f2.type = 1 ∧ P.cellsOf f3.type = 1 ∧ P.cellsOf f4.type = 1)
    (o0 : Opens P f0.type d0 F0) (o1 : Opens P f1.type d1 F1) (o2 : Opens P f2.type d2 F2) (o3 : Opens P f3.type d3 F3) (o4 : Opens P f4.type d4 F4) : Opens P t (Kd.pair d0 (Kd.pair d1 (Kd.pair d2 (Kd.pair d3 d4)))) (fun x => F0 x.1 ∧ F1 x.2.1 ∧ F2 x.2.2.1 ∧ F3 x.2.2.2.1 ∧ F4 x.2.2.2.2) := by
  intro H enc w base spare held fuel cs x hx
  obtain ⟨xs, n, _, rfl, hl, hlen, hf⟩ := DataW.trod_struct hs hx
  obtain ⟨e0, e1, e2, e3, e4⟩ := hoff
  obtain ⟨k0, k1, k2, k3, k4⟩ := hone
  match cs, hl.trans hC with
  | [c0, c1, c2, c3, c4], _ =>
    obtain ⟨a0, h0, g0⟩ := field_at (c := c0) (f := f0) hf hlen (i := 0) rfl k0 (by rw [e0]; rfl) o0
    obtain ⟨a1, h1, g1⟩ := field_at (c := c1) (f := f1) hf hlen (i := 1) rfl k1 (by rw [e1]; rfl) o1
    obtain ⟨a2, h2, g2⟩ := field_at (c := c2) (f := f2) hf hlen (i := 2) rfl k2 (by rw [e2]; rfl) o2
    obtain ⟨a3, h3, g3⟩ := field_at (c := c3) (f := f3) hf hlen (i := 3) rfl k3 (by rw [e3]; rfl) o3
    obtain ⟨a4, h4, g4⟩ := field_at (c := c4) (f := f4) hf hlen (i := 4) rfl k4 (by rw [e4]; rfl) o4
    exact ⟨(a0, a1, a2, a3, a4), ⟨[c0], [c1, c2, c3, c4], rfl, h0, ⟨[c1], [c2, c3, c4], rfl, h1, ⟨[c2], [c3, c4], rfl, h2, ⟨[c3], [c4], rfl, h3, h4⟩⟩⟩⟩, g0, g1, g2, g3, g4⟩

/-- A parameter's value and its own list. -/
theorem take_slice {P : Program} {t e : TypeId} {α : Type} {d : Kd α} {F : List α → Prop} (ho : Opens P t (Kd.slice e d) F) {H : Type} {enc : TypeId × Value → H} {w : World} {base : Nat} {spare : Nat → Bool} {held : Bool} {A : Option Addr} {n c : Nat} {D : DataW H} {ps : List MemPlace}
    (h : DataW.Trod enc P w base spare held t (.slice A n c) D ps) : ∃ l : List α, n = l.length ∧ l.length ≤ c ∧ Kd.C d w A l.length l ∧ F l := by
  obtain ⟨fuel, hf⟩ := h
  obtain ⟨l, ⟨A', c', he, hl, hC⟩, hF⟩ := ho enc w base spare held fuel _ _ hf
  simp only [Value.cells, List.cons.injEq, and_true] at he
  injection he with h1 h2 h3
  subst h1
  subst h2
  subst h3
  exact ⟨l, rfl, hl, hC, hF⟩
theorem take_agg {P : Program} {t : TypeId} {α : Type} {d : Kd α} {F : α → Prop} (ho : Opens P t d F) {H : Type} {enc : TypeId × Value → H} {w : World} {base : Nat} {spare : Nat → Bool} {held : Bool} {cs : Array Value} {D : DataW H} {ps : List MemPlace}
    (h : DataW.Trod enc P w base spare held t (.agg cs) D ps) : ∃ a : α, d.K w a cs.toList ∧ F a := by
  obtain ⟨fuel, hf⟩ := h
  exact ho enc w base spare held fuel _ _ hf

end Go.Proofs.YtapdpmfijijjfaaDoor.Opens
