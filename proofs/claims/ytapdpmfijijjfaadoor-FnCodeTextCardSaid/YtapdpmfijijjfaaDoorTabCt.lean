/- What the walks of the text's readers ask of the world: the table of powers of ten, bytealg.MaxLen, strconv's two errors. It stands whatever is laid behind the heap. -/
import Derived.Test.YtapdpmfijijjfaaDoorProg
import Derived.Test.YtapdpmfijijjfaaDoorVCtWWords
import Derived.Lib.LaidTab
import Derived.Lib.ItoaNum
namespace Go.Proofs.YtapdpmfijijjfaaDoor
open Go Go.RowKit
theorem g_pow10 : Tryd.prog.globalNamed "internal/strconv.uint64pow10" = some 5 := by kernel_rfl
/-- The table internal/strconv.uint64pow10 as its variable holds it. -/
def PowAt (w : World) : Prop := Lib.TabIs Tryd.prog w "internal/strconv.uint64pow10" .u64 Lib.pow10Tab
theorem PowAt.lt {w : World} (h : PowAt w) : 5 < w.heap.size := by
  unfold PowAt Lib.TabIs World.var? at h
  rw [g_pow10] at h
  simp only [Option.bind_some] at h
  by_cases c : 5 < w.heap.size
  · exact c
  · rw [Array.getElem?_eq_none (by omega)] at h; cases h
theorem PowAt.on {w w1 : World} (h : PowAt w) (hb : Below w.heap.size w w1) : PowAt w1 := by
  have hl := h.lt
  unfold PowAt Lib.TabIs World.var? at *
  rw [g_pow10] at *
  simp only [Option.bind_some] at *
  rw [hb.block _ hl]
  exact h
def TabAt (w : World) : Prop := PowAt w ∧ (∃ m, w.cell? ⟨0, 0, none⟩ = some (.int .i64 m)) ∧ (∃ te pe, w.cell? ⟨1, 0, none⟩ = some (.iface te pe)) ∧ ∃ te pe, w.cell? ⟨2, 0, none⟩ = some (.iface te pe)
theorem TabAt.on {w w1 : World} (h : TabAt w) (hb : Below w.heap.size w w1) : TabAt w1 := by
  obtain ⟨h0, ⟨m, h1⟩, ⟨te, pe, h2⟩, ⟨te', pe', h3⟩⟩ := h
  exact ⟨h0.on hb, ⟨m, (hb.cell (World.block_lt_of_cell? w _ h1)).trans h1⟩, ⟨te, pe, (hb.cell (World.block_lt_of_cell? w _ h2)).trans h2⟩, ⟨te', pe', (hb.cell (World.block_lt_of_cell? w _ h3)).trans h3⟩⟩
end Go.Proofs.YtapdpmfijijjfaaDoor
