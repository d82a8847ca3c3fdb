/- The library's slices.Sort and slices.Compact at []int, laid over this program. -/
import Derived.Shelf.Lay
import Derived.Shelf.Sort.Plain
import Derived.Shelf.Slices.In.SortNone
import Derived.Shelf.Slices.CompactI
import Derived.Ground.Names2Prog
import Derived.Test.YtapdpmfijijjfaaProg
import Derived.Test.YtapdpmfijijjfaaWWords
import Derived.Test.YtapdpmfijijjfaaWKept
import Derived.Test.YtapdpmfijijjfaaWMore
namespace Go.Proofs
open Go.Shelf
shelf_lay Lays.n189 Nm 189 at Try as Try.lays189
open Go.Sort Go.RowKit in
theorem Ytapdpmfijijjfaa.sort_int (blk off cap : Nat) (zs : List Int) (w : World) (hH : Holds (Value.int .i64) w blk off zs.toArray) (hblk : blk < w.heap.size) (hsz : zs.length < 4611686018427387904) :
    Calls Try.prog 37 #[.slice (some ⟨blk, off, none⟩) zs.length cap] w fun e w' =>
      e = .returned (.tuple #[]) ∧ ∃ n os, w' = grow (putRow (Value.int .i64) (Sort.ahead w n) blk off (zs.mergeSort fun x y => decide (x ≤ y)).toArray) os := Any.slices_Sort_int Try.lays189 blk off cap zs w hH hblk hsz

shelf_lay Lays2.n20 Nm2 20 at Try as Try.lays220
open Go.Sort Go.RowKit in
theorem Ytapdpmfijijjfaa.compact_int (blk off cap : Nat) (zs : List Int) (w : World) (hH : Holds (Value.int .i64) w blk off zs.toArray) (hsz : zs.length ≤ 9223372036854775807) (hcap : zs.length ≤ cap) :
    Calls Try.prog 38 #[.slice (some ⟨blk, off, none⟩) zs.length cap] w fun e w' => e = .returned (.slice (some ⟨blk, off, none⟩) (Lib.compact zs).length cap) ∧ ∃ q, w' = putRow (Value.int .i64) (Sort.ahead w q) blk off (Lib.compact zs ++ List.replicate (zs.length - (Lib.compact zs).length) 0).toArray := Any.slices_Compact_int Try.lays220 blk off cap zs w hH hsz hcap
theorem Ytapdpmfijijjfaa.compact_none (a : Option Addr) (cap : Nat) (w : World) :
    Calls Try.prog 38 #[.slice a 0 cap] w fun e w' => e = .returned (.slice a 0 cap) ∧ w' = w := Any.slices_Compact_int_empty Try.lays220 a cap w
end Go.Proofs
namespace Go.Proofs.Ytapdpmfijijjfaa.Shelf
open Go.RowKit Go.Proofs.YtapdpmfijijjfaaW.PrintWords Go.Proofs.YtapdpmfijijjfaaW.PrintLast Go.Proofs.YtapdpmfijijjfaaW.PrintMore
theorem below_ga (W : World) (n : Nat) (os : Array Obj) : Below W.heap.size W (Go.Sort.grow (Go.Sort.ahead W n) os) :=
  ⟨rfl, rfl, rfl, by simp, fun k hk => by simp [Go.Sort.grow, Array.getElem?_append, hk]⟩
theorem row_holds {W : World} {base : Nat} {P : Nat → Prop} {g n cap : Nat} {xs : List Int} (h : Kd.R (Kd.int .i64) 3 W base P (.slice (some ⟨g, 0, none⟩) n cap) xs) : Go.Sort.Holds (Value.int .i64) W g 0 xs.toArray := by
  intro j hj
  have hn := (Kd.R_reads' h).1
  have hj' : j < xs.length := by simpa using hj
  have hc := Kd.R_celln 0 h (j : Int) (by omega) (by omega)
  rw [Int.toNat_natCast] at hc
  refine ⟨?_, by rw [Nat.zero_add]; exact hc.2⟩
  rw [Nat.zero_add, hc.1]
  congr 2
  show xs.getD (j : Int).toNat 0 = _
  rw [Int.toNat_natCast, List.getD_eq_getElem?_getD, List.getElem?_eq_getElem hj', getElem!_pos _ j hj]
  simp
theorem put_row {w0 W : World} {P : Nat → Prop} {g n cap : Nat} {xs : List Int} (hB : Below w0.heap.size w0 W) (h : Kd.R (Kd.int .i64) 3 W w0.heap.size P (.slice (some ⟨g, 0, none⟩) n cap) xs) (ys : List Int) (hl : ys.length = xs.length) :
    Kd.R (Kd.int .i64) 3 (Go.Sort.putRow (Value.int .i64) W g 0 ys.toArray) w0.heap.size P (.slice (some ⟨g, 0, none⟩) n cap) ys ∧ Below w0.heap.size w0 (Go.Sort.putRow (Value.int .i64) W g 0 ys.toArray) ∧ Kept W (Go.Sort.putRow (Value.int .i64) W g 0 ys.toArray) P := by
  have hg : w0.heap.size ≤ g := Kd.R_base h g rfl
  have hP : P g := h.1 g rfl
  have key : ∀ i, i ≤ xs.length → Kd.R (Kd.int .i64) 3 (Go.Sort.putRow (Value.int .i64) W g 0 (ys.take i ++ xs.drop i).toArray) w0.heap.size P (.slice (some ⟨g, 0, none⟩) n cap) (ys.take i ++ xs.drop i) ∧ Below w0.heap.size w0 (Go.Sort.putRow (Value.int .i64) W g 0 (ys.take i ++ xs.drop i).toArray) ∧ Kept W (Go.Sort.putRow (Value.int .i64) W g 0 (ys.take i ++ xs.drop i).toArray) P := by
    intro i
    induction i with
    | zero =>
      intro _
      rw [List.take_zero, List.drop_zero, List.nil_append, Go.Sort.putRow_self _ _ _ _ _ (row_holds h)]
      exact ⟨h, hB, Kept.refl _ _⟩
    | succ i ih =>
      intro hi
      obtain ⟨h1, h2, h3⟩ := ih (by omega)
      have hlen : i < (ys.take i ++ xs.drop i).length := by simp; omega
      have es : ys.take (i + 1) ++ xs.drop (i + 1) = (ys.take i ++ xs.drop i).set i ys[i] := by
        rw [List.set_append_right _ _ (by simp; omega), List.length_take, Nat.min_eq_left (by omega), Nat.sub_self, List.drop_eq_getElem_cons (show i < xs.length by omega), List.set_cons_zero, List.take_succ_eq_append_getElem (by omega), List.append_assoc]; rfl
      have ew : Go.Sort.putRow (Value.int .i64) W g 0 (ys.take (i + 1) ++ xs.drop (i + 1)).toArray = (Go.Sort.putRow (Value.int .i64) W g 0 (ys.take i ++ xs.drop i).toArray).setCell ⟨g, i, none⟩ (.int .i64 ys[i]) := by
        have e := Go.Sort.putRow_set (Value.int .i64) W g 0 (ys.take i ++ xs.drop i).toArray i ys[i] (by simpa using hlen)
        rw [Nat.zero_add] at e
        rw [e, es, List.setIfInBounds_toArray]
      rw [ew, es]
      have hr := Kd.R_putn h1 (i : Int) ys[i]
      rw [Int.toNat_natCast] at hr
      exact ⟨hr, below_set h2 hg, Kept.setCell h3 (.inl hP) _⟩
  have hk := key xs.length (Nat.le_refl _)
  rw [List.drop_length, List.append_nil, ← hl, List.take_length] at hk
  exact hk
end Go.Proofs.Ytapdpmfijijjfaa.Shelf
