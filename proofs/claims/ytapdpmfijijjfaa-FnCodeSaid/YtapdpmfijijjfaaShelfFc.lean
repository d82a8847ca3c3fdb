/- The library's slices.Sort and slices.Compact at []int, laid over this program. -/
import Derived.Shelf.Sort.Plain
import Derived.Shelf.Slices.In.SortNone
import Derived.Shelf.Slices.CompactI
import Derived.Ground.Names2Prog
import Derived.Test.YtapdpmfijijjfaaProg
import Derived.Test.YtapdpmfijijjfaaVFcWWords
import Derived.Test.YtapdpmfijijjfaaVFcWKept
import Derived.Test.YtapdpmfijijjfaaVFcWMore
namespace Go.Proofs
open Go.Shelf
def Try.lays189_ren : Go.Shelf.Ren := ⟨fun | 189 => 37 | 125 => 59 | 257 => 58 | 128 => 74 | 129 => 75 | 294 => 65 | 295 => 66 | 296 => 67 | 297 => 68 | 298 => 69 | 299 => 70 | 216 => 71 | 300 => 72 | 301 => 73 | 328 => 76 | 329 => 77 | 330 => 78 | 331 => 79 | 332 => 80 | 215 => 81 | 343 => 82 | n => n, fun | 28 => 24 | 3 => 3 | 46 => 74 | 0 => 0 | 51 => 88 | 53 => 45 | 4 => 4 | 183 => 80 | 182 => 79 | 131 => 85 | 5 => 5 | 9 => 9 | 218 => 90 | 222 => 94 | 228 => 96 | 229 => 97 | n => n, fun | n => n⟩
theorem Try.lays189 : Go.Proofs.Lays.n189 Try.prog Try.lays189_ren := {
  mixed := by kernel_rfl
  f125 := Try.func59.trans (congrArg some (by kernel_rfl))
  f128 := Try.func74.trans (congrArg some (by kernel_rfl))
  f129 := Try.func75.trans (congrArg some (by kernel_rfl))
  f189 := Try.func37.trans (congrArg some (by kernel_rfl))
  f215 := Try.func81.trans (congrArg some (by kernel_rfl))
  f216 := Try.func71.trans (congrArg some (by kernel_rfl))
  f257 := Try.func58.trans (congrArg some (by kernel_rfl))
  f294 := Try.func65.trans (congrArg some (by kernel_rfl))
  f295 := Try.func66.trans (congrArg some (by kernel_rfl))
  f296 := Try.func67.trans (congrArg some (by kernel_rfl))
  f297 := Try.func68.trans (congrArg some (by kernel_rfl))
  f298 := Try.func69.trans (congrArg some (by kernel_rfl))
  f299 := Try.func70.trans (congrArg some (by kernel_rfl))
  f300 := Try.func72.trans (congrArg some (by kernel_rfl))
  f301 := Try.func73.trans (congrArg some (by kernel_rfl))
  f328 := Try.func76.trans (congrArg some (by kernel_rfl))
  f329 := Try.func77.trans (congrArg some (by kernel_rfl))
  f330 := Try.func78.trans (congrArg some (by kernel_rfl))
  f331 := Try.func79.trans (congrArg some (by kernel_rfl))
  f332 := Try.func80.trans (congrArg some (by kernel_rfl))
  f343 := Try.func82.trans (congrArg some (by kernel_rfl))
  t0 := Try.underlying0
  a0 := Try.isAgg0
  z0 := Try.sizeOf0
  v0 := Try.zeroValue0
  t3 := Try.underlying3
  a3 := Try.isAgg3
  z3 := Try.sizeOf3
  v3 := Try.zeroValue3
  t4 := Try.underlying4
  a4 := Try.isAgg4
  z4 := Try.sizeOf4
  v4 := Try.zeroValue4
  t5 := Try.underlying5
  a5 := Try.isAgg5
  z5 := Try.sizeOf5
  v5 := Try.zeroValue5
  t9 := Try.underlying9
  a9 := Try.isAgg9
  z9 := Try.sizeOf9
  v9 := Try.zeroValue9
  t28 := Try.underlying24
  a28 := Try.isAgg24
  z28 := Try.sizeOf24
  v28 := Try.zeroValue24
  t46 := Try.underlying74
  a46 := Try.isAgg74
  z46 := Try.sizeOf74
  v46 := Try.zeroValue74
  t51 := Try.underlying88
  a51 := Try.isAgg88
  z51 := Try.sizeOf88
  v51 := Try.zeroValue88
  t53 := Try.underlying45
  a53 := Try.isAgg45
  z53 := Try.sizeOf45
  v53 := Try.zeroValue45
  t131 := Try.underlying85
  a131 := Try.isAgg85
  z131 := Try.sizeOf85
  v131 := Try.zeroValue85
  t182 := Try.underlying79
  a182 := Try.isAgg79
  z182 := Try.sizeOf79
  v182 := Try.zeroValue79
  t183 := Try.underlying80
  a183 := Try.isAgg80
  z183 := Try.sizeOf80
  v183 := Try.zeroValue80
  t218 := Try.underlying90
  a218 := Try.isAgg90
  z218 := Try.sizeOf90
  v218 := Try.zeroValue90
  t222 := Try.underlying94
  a222 := Try.isAgg94
  z222 := Try.sizeOf94
  v222 := Try.zeroValue94
  t228 := Try.underlying96
  a228 := Try.isAgg96
  z228 := Try.sizeOf96
  v228 := Try.zeroValue96
  t229 := Try.underlying97
  a229 := Try.isAgg97
  z229 := Try.sizeOf97
  v229 := Try.zeroValue97 }
open Go.Sort Go.RowKit in
theorem Ytapdpmfijijjfaa.sort_int (blk off cap : Nat) (zs : List Int) (w : World) (hH : Holds (Value.int .i64) w blk off zs.toArray) (hblk : blk < w.heap.size) (hsz : zs.length < 4611686018427387904) :
    Calls Try.prog 37 #[.slice (some ⟨blk, off, none⟩) zs.length cap] w fun e w' =>
      e = .returned (.tuple #[]) ∧ ∃ n os, w' = grow (putRow (Value.int .i64) (Sort.ahead w n) blk off (zs.mergeSort fun x y => decide (x ≤ y)).toArray) os := Any.slices_Sort_int Try.lays189 blk off cap zs w hH hblk hsz

def Try.lays220_ren : Go.Shelf.Ren := ⟨fun | 20 => 38 | n => n, fun | 22 => 24 | 3 => 3 | 4 => 4 | 0 => 0 | n => n, fun | n => n⟩
theorem Try.lays220 : Go.Proofs.Lays2.n20 Try.prog Try.lays220_ren := {
  mixed := by kernel_rfl
  f20 := Try.func38.trans (congrArg some (by kernel_rfl))
  t0 := Try.underlying0
  a0 := Try.isAgg0
  z0 := Try.sizeOf0
  v0 := Try.zeroValue0
  t3 := Try.underlying3
  a3 := Try.isAgg3
  z3 := Try.sizeOf3
  v3 := Try.zeroValue3
  t4 := Try.underlying4
  a4 := Try.isAgg4
  z4 := Try.sizeOf4
  v4 := Try.zeroValue4
  t22 := Try.underlying24
  a22 := Try.isAgg24
  z22 := Try.sizeOf24
  v22 := Try.zeroValue24
  i3 := by kernel_rfl }
open Go.Sort Go.RowKit in
theorem Ytapdpmfijijjfaa.compact_int (blk off cap : Nat) (zs : List Int) (w : World) (hH : Holds (Value.int .i64) w blk off zs.toArray) (hsz : zs.length ≤ 9223372036854775807) (hcap : zs.length ≤ cap) :
    Calls Try.prog 38 #[.slice (some ⟨blk, off, none⟩) zs.length cap] w fun e w' => e = .returned (.slice (some ⟨blk, off, none⟩) (Lib.compact zs).length cap) ∧ ∃ q, w' = putRow (Value.int .i64) (Sort.ahead w q) blk off (Lib.compact zs ++ List.replicate (zs.length - (Lib.compact zs).length) 0).toArray := Any.slices_Compact_int Try.lays220 blk off cap zs w hH hsz hcap
theorem Ytapdpmfijijjfaa.compact_none (a : Option Addr) (cap : Nat) (w : World) :
    Calls Try.prog 38 #[.slice a 0 cap] w fun e w' => e = .returned (.slice a 0 cap) ∧ w' = w := Any.slices_Compact_int_empty Try.lays220 a cap w
end Go.Proofs
namespace Go.Proofs.Ytapdpmfijijjfaa.Shelf
open Go.RowKit Go.Proofs.YtapdpmfijijjfaaW.PrintWords Go.Proofs.YtapdpmfijijjfaaW.PrintLast Go.Proofs.YtapdpmfijijjfaaW.PrintMore
theorem below_ga (W : World) (n : Nat) (os : Array Obj) : Below W.heap.size W (Go.Sort.grow (Go.Sort.ahead W n) os) :=
  ⟨rfl, rfl, rfl, by simp, fun k hk => by simp [Go.Sort.grow, Array.getElem?_append, hk]⟩
theorem row_holds {W : World} {base : Nat} {P : Nat → Prop} {g n cap : Nat} {xs : List Int} (h : Kd.R (Kd.int .i64) 3 W base P (.slice (some ⟨g, 0, none⟩) n cap) xs) : Go.Sort.Holds (Value.int .i64) W g 0 xs.toArray := by
  intro j hj
  have hn := (Kd.R_reads' h).1
  have hj' : j < xs.length := by simpa using hj
  have hc := Kd.R_celln 0 h (j : Int) (by omega) (by omega)
  rw [Int.toNat_natCast] at hc
  refine ⟨?_, by rw [Nat.zero_add]; exact hc.2⟩
  rw [Nat.zero_add, hc.1]
  congr 2
  show xs.getD (j : Int).toNat 0 = _
  rw [Int.toNat_natCast, List.getD_eq_getElem?_getD, List.getElem?_eq_getElem hj', getElem!_pos _ j hj]
  simp
theorem put_row {w0 W : World} {P : Nat → Prop} {g n cap : Nat} {xs : List Int} (hB : Below w0.heap.size w0 W) (h : Kd.R (Kd.int .i64) 3 W w0.heap.size P (.slice (some ⟨g, 0, none⟩) n cap) xs) (ys : List Int) (hl : ys.length = xs.length) :
    Kd.R (Kd.int .i64) 3 (Go.Sort.putRow (Value.int .i64) W g 0 ys.toArray) w0.heap.size P (.slice (some ⟨g, 0, none⟩) n cap) ys ∧ Below w0.heap.size w0 (Go.Sort.putRow (Value.int .i64) W g 0 ys.toArray) ∧ Kept W (Go.Sort.putRow (Value.int .i64) W g 0 ys.toArray) P := by
  have hg : w0.heap.size ≤ g := Kd.R_base h g rfl
  have hP : P g := h.1 g rfl
  have key : ∀ i, i ≤ xs.length → Kd.R (Kd.int .i64) 3 (Go.Sort.putRow (Value.int .i64) W g 0 (ys.take i ++ xs.drop i).toArray) w0.heap.size P (.slice (some ⟨g, 0, none⟩) n cap) (ys.take i ++ xs.drop i) ∧ Below w0.heap.size w0 (Go.Sort.putRow (Value.int .i64) W g 0 (ys.take i ++ xs.drop i).toArray) ∧ Kept W (Go.Sort.putRow (Value.int .i64) W g 0 (ys.take i ++ xs.drop i).toArray) P := by
    intro i
    induction i with
    | zero =>
      intro _
      rw [List.take_zero, List.drop_zero, List.nil_append, Go.Sort.putRow_self _ _ _ _ _ (row_holds h)]
      exact ⟨h, hB, Kept.refl _ _⟩
    | succ i ih =>
      intro hi
      obtain ⟨h1, h2, h3⟩ := ih (by omega)
      have hlen : i < (ys.take i ++ xs.drop i).length := by simp; omega
      have es : ys.take (i + 1) ++ xs.drop (i + 1) = (ys.take i ++ xs.drop i).set i ys[i] := by
        rw [List.set_append_right _ _ (by simp; omega), List.length_take, Nat.min_eq_left (by omega), Nat.sub_self, List.drop_eq_getElem_cons (show i < xs.length by omega), List.set_cons_zero, List.take_succ_eq_append_getElem (by omega), List.append_assoc]; rfl
      have ew : Go.Sort.putRow (Value.int .i64) W g 0 (ys.take (i + 1) ++ xs.drop (i + 1)).toArray = (Go.Sort.putRow (Value.int .i64) W g 0 (ys.take i ++ xs.drop i).toArray).setCell ⟨g, i, none⟩ (.int .i64 ys[i]) := by
        have e := Go.Sort.putRow_set (Value.int .i64) W g 0 (ys.take i ++ xs.drop i).toArray i ys[i] (by simpa using hlen)
        rw [Nat.zero_add] at e
        rw [e, es, List.setIfInBounds_toArray]
      rw [ew, es]
      have hr := Kd.R_putn h1 (i : Int) ys[i]
      rw [Int.toNat_natCast] at hr
      exact ⟨hr, below_set h2 hg, Kept.setCell h3 (.inl hP) _⟩
  have hk := key xs.length (Nat.le_refl _)
  rw [List.drop_length, List.append_nil, ← hl, List.take_length] at hk
  exact hk
end Go.Proofs.Ytapdpmfijijjfaa.Shelf
