/- Each function of the program computes its plain function. Conditions: as each theorem states them. -/
import Derived.Test.YtadepbpacnhjaaaA4
import Derived.WalkKit
import Derived.KernelRfl
import Derived.Sort.EveryDepth
import Derived.Shelf.Sort.AssemblyIn
import Derived.Sort.OwnSortedInts
import Derived.Shelf.Slices.In.SortNone
import Derived.Test.YtadepbpacnhjaaaT
namespace Go.Proofs.Crs
open Go Go.Abs Lf
set_option linter.unusedVariables false
set_option linter.unusedSimpArgs false
set_option maxRecDepth 100000
set_option maxHeartbeats 1000000
section
open Go.RowKit Go.Shelf Go.IntWalk Go.Sort Go.Proofs
def layS21_ren : Go.Shelf.Ren := ⟨fun | 189 => 49 | 125 => 67 | 257 => 66 | 128 => 83 | 129 => 84 | 294 => 74 | 295 => 75 | 296 => 76 | 297 => 77 | 298 => 78 | 299 => 79 | 216 => 80 | 300 => 81 | 301 => 82 | 328 => 87 | 329 => 88 | 330 => 89 | 331 => 90 | 332 => 91 | 215 => 92 | 343 => 94 | n => n, fun | 28 => 22 | 3 => 3 | 46 => 102 | 0 => 0 | 51 => 160 | 53 => 65 | 4 => 4 | 183 => 152 | 182 => 151 | 131 => 157 | 5 => 5 | 9 => 9 | 218 => 164 | 222 => 168 | 228 => 170 | 229 => 171 | n => n, fun | n => n⟩
theorem layS21 : Go.Proofs.Lays.n189 Try.prog layS21_ren := {
  mixed := by kernel_rfl,
  f125 := Try.func67.trans (congrArg some (by kernel_rfl)),
  f128 := Try.func83.trans (congrArg some (by kernel_rfl)),
  f129 := Try.func84.trans (congrArg some (by kernel_rfl)),
  f189 := Try.func49.trans (congrArg some (by kernel_rfl)),
  f215 := Try.func92.trans (congrArg some (by kernel_rfl)),
  f216 := Try.func80.trans (congrArg some (by kernel_rfl)),
  f257 := Try.func66.trans (congrArg some (by kernel_rfl)),
  f294 := Try.func74.trans (congrArg some (by kernel_rfl)),
  f295 := Try.func75.trans (congrArg some (by kernel_rfl)),
  f296 := Try.func76.trans (congrArg some (by kernel_rfl)),
  f297 := Try.func77.trans (congrArg some (by kernel_rfl)),
  f298 := Try.func78.trans (congrArg some (by kernel_rfl)),
  f299 := Try.func79.trans (congrArg some (by kernel_rfl)),
  f300 := Try.func81.trans (congrArg some (by kernel_rfl)),
  f301 := Try.func82.trans (congrArg some (by kernel_rfl)),
  f328 := Try.func87.trans (congrArg some (by kernel_rfl)),
  f329 := Try.func88.trans (congrArg some (by kernel_rfl)),
  f330 := Try.func89.trans (congrArg some (by kernel_rfl)),
  f331 := Try.func90.trans (congrArg some (by kernel_rfl)),
  f332 := Try.func91.trans (congrArg some (by kernel_rfl)),
  f343 := Try.func94.trans (congrArg some (by kernel_rfl)),
  t0 := Try.underlying0,
  a0 := Try.isAgg0,
  z0 := Try.sizeOf0,
  v0 := Try.zeroValue0,
  t3 := Try.underlying3,
  a3 := Try.isAgg3,
  z3 := Try.sizeOf3,
  v3 := Try.zeroValue3,
  t4 := Try.underlying4,
  a4 := Try.isAgg4,
  z4 := Try.sizeOf4,
  v4 := Try.zeroValue4,
  t5 := Try.underlying5,
  a5 := Try.isAgg5,
  z5 := Try.sizeOf5,
  v5 := Try.zeroValue5,
  t9 := Try.underlying9,
  a9 := Try.isAgg9,
  z9 := Try.sizeOf9,
  v9 := Try.zeroValue9,
  t28 := Try.underlying22,
  a28 := Try.isAgg22,
  z28 := Try.sizeOf22,
  v28 := Try.zeroValue22,
  t46 := Try.underlying102,
  a46 := Try.isAgg102,
  z46 := Try.sizeOf102,
  v46 := Try.zeroValue102,
  t51 := Try.underlying160,
  a51 := Try.isAgg160,
  z51 := Try.sizeOf160,
  v51 := Try.zeroValue160,
  t53 := Try.underlying65,
  a53 := Try.isAgg65,
  z53 := Try.sizeOf65,
  v53 := Try.zeroValue65,
  t131 := Try.underlying157,
  a131 := Try.isAgg157,
  z131 := Try.sizeOf157,
  v131 := Try.zeroValue157,
  t182 := Try.underlying151,
  a182 := Try.isAgg151,
  z182 := Try.sizeOf151,
  v182 := Try.zeroValue151,
  t183 := Try.underlying152,
  a183 := Try.isAgg152,
  z183 := Try.sizeOf152,
  v183 := Try.zeroValue152,
  t218 := Try.underlying164,
  a218 := Try.isAgg164,
  z218 := Try.sizeOf164,
  v218 := Try.zeroValue164,
  t222 := Try.underlying168,
  a222 := Try.isAgg168,
  z222 := Try.sizeOf168,
  v222 := Try.zeroValue168,
  t228 := Try.underlying170,
  a228 := Try.isAgg170,
  z228 := Try.sizeOf170,
  v228 := Try.zeroValue170,
  t229 := Try.underlying171,
  a229 := Try.isAgg171,
  z229 := Try.sizeOf171,
  v229 := Try.zeroValue171 }
theorem sortI_cells (blk off cap : Nat) (zs : List Int) (w : World) (hH : Holds (Value.int .i64) w blk off zs.toArray) (hblk : blk < w.heap.size) (hsz : zs.length < 4611686018427387904) :
    Calls Try.prog 49 #[.slice (some ⟨blk, off, none⟩) zs.length cap] w fun e w' =>
      e = .returned (.tuple #[]) ∧ ∃ n os, w' = grow (putRow (Value.int .i64) (Sort.ahead w n) blk off (zs.mergeSort fun x y => decide (x ≤ y)).toArray) os :=
  calls_of_every_depth fun D => AnyS.slices_Sort_int_in layS21 D blk off cap zs w hH hblk hsz
/-- slices.Sort of a row that the call owns. -/
theorem sortI_own {w : World} {base : Nat} {A : Option Addr} {c : Nat} {l : List Int} (h : w.ownsRow base 3 1 (.slice A l.length c) l.length (l.map (Value.int .i64))) (hsz : l.length < 4611686018427387904) :
    Calls Try.prog 49 #[.slice A l.length c] w fun e w' => e = .returned (.tuple #[]) ∧ w'.ownsRow base 3 1 (.slice A l.length c) l.length ((l.mergeSort fun x y => decide (x ≤ y)).map (Value.int .i64)) ∧ w.grownBy w' ((Value.slice A l.length c).ownBlock) := by
  rcases h.2 with ⟨_, h0⟩ | ⟨g, c', cur, e', hb, hc, h1, h2, h3, h4⟩
  · have hl := List.length_eq_zero_iff.1 h0
    subst hl
    refine (Any.slices_Sort_int_none layS21 A c w).mono ?_
    rintro e w' ⟨rfl, rfl⟩
    exact ⟨rfl, by simpa using h, World.grownBy.refl _ _⟩
  · cases e'
    rw [Nat.mul_one] at h4
    refine (sortI_cells g 0 c l w (holds_of_blockI hc h4) (blk_lt hc) hsz).mono ?_
    rintro e w' ⟨rfl, n, os, rfl⟩
    exact ⟨rfl, ownsRow_sortedI (List.length_mergeSort l) hb hc h1 h2 h3, grownBy_sortedI _⟩
end

end Go.Proofs.Crs
