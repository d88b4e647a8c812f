/- Each function of the program computes its plain function. Conditions: as each theorem states them. -/
import Derived.Test.YtalolmjmbcpdcaaA4
import Derived.WalkKit
import Derived.KernelRfl
import Derived.Sort.EveryDepth
import Derived.Shelf.Sort.AssemblyIn
import Derived.Sort.OwnSortedInts
import Derived.Shelf.Slices.In.SortNone
import Derived.Test.YtalolmjmbcpdcaaT
namespace Go.Proofs.Fsd
open Go Go.Abs Lf
set_option linter.unusedVariables false
set_option linter.unusedSimpArgs false
set_option maxRecDepth 100000
set_option maxHeartbeats 1000000
section
open Go.RowKit Go.Shelf Go.IntWalk Go.Sort Go.Proofs
def layS21_ren : Go.Shelf.Ren := ⟨fun | 189 => 14 | 125 => 29 | 257 => 28 | 128 => 48 | 129 => 49 | 294 => 39 | 295 => 40 | 296 => 41 | 297 => 42 | 298 => 43 | 299 => 44 | 216 => 45 | 300 => 46 | 301 => 47 | 328 => 55 | 329 => 56 | 330 => 57 | 331 => 58 | 332 => 59 | 215 => 60 | 343 => 62 | n => n, fun | 28 => 22 | 3 => 3 | 46 => 65 | 0 => 0 | 51 => 93 | 53 => 95 | 4 => 4 | 183 => 85 | 182 => 84 | 131 => 90 | 5 => 5 | 9 => 9 | 218 => 106 | 222 => 110 | 228 => 112 | 229 => 113 | n => n, fun | n => n⟩
theorem layS21 : Go.Proofs.Lays.n189 Try.prog layS21_ren := {
  mixed := by kernel_rfl,
  f125 := Try.func29.trans (congrArg some (by kernel_rfl)),
  f128 := Try.func48.trans (congrArg some (by kernel_rfl)),
  f129 := Try.func49.trans (congrArg some (by kernel_rfl)),
  f189 := Try.func14.trans (congrArg some (by kernel_rfl)),
  f215 := Try.func60.trans (congrArg some (by kernel_rfl)),
  f216 := Try.func45.trans (congrArg some (by kernel_rfl)),
  f257 := Try.func28.trans (congrArg some (by kernel_rfl)),
  f294 := Try.func39.trans (congrArg some (by kernel_rfl)),
  f295 := Try.func40.trans (congrArg some (by kernel_rfl)),
  f296 := Try.func41.trans (congrArg some (by kernel_rfl)),
  f297 := Try.func42.trans (congrArg some (by kernel_rfl)),
  f298 := Try.func43.trans (congrArg some (by kernel_rfl)),
  f299 := Try.func44.trans (congrArg some (by kernel_rfl)),
  f300 := Try.func46.trans (congrArg some (by kernel_rfl)),
  f301 := Try.func47.trans (congrArg some (by kernel_rfl)),
  f328 := Try.func55.trans (congrArg some (by kernel_rfl)),
  f329 := Try.func56.trans (congrArg some (by kernel_rfl)),
  f330 := Try.func57.trans (congrArg some (by kernel_rfl)),
  f331 := Try.func58.trans (congrArg some (by kernel_rfl)),
  f332 := Try.func59.trans (congrArg some (by kernel_rfl)),
  f343 := Try.func62.trans (congrArg some (by kernel_rfl)),
  t0 := Try.underlying0,
  a0 := Try.isAgg0,
  z0 := Try.sizeOf0,
  v0 := Try.zeroValue0,
  t3 := Try.underlying3,
  a3 := Try.isAgg3,
  z3 := Try.sizeOf3,
  v3 := Try.zeroValue3,
  t4 := Try.underlying4,
  a4 := Try.isAgg4,
  z4 := Try.sizeOf4,
  v4 := Try.zeroValue4,
  t5 := Try.underlying5,
  a5 := Try.isAgg5,
  z5 := Try.sizeOf5,
  v5 := Try.zeroValue5,
  t9 := Try.underlying9,
  a9 := Try.isAgg9,
  z9 := Try.sizeOf9,
  v9 := Try.zeroValue9,
  t28 := Try.underlying22,
  a28 := Try.isAgg22,
  z28 := Try.sizeOf22,
  v28 := Try.zeroValue22,
  t46 := Try.underlying65,
  a46 := Try.isAgg65,
  z46 := Try.sizeOf65,
  v46 := Try.zeroValue65,
  t51 := Try.underlying93,
  a51 := Try.isAgg93,
  z51 := Try.sizeOf93,
  v51 := Try.zeroValue93,
  t53 := Try.underlying95,
  a53 := Try.isAgg95,
  z53 := Try.sizeOf95,
  v53 := Try.zeroValue95,
  t131 := Try.underlying90,
  a131 := Try.isAgg90,
  z131 := Try.sizeOf90,
  v131 := Try.zeroValue90,
  t182 := Try.underlying84,
  a182 := Try.isAgg84,
  z182 := Try.sizeOf84,
  v182 := Try.zeroValue84,
  t183 := Try.underlying85,
  a183 := Try.isAgg85,
  z183 := Try.sizeOf85,
  v183 := Try.zeroValue85,
  t218 := Try.underlying106,
  a218 := Try.isAgg106,
  z218 := Try.sizeOf106,
  v218 := Try.zeroValue106,
  t222 := Try.underlying110,
  a222 := Try.isAgg110,
  z222 := Try.sizeOf110,
  v222 := Try.zeroValue110,
  t228 := Try.underlying112,
  a228 := Try.isAgg112,
  z228 := Try.sizeOf112,
  v228 := Try.zeroValue112,
  t229 := Try.underlying113,
  a229 := Try.isAgg113,
  z229 := Try.sizeOf113,
  v229 := Try.zeroValue113 }
theorem sortI_cells (blk off cap : Nat) (zs : List Int) (w : World) (hH : Holds (Value.int .i64) w blk off zs.toArray) (hblk : blk < w.heap.size) (hsz : zs.length < 4611686018427387904) :
    Calls Try.prog 14 #[.slice (some ⟨blk, off, none⟩) zs.length cap] w fun e w' =>
      e = .returned (.tuple #[]) ∧ ∃ n os, w' = grow (putRow (Value.int .i64) (Sort.ahead w n) blk off (zs.mergeSort fun x y => decide (x ≤ y)).toArray) os :=
  calls_of_every_depth fun D => AnyS.slices_Sort_int_in layS21 D blk off cap zs w hH hblk hsz
/-- slices.Sort of a row that the call owns. -/
theorem sortI_own {w : World} {base : Nat} {A : Option Addr} {c : Nat} {l : List Int} (h : w.ownsRow base 3 1 (.slice A l.length c) l.length (l.map (Value.int .i64))) (hsz : l.length < 4611686018427387904) :
    Calls Try.prog 14 #[.slice A l.length c] w fun e w' => e = .returned (.tuple #[]) ∧ w'.ownsRow base 3 1 (.slice A l.length c) l.length ((l.mergeSort fun x y => decide (x ≤ y)).map (Value.int .i64)) ∧ w.grownBy w' ((Value.slice A l.length c).ownBlock) := by
  rcases h.2 with ⟨_, h0⟩ | ⟨g, c', cur, e', hb, hc, h1, h2, h3, h4⟩
  · have hl := List.length_eq_zero_iff.1 h0
    subst hl
    refine (Any.slices_Sort_int_none layS21 A c w).mono ?_
    rintro e w' ⟨rfl, rfl⟩
    exact ⟨rfl, by simpa using h, World.grownBy.refl _ _⟩
  · cases e'
    rw [Nat.mul_one] at h4
    refine (sortI_cells g 0 c l w (holds_of_blockI hc h4) (blk_lt hc) hsz).mono ?_
    rintro e w' ⟨rfl, n, os, rfl⟩
    exact ⟨rfl, ownsRow_sortedI (List.length_mergeSort l) hb hc h1 h2 h3, grownBy_sortedI _⟩
end

end Go.Proofs.Fsd
