/- Facts of the program's tables. Conditions: as each theorem states them. -/
import Derived.Test.YtnohkpdmfibcgaaProg
import Derived.Test.YtnohkpdmfibcgaaD
import Derived.KernelRfl
namespace Go.Proofs.Cum
open Go Go.Abs Lf
set_option linter.unusedVariables false
set_option maxRecDepth 100000
theorem ti2 : tiOf Try.prog 2 = some ⟨1, 8, .int .i64, [Value.int .i64 0]⟩ := by kernel_rfl
theorem ti3 : tiOf Try.prog 3 = some ⟨1, 8, .int .i64, [Value.int .i64 0]⟩ := by kernel_rfl
theorem ti4 : tiOf Try.prog 4 = some ⟨1, 1, .bool, [Value.bool false]⟩ := by kernel_rfl
theorem ti5 : tiOf Try.prog 5 = some ⟨1, 1, .int .u8, [Value.int .u8 0]⟩ := by kernel_rfl
theorem ti9 : tiOf Try.prog 9 = some ⟨1, 16, .str8, [Value.string ⟨#[]⟩]⟩ := by kernel_rfl
theorem ti22 : tiOf Try.prog 22 = some ⟨1, 24, .sli 3, [Value.slice none 0 0]⟩ := by kernel_rfl
theorem ti25 : tiOf Try.prog 25 = some ⟨2, 32, .str [(0, 22), (1, 3)], [Value.slice none 0 0, Value.int .i64 0]⟩ := by kernel_rfl
theorem ti27 : tiOf Try.prog 27 = some ⟨3, 24, .str [(0, 2), (1, 2), (2, 2)], [Value.int .i64 0, Value.int .i64 0, Value.int .i64 0]⟩ := by kernel_rfl
theorem ti29 : tiOf Try.prog 29 = some ⟨1, 8, .int .i64, [Value.int .i64 0]⟩ := by kernel_rfl
theorem ti31 : tiOf Try.prog 31 = some ⟨1, 8, .int .i64, [Value.int .i64 0]⟩ := by kernel_rfl
theorem ti32 : tiOf Try.prog 32 = some ⟨1, 24, .sli 29, [Value.slice none 0 0]⟩ := by kernel_rfl
theorem ti34 : tiOf Try.prog 34 = some ⟨9, 88, .str [(0, 3), (1, 27), (4, 29), (5, 32), (6, 31), (7, 31), (8, 31)], [Value.int .i64 0, Value.int .i64 0, Value.int .i64 0, Value.int .i64 0, Value.int .i64 0, Value.slice none 0 0, Value.int .i64 0, Value.int .i64 0, Value.int .i64 0]⟩ := by kernel_rfl
theorem ti35 : tiOf Try.prog 35 = some ⟨1, 24, .sli 53, [Value.slice none 0 0]⟩ := by kernel_rfl
theorem ti38 : tiOf Try.prog 38 = some ⟨1, 8, .int .i64, [Value.int .i64 0]⟩ := by kernel_rfl
theorem ti44 : tiOf Try.prog 44 = some ⟨3, 24, .str [(0, 29), (1, 29), (2, 4)], [Value.int .i64 0, Value.int .i64 0, Value.bool false]⟩ := by kernel_rfl
theorem ti51 : tiOf Try.prog 51 = some ⟨3, 24, .str [(0, 31), (1, 31), (2, 4)], [Value.int .i64 0, Value.int .i64 0, Value.bool false]⟩ := by kernel_rfl
theorem ti53 : tiOf Try.prog 53 = some ⟨6, 48, .str [(0, 51), (3, 44)], [Value.int .i64 0, Value.int .i64 0, Value.bool false, Value.int .i64 0, Value.int .i64 0, Value.bool false]⟩ := by kernel_rfl
theorem ti57 : tiOf Try.prog 57 = some ⟨1, 24, .sli 34, [Value.slice none 0 0]⟩ := by kernel_rfl
theorem ti58 : tiOf Try.prog 58 = some ⟨1, 24, .sli 81, [Value.slice none 0 0]⟩ := by kernel_rfl
theorem ti59 : tiOf Try.prog 59 = some ⟨1, 24, .sli 61, [Value.slice none 0 0]⟩ := by kernel_rfl
theorem ti61 : tiOf Try.prog 61 = some ⟨8, 64, .str [(0, 3), (1, 27), (4, 27), (7, 29)], [Value.int .i64 0, Value.int .i64 0, Value.int .i64 0, Value.int .i64 0, Value.int .i64 0, Value.int .i64 0, Value.int .i64 0, Value.int .i64 0]⟩ := by kernel_rfl
theorem ti63 : tiOf Try.prog 63 = some ⟨12, 144, .str [(0, 29), (1, 57), (2, 58), (3, 59), (4, 61)], [Value.int .i64 0, Value.slice none 0 0, Value.slice none 0 0, Value.slice none 0 0, Value.int .i64 0, Value.int .i64 0, Value.int .i64 0, Value.int .i64 0, Value.int .i64 0, Value.int .i64 0, Value.int .i64 0, Value.int .i64 0]⟩ := by kernel_rfl
theorem ti81 : tiOf Try.prog 81 = some ⟨7, 56, .str [(0, 3), (1, 27), (4, 29), (5, 3), (6, 3)], [Value.int .i64 0, Value.int .i64 0, Value.int .i64 0, Value.int .i64 0, Value.int .i64 0, Value.int .i64 0, Value.int .i64 0]⟩ := by kernel_rfl
theorem ti84 : tiOf Try.prog 84 = some ⟨1, 8, .int .u64, [Value.int .u64 0]⟩ := by kernel_rfl
theorem ti85 : tiOf Try.prog 85 = some ⟨1, 24, .sli 38, [Value.slice none 0 0]⟩ := by kernel_rfl
theorem ti86 : tiOf Try.prog 86 = some ⟨1, 24, .sli 35, [Value.slice none 0 0]⟩ := by kernel_rfl
theorem ti104 : tiOf Try.prog 104 = some ⟨1, 4, .int .u32, [Value.int .u32 0]⟩ := by kernel_rfl
theorem ti106 : tiOf Try.prog 106 = some ⟨1, 8, .int .u64, [Value.int .u64 0]⟩ := by kernel_rfl
theorem ti113 : tiOf Try.prog 113 = some ⟨1, 8, .int .u64, [Value.int .u64 0]⟩ := by kernel_rfl
theorem ti122 : tiOf Try.prog 122 = some ⟨2, 16, .arr 2 3, [Value.int .i64 0, Value.int .i64 0]⟩ := by kernel_rfl
theorem ti128 : tiOf Try.prog 128 = some ⟨3, 24, .arr 3 2, [Value.int .i64 0, Value.int .i64 0, Value.int .i64 0]⟩ := by kernel_rfl
theorem bt25 : bTab Try.prog 25 = some ([.sc (.slice none 0 0), .sc (.int .i64 0)], [(0, 1), (1, 1)]) := by kernel_rfl
theorem bt27 : bTab Try.prog 27 = some ([.sc (.int .i64 0), .sc (.int .i64 0), .sc (.int .i64 0)], [(0, 1), (1, 1), (2, 1)]) := by kernel_rfl
theorem bt34 : bTab Try.prog 34 = some ([.sc (.int .i64 0), .sc (.int .i64 0), .sc (.int .i64 0), .sc (.int .i64 0), .sc (.int .i64 0), .sc (.slice none 0 0), .sc (.int .i64 0), .sc (.int .i64 0), .sc (.int .i64 0)], [(0, 1), (1, 3), (4, 1), (5, 1), (6, 1), (7, 1), (8, 1)]) := by kernel_rfl
theorem bt44 : bTab Try.prog 44 = some ([.sc (.int .i64 0), .sc (.int .i64 0), .sc (.bool false)], [(0, 1), (1, 1), (2, 1)]) := by kernel_rfl
theorem bt51 : bTab Try.prog 51 = some ([.sc (.int .i64 0), .sc (.int .i64 0), .sc (.bool false)], [(0, 1), (1, 1), (2, 1)]) := by kernel_rfl
theorem bt53 : bTab Try.prog 53 = some ([.sc (.int .i64 0), .sc (.int .i64 0), .sc (.bool false), .sc (.int .i64 0), .sc (.int .i64 0), .sc (.bool false)], [(0, 3), (3, 3)]) := by kernel_rfl
theorem bt63 : bTab Try.prog 63 = some ([.sc (.int .i64 0), .sc (.slice none 0 0), .sc (.slice none 0 0), .sc (.slice none 0 0), .sc (.int .i64 0), .sc (.int .i64 0), .sc (.int .i64 0), .sc (.int .i64 0), .sc (.int .i64 0), .sc (.int .i64 0), .sc (.int .i64 0), .sc (.int .i64 0)], [(0, 1), (1, 1), (2, 1), (3, 1), (4, 8)]) := by kernel_rfl
theorem qa27 : ((tiOf Try.prog 27).map fun ti => ti.k.isAgg) = some true := by rw [ti27]; rfl
theorem qg27 : Try.prog.eqGuardType Try.prog.depth 27 = false := by kernel_rfl
theorem qe27 (a0 : Int) (a1 : Int) (a2 : Int) (b0 : Int) (b1 : Int) (b2 : Int) : eqCells Try.prog 10000 27 [.sc (.int .i64 a0), .sc (.int .i64 a1), .sc (.int .i64 a2)] [.sc (.int .i64 b0), .sc (.int .i64 b1), .sc (.int .i64 b2)] = some ((a0 == b0) && ((a1 == b1) && ((a2 == b2) && (true)))) := by kernel_rfl
theorem qa44 : ((tiOf Try.prog 44).map fun ti => ti.k.isAgg) = some true := by rw [ti44]; rfl
theorem qg44 : Try.prog.eqGuardType Try.prog.depth 44 = false := by kernel_rfl
theorem qe44 (a0 : Int) (a1 : Int) (a2 : Bool) (b0 : Int) (b1 : Int) (b2 : Bool) : eqCells Try.prog 10000 44 [.sc (.int .i64 a0), .sc (.int .i64 a1), .sc (.bool a2)] [.sc (.int .i64 b0), .sc (.int .i64 b1), .sc (.bool b2)] = some ((a0 == b0) && ((a1 == b1) && ((a2 == b2) && (true)))) := by kernel_rfl
theorem qa51 : ((tiOf Try.prog 51).map fun ti => ti.k.isAgg) = some true := by rw [ti51]; rfl
theorem qg51 : Try.prog.eqGuardType Try.prog.depth 51 = false := by kernel_rfl
theorem qe51 (a0 : Int) (a1 : Int) (a2 : Bool) (b0 : Int) (b1 : Int) (b2 : Bool) : eqCells Try.prog 10000 51 [.sc (.int .i64 a0), .sc (.int .i64 a1), .sc (.bool a2)] [.sc (.int .i64 b0), .sc (.int .i64 b1), .sc (.bool b2)] = some ((a0 == b0) && ((a1 == b1) && ((a2 == b2) && (true)))) := by kernel_rfl
theorem cb4 : callable Try.prog 4 = true := by kernel_rfl
theorem cb5 : callable Try.prog 5 = true := by kernel_rfl
theorem cb6 : callable Try.prog 6 = true := by kernel_rfl
theorem cb7 : callable Try.prog 7 = true := by kernel_rfl
theorem cb8 : callable Try.prog 8 = true := by kernel_rfl
theorem cb9 : callable Try.prog 9 = true := by kernel_rfl
theorem cb10 : callable Try.prog 10 = true := by kernel_rfl
theorem cb11 : callable Try.prog 11 = true := by kernel_rfl
theorem cb12 : callable Try.prog 12 = true := by kernel_rfl
theorem cb13 : callable Try.prog 13 = true := by kernel_rfl
theorem cb14 : callable Try.prog 14 = true := by kernel_rfl
theorem cb15 : callable Try.prog 15 = true := by kernel_rfl
theorem cb16 : callable Try.prog 16 = true := by kernel_rfl
theorem cb17 : callable Try.prog 17 = true := by kernel_rfl
theorem cb18 : callable Try.prog 18 = true := by kernel_rfl
theorem cb19 : callable Try.prog 19 = true := by kernel_rfl
theorem cb20 : callable Try.prog 20 = true := by kernel_rfl
theorem cb21 : callable Try.prog 21 = true := by kernel_rfl
theorem cb22 : callable Try.prog 22 = true := by kernel_rfl
theorem cb23 : callable Try.prog 23 = true := by kernel_rfl
theorem cb24 : callable Try.prog 24 = true := by kernel_rfl
theorem cb25 : callable Try.prog 25 = true := by kernel_rfl
theorem cb26 : callable Try.prog 26 = true := by kernel_rfl
theorem cb27 : callable Try.prog 27 = true := by kernel_rfl
theorem cb28 : callable Try.prog 28 = true := by kernel_rfl
theorem cb29 : callable Try.prog 29 = true := by kernel_rfl
theorem cb30 : callable Try.prog 30 = true := by kernel_rfl
theorem cb31 : callable Try.prog 31 = true := by kernel_rfl
theorem cb32 : callable Try.prog 32 = true := by kernel_rfl
theorem cb33 : callable Try.prog 33 = true := by kernel_rfl
theorem cb34 : callable Try.prog 34 = true := by kernel_rfl
theorem cb35 : callable Try.prog 35 = true := by kernel_rfl
theorem cb36 : callable Try.prog 36 = true := by kernel_rfl
theorem cb37 : callable Try.prog 37 = true := by kernel_rfl
theorem cb38 : callable Try.prog 38 = true := by kernel_rfl
theorem cb39 : callable Try.prog 39 = true := by kernel_rfl
theorem cb40 : callable Try.prog 40 = true := by kernel_rfl
theorem cb41 : callable Try.prog 41 = true := by kernel_rfl
theorem cb42 : callable Try.prog 42 = true := by kernel_rfl
theorem cb43 : callable Try.prog 43 = true := by kernel_rfl
theorem cb44 : callable Try.prog 44 = true := by kernel_rfl
theorem cb45 : callable Try.prog 45 = true := by kernel_rfl
theorem cb46 : callable Try.prog 46 = true := by kernel_rfl
theorem cb47 : callable Try.prog 47 = true := by kernel_rfl
theorem cb56 : callable Try.prog 56 = true := by kernel_rfl
theorem cb57 : callable Try.prog 57 = true := by kernel_rfl
theorem cb58 : callable Try.prog 58 = true := by kernel_rfl
theorem cb68 : callable Try.prog 68 = true := by kernel_rfl
theorem cb69 : callable Try.prog 69 = true := by kernel_rfl
theorem cb70 : callable Try.prog 70 = true := by kernel_rfl
theorem cb71 : callable Try.prog 71 = true := by kernel_rfl
theorem cb72 : callable Try.prog 72 = true := by kernel_rfl
theorem cb74 : callable Try.prog 74 = true := by kernel_rfl
theorem cb75 : callable Try.prog 75 = true := by kernel_rfl
theorem hmix : Try.prog.follows .mixedOrders = true := by kernel_rfl
end Go.Proofs.Cum
