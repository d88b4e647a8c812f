/- Facts of the program's tables. Conditions: as each theorem states them. -/
import Derived.Test.YtadepbpacnhjaaaA4
import Derived.Test.YtadepbpacnhjaaaProg
import Derived.Test.YtadepbpacnhjaaaD
import Derived.KernelRfl
namespace Go.Proofs.Crs
open Go Go.Abs Lf
set_option linter.unusedVariables false
set_option maxRecDepth 100000
theorem ti2 : tiOf Try.prog 2 = some ⟨1, 8, .int .i64, [Value.int .i64 0]⟩ := by kernel_rfl
theorem ti3 : tiOf Try.prog 3 = some ⟨1, 8, .int .i64, [Value.int .i64 0]⟩ := by kernel_rfl
theorem ti4 : tiOf Try.prog 4 = some ⟨1, 1, .bool, [Value.bool false]⟩ := by kernel_rfl
theorem ti22 : tiOf Try.prog 22 = some ⟨1, 24, .sli 3, [Value.slice none 0 0]⟩ := by kernel_rfl
theorem ti23 : tiOf Try.prog 23 = some ⟨1, 8, .ptr 25, [Value.pointer none]⟩ := by kernel_rfl
theorem ti25 : tiOf Try.prog 25 = some ⟨2, 32, .str [(0, 22), (1, 3)], [Value.slice none 0 0, Value.int .i64 0]⟩ := by kernel_rfl
theorem ti26 : tiOf Try.prog 26 = some ⟨1, 24, .sli 45, [Value.slice none 0 0]⟩ := by kernel_rfl
theorem ti30 : tiOf Try.prog 30 = some ⟨3, 24, .str [(0, 2), (1, 2), (2, 2)], [Value.int .i64 0, Value.int .i64 0, Value.int .i64 0]⟩ := by kernel_rfl
theorem ti32 : tiOf Try.prog 32 = some ⟨1, 8, .int .i64, [Value.int .i64 0]⟩ := by kernel_rfl
theorem ti34 : tiOf Try.prog 34 = some ⟨3, 24, .str [(0, 32), (1, 32), (2, 4)], [Value.int .i64 0, Value.int .i64 0, Value.bool false]⟩ := by kernel_rfl
theorem ti36 : tiOf Try.prog 36 = some ⟨1, 8, .int .i64, [Value.int .i64 0]⟩ := by kernel_rfl
theorem ti38 : tiOf Try.prog 38 = some ⟨3, 24, .str [(0, 36), (1, 36), (2, 4)], [Value.int .i64 0, Value.int .i64 0, Value.bool false]⟩ := by kernel_rfl
theorem ti40 : tiOf Try.prog 40 = some ⟨9, 72, .str [(0, 38), (3, 38), (6, 38)], [Value.int .i64 0, Value.int .i64 0, Value.bool false, Value.int .i64 0, Value.int .i64 0, Value.bool false, Value.int .i64 0, Value.int .i64 0, Value.bool false]⟩ := by kernel_rfl
theorem ti45 : tiOf Try.prog 45 = some ⟨18, 160, .str [(0, 3), (1, 40), (10, 34), (13, 43), (16, 22), (17, 3)], [Value.int .i64 0, Value.int .i64 0, Value.int .i64 0, Value.bool false, Value.int .i64 0, Value.int .i64 0, Value.bool false, Value.int .i64 0, Value.int .i64 0, Value.bool false, Value.int .i64 0, Value.int .i64 0, Value.bool false, Value.int .i64 0, Value.int .i64 0, Value.bool false, Value.slice none 0 0, Value.int .i64 0]⟩ := by kernel_rfl
theorem ti48 : tiOf Try.prog 48 = some ⟨1, 24, .sli 55, [Value.slice none 0 0]⟩ := by kernel_rfl
theorem ti49 : tiOf Try.prog 49 = some ⟨1, 8, .int .i64, [Value.int .i64 0]⟩ := by kernel_rfl
theorem ti55 : tiOf Try.prog 55 = some ⟨3, 24, .str [(0, 3), (1, 3), (2, 3)], [Value.int .i64 0, Value.int .i64 0, Value.int .i64 0]⟩ := by kernel_rfl
theorem ti61 : tiOf Try.prog 61 = some ⟨4, 32, .str [(0, 2), (1, 2), (2, 2), (3, 2)], [Value.int .i64 0, Value.int .i64 0, Value.int .i64 0, Value.int .i64 0]⟩ := by kernel_rfl
theorem ti62 : tiOf Try.prog 62 = some ⟨9, 72, .arr 3 38, [Value.int .i64 0, Value.int .i64 0, Value.bool false, Value.int .i64 0, Value.int .i64 0, Value.bool false, Value.int .i64 0, Value.int .i64 0, Value.bool false]⟩ := by kernel_rfl
theorem ti65 : tiOf Try.prog 65 = some ⟨1, 8, .int .u64, [Value.int .u64 0]⟩ := by kernel_rfl
theorem ti67 : tiOf Try.prog 67 = some ⟨2, 16, .str [(0, 2), (1, 65)], [Value.int .i64 0, Value.int .u64 0]⟩ := by kernel_rfl
theorem ti71 : tiOf Try.prog 71 = some ⟨1, 24, .sli 22, [Value.slice none 0 0]⟩ := by kernel_rfl
theorem ti75 : tiOf Try.prog 75 = some ⟨1, 24, .sli 34, [Value.slice none 0 0]⟩ := by kernel_rfl
theorem ti77 : tiOf Try.prog 77 = some ⟨3, 40, .str [(0, 3), (1, 3), (2, 75)], [Value.int .i64 0, Value.int .i64 0, Value.slice none 0 0]⟩ := by kernel_rfl
theorem ti78 : tiOf Try.prog 78 = some ⟨1, 24, .sli 84, [Value.slice none 0 0]⟩ := by kernel_rfl
theorem ti80 : tiOf Try.prog 80 = some ⟨3, 72, .str [(0, 78), (1, 78), (2, 22)], [Value.slice none 0 0, Value.slice none 0 0, Value.slice none 0 0]⟩ := by kernel_rfl
theorem ti84 : tiOf Try.prog 84 = some ⟨2, 32, .str [(0, 3), (1, 22)], [Value.int .i64 0, Value.slice none 0 0]⟩ := by kernel_rfl
theorem ti94 : tiOf Try.prog 94 = some ⟨1, 24, .sli 38, [Value.slice none 0 0]⟩ := by kernel_rfl
theorem ti102 : tiOf Try.prog 102 = some ⟨1, 8, .int .u64, [Value.int .u64 0]⟩ := by kernel_rfl
theorem ti140 : tiOf Try.prog 140 = some ⟨1, 24, .sli 49, [Value.slice none 0 0]⟩ := by kernel_rfl
theorem bt25 : bTab Try.prog 25 = some ([.sc (.slice none 0 0), .sc (.int .i64 0)], [(0, 1), (1, 1)]) := by kernel_rfl
theorem bt30 : bTab Try.prog 30 = some ([.sc (.int .i64 0), .sc (.int .i64 0), .sc (.int .i64 0)], [(0, 1), (1, 1), (2, 1)]) := by kernel_rfl
theorem bt34 : bTab Try.prog 34 = some ([.sc (.int .i64 0), .sc (.int .i64 0), .sc (.bool false)], [(0, 1), (1, 1), (2, 1)]) := by kernel_rfl
theorem bt38 : bTab Try.prog 38 = some ([.sc (.int .i64 0), .sc (.int .i64 0), .sc (.bool false)], [(0, 1), (1, 1), (2, 1)]) := by kernel_rfl
theorem bt40 : bTab Try.prog 40 = some ([.sc (.int .i64 0), .sc (.int .i64 0), .sc (.bool false), .sc (.int .i64 0), .sc (.int .i64 0), .sc (.bool false), .sc (.int .i64 0), .sc (.int .i64 0), .sc (.bool false)], [(0, 3), (3, 3), (6, 3)]) := by kernel_rfl
theorem bt45 : bTab Try.prog 45 = some ([.sc (.int .i64 0), .sc (.int .i64 0), .sc (.int .i64 0), .sc (.bool false), .sc (.int .i64 0), .sc (.int .i64 0), .sc (.bool false), .sc (.int .i64 0), .sc (.int .i64 0), .sc (.bool false), .sc (.int .i64 0), .sc (.int .i64 0), .sc (.bool false), .sc (.int .i64 0), .sc (.int .i64 0), .sc (.bool false), .sc (.slice none 0 0), .sc (.int .i64 0)], [(0, 1), (1, 9), (10, 3), (13, 3), (16, 1), (17, 1)]) := by kernel_rfl
theorem bt55 : bTab Try.prog 55 = some ([.sc (.int .i64 0), .sc (.int .i64 0), .sc (.int .i64 0)], [(0, 1), (1, 1), (2, 1)]) := by kernel_rfl
theorem bt61 : bTab Try.prog 61 = some ([.sc (.int .i64 0), .sc (.int .i64 0), .sc (.int .i64 0), .sc (.int .i64 0)], [(0, 1), (1, 1), (2, 1), (3, 1)]) := by kernel_rfl
theorem bt67 : bTab Try.prog 67 = some ([.sc (.int .i64 0), .sc (.int .u64 0)], [(0, 1), (1, 1)]) := by kernel_rfl
theorem bt77 : bTab Try.prog 77 = some ([.sc (.int .i64 0), .sc (.int .i64 0), .sc (.slice none 0 0)], [(0, 1), (1, 1), (2, 1)]) := by kernel_rfl
theorem bt80 : bTab Try.prog 80 = some ([.sc (.slice none 0 0), .sc (.slice none 0 0), .sc (.slice none 0 0)], [(0, 1), (1, 1), (2, 1)]) := by kernel_rfl
theorem qa30 : ((tiOf Try.prog 30).map fun ti => ti.k.isAgg) = some true := by rw [ti30]; rfl
theorem qg30 : Try.prog.eqGuardType Try.prog.depth 30 = false := by kernel_rfl
theorem qe30 (a0 : Int) (a1 : Int) (a2 : Int) (b0 : Int) (b1 : Int) (b2 : Int) : eqCells Try.prog 10000 30 [.sc (.int .i64 a0), .sc (.int .i64 a1), .sc (.int .i64 a2)] [.sc (.int .i64 b0), .sc (.int .i64 b1), .sc (.int .i64 b2)] = some ((a0 == b0) && ((a1 == b1) && ((a2 == b2) && (true)))) := by kernel_rfl
theorem cb4 : callable Try.prog 4 = true := by kernel_rfl
theorem cb5 : callable Try.prog 5 = true := by kernel_rfl
theorem cb6 : callable Try.prog 6 = true := by kernel_rfl
theorem cb7 : callable Try.prog 7 = true := by kernel_rfl
theorem cb8 : callable Try.prog 8 = true := by kernel_rfl
theorem cb9 : callable Try.prog 9 = true := by kernel_rfl
theorem cb10 : callable Try.prog 10 = true := by kernel_rfl
theorem cb11 : callable Try.prog 11 = true := by kernel_rfl
theorem cb12 : callable Try.prog 12 = true := by kernel_rfl
theorem cb13 : callable Try.prog 13 = true := by kernel_rfl
theorem cb14 : callable Try.prog 14 = true := by kernel_rfl
theorem cb15 : callable Try.prog 15 = true := by kernel_rfl
theorem cb16 : callable Try.prog 16 = true := by kernel_rfl
theorem cb17 : callable Try.prog 17 = true := by kernel_rfl
theorem cb18 : callable Try.prog 18 = true := by kernel_rfl
theorem cb19 : callable Try.prog 19 = true := by kernel_rfl
theorem cb20 : callable Try.prog 20 = true := by kernel_rfl
theorem cb21 : callable Try.prog 21 = true := by kernel_rfl
theorem cb22 : callable Try.prog 22 = true := by kernel_rfl
theorem cb23 : callable Try.prog 23 = true := by kernel_rfl
theorem cb24 : callable Try.prog 24 = true := by kernel_rfl
theorem cb25 : callable Try.prog 25 = true := by kernel_rfl
theorem cb26 : callable Try.prog 26 = true := by kernel_rfl
theorem cb27 : callable Try.prog 27 = true := by kernel_rfl
theorem cb28 : callable Try.prog 28 = true := by kernel_rfl
theorem cb29 : callable Try.prog 29 = true := by kernel_rfl
theorem cb30 : callable Try.prog 30 = true := by kernel_rfl
theorem cb31 : callable Try.prog 31 = true := by kernel_rfl
theorem cb32 : callable Try.prog 32 = true := by kernel_rfl
theorem cb33 : callable Try.prog 33 = true := by kernel_rfl
theorem cb34 : callable Try.prog 34 = true := by kernel_rfl
theorem cb35 : callable Try.prog 35 = true := by kernel_rfl
theorem cb36 : callable Try.prog 36 = true := by kernel_rfl
theorem cb37 : callable Try.prog 37 = true := by kernel_rfl
theorem cb39 : callable Try.prog 39 = true := by kernel_rfl
theorem cb40 : callable Try.prog 40 = true := by kernel_rfl
theorem cb41 : callable Try.prog 41 = true := by kernel_rfl
theorem cb42 : callable Try.prog 42 = true := by kernel_rfl
theorem cb43 : callable Try.prog 43 = true := by kernel_rfl
theorem cb44 : callable Try.prog 44 = true := by kernel_rfl
theorem cb50 : callable Try.prog 50 = true := by kernel_rfl
theorem cb52 : callable Try.prog 52 = true := by kernel_rfl
theorem cb53 : callable Try.prog 53 = true := by kernel_rfl
theorem cb54 : callable Try.prog 54 = true := by kernel_rfl
theorem cb55 : callable Try.prog 55 = true := by kernel_rfl
theorem cb56 : callable Try.prog 56 = true := by kernel_rfl
theorem cb57 : callable Try.prog 57 = true := by kernel_rfl
theorem cb58 : callable Try.prog 58 = true := by kernel_rfl
theorem cb59 : callable Try.prog 59 = true := by kernel_rfl
theorem cb68 : callable Try.prog 68 = true := by kernel_rfl
theorem cb69 : callable Try.prog 69 = true := by kernel_rfl
theorem cb70 : callable Try.prog 70 = true := by kernel_rfl
theorem cb85 : callable Try.prog 85 = true := by kernel_rfl
theorem cb86 : callable Try.prog 86 = true := by kernel_rfl
theorem cb93 : callable Try.prog 93 = true := by kernel_rfl
theorem cb95 : callable Try.prog 95 = true := by kernel_rfl
theorem xf38 : IsAdd64 Try.prog 38 := ⟨_, Try.func38, by kernel_rfl, by kernel_rfl, by kernel_rfl, by kernel_rfl⟩
theorem hmix : Try.prog.follows .mixedOrders = true := by kernel_rfl
end Go.Proofs.Crs
