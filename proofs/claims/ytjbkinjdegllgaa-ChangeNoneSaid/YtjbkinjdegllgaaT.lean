/- Facts of the program's tables. Conditions: as each theorem states them. -/
import Derived.Test.YtjbkinjdegllgaaProg
import Derived.Test.YtjbkinjdegllgaaD
import Derived.KernelRfl
namespace Go.Proofs.Cno
open Go Go.Abs Lf
set_option linter.unusedVariables false
set_option maxRecDepth 100000
theorem ti3 : tiOf Try.prog 3 = some ⟨1, 8, .int .i64, [Value.int .i64 0]⟩ := by kernel_rfl
theorem ti4 : tiOf Try.prog 4 = some ⟨1, 1, .bool, [Value.bool false]⟩ := by kernel_rfl
theorem ti22 : tiOf Try.prog 22 = some ⟨1, 24, .sli 3, [Value.slice none 0 0]⟩ := by kernel_rfl
theorem ti25 : tiOf Try.prog 25 = some ⟨2, 32, .str [(0, 22), (1, 3)], [Value.slice none 0 0, Value.int .i64 0]⟩ := by kernel_rfl
theorem ti27 : tiOf Try.prog 27 = some ⟨1, 24, .sli 28, [Value.slice none 0 0]⟩ := by kernel_rfl
theorem ti28 : tiOf Try.prog 28 = some ⟨1, 8, .int .i64, [Value.int .i64 0]⟩ := by kernel_rfl
theorem ti31 : tiOf Try.prog 31 = some ⟨1, 24, .sli 53, [Value.slice none 0 0]⟩ := by kernel_rfl
theorem ti33 : tiOf Try.prog 33 = some ⟨3, 72, .str [(0, 31), (1, 31), (2, 22)], [Value.slice none 0 0, Value.slice none 0 0, Value.slice none 0 0]⟩ := by kernel_rfl
theorem ti34 : tiOf Try.prog 34 = some ⟨1, 8, .int .i64, [Value.int .i64 0]⟩ := by kernel_rfl
theorem ti37 : tiOf Try.prog 37 = some ⟨1, 24, .sli 47, [Value.slice none 0 0]⟩ := by kernel_rfl
theorem ti39 : tiOf Try.prog 39 = some ⟨3, 40, .str [(0, 3), (1, 3), (2, 37)], [Value.int .i64 0, Value.int .i64 0, Value.slice none 0 0]⟩ := by kernel_rfl
theorem ti47 : tiOf Try.prog 47 = some ⟨3, 24, .str [(0, 28), (1, 28), (2, 4)], [Value.int .i64 0, Value.int .i64 0, Value.bool false]⟩ := by kernel_rfl
theorem ti53 : tiOf Try.prog 53 = some ⟨2, 32, .str [(0, 3), (1, 22)], [Value.int .i64 0, Value.slice none 0 0]⟩ := by kernel_rfl
theorem ti87 : tiOf Try.prog 87 = some ⟨1, 8, .int .u64, [Value.int .u64 0]⟩ := by kernel_rfl
theorem ti90 : tiOf Try.prog 90 = some ⟨1, 24, .sli 34, [Value.slice none 0 0]⟩ := by kernel_rfl
theorem bt25 : bTab Try.prog 25 = some ([.sc (.slice none 0 0), .sc (.int .i64 0)], [(0, 1), (1, 1)]) := by kernel_rfl
theorem bt33 : bTab Try.prog 33 = some ([.sc (.slice none 0 0), .sc (.slice none 0 0), .sc (.slice none 0 0)], [(0, 1), (1, 1), (2, 1)]) := by kernel_rfl
theorem bt39 : bTab Try.prog 39 = some ([.sc (.int .i64 0), .sc (.int .i64 0), .sc (.slice none 0 0)], [(0, 1), (1, 1), (2, 1)]) := by kernel_rfl
theorem bt47 : bTab Try.prog 47 = some ([.sc (.int .i64 0), .sc (.int .i64 0), .sc (.bool false)], [(0, 1), (1, 1), (2, 1)]) := by kernel_rfl
theorem cb4 : callable Try.prog 4 = true := by kernel_rfl
theorem cb5 : callable Try.prog 5 = true := by kernel_rfl
theorem cb6 : callable Try.prog 6 = true := by kernel_rfl
theorem cb7 : callable Try.prog 7 = true := by kernel_rfl
theorem cb8 : callable Try.prog 8 = true := by kernel_rfl
theorem cb9 : callable Try.prog 9 = true := by kernel_rfl
theorem cb10 : callable Try.prog 10 = true := by kernel_rfl
theorem cb11 : callable Try.prog 11 = true := by kernel_rfl
theorem cb12 : callable Try.prog 12 = true := by kernel_rfl
theorem cb13 : callable Try.prog 13 = true := by kernel_rfl
theorem cb14 : callable Try.prog 14 = true := by kernel_rfl
theorem cb15 : callable Try.prog 15 = true := by kernel_rfl
theorem cb16 : callable Try.prog 16 = true := by kernel_rfl
theorem cb17 : callable Try.prog 17 = true := by kernel_rfl
theorem cb18 : callable Try.prog 18 = true := by kernel_rfl
theorem cb24 : callable Try.prog 24 = true := by kernel_rfl
theorem cb26 : callable Try.prog 26 = true := by kernel_rfl
theorem cb27 : callable Try.prog 27 = true := by kernel_rfl
theorem cb28 : callable Try.prog 28 = true := by kernel_rfl
theorem cb29 : callable Try.prog 29 = true := by kernel_rfl
theorem cb30 : callable Try.prog 30 = true := by kernel_rfl
theorem cb31 : callable Try.prog 31 = true := by kernel_rfl
theorem cb32 : callable Try.prog 32 = true := by kernel_rfl
theorem cb33 : callable Try.prog 33 = true := by kernel_rfl
theorem cb34 : callable Try.prog 34 = true := by kernel_rfl
theorem cb43 : callable Try.prog 43 = true := by kernel_rfl
theorem cb44 : callable Try.prog 44 = true := by kernel_rfl
theorem cb45 : callable Try.prog 45 = true := by kernel_rfl
theorem cb46 : callable Try.prog 46 = true := by kernel_rfl
theorem cb61 : callable Try.prog 61 = true := by kernel_rfl
theorem cb62 : callable Try.prog 62 = true := by kernel_rfl
theorem cb69 : callable Try.prog 69 = true := by kernel_rfl
theorem cb71 : callable Try.prog 71 = true := by kernel_rfl
theorem hmix : Try.prog.follows .mixedOrders = true := by kernel_rfl
end Go.Proofs.Cno
