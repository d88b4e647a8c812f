/- Facts of the program's tables. Conditions: as each theorem states them. -/
import Derived.Test.YtfkpgkaalaobbaaProg
import Derived.Test.YtfkpgkaalaobbaaD
import Derived.KernelRfl
namespace Go.Proofs.Cgr
open Go Go.Abs Lf
set_option linter.unusedVariables false
set_option maxRecDepth 100000
theorem ti3 : tiOf Try.prog 3 = some ⟨1, 8, .int .i64, [Value.int .i64 0]⟩ := by kernel_rfl
theorem ti4 : tiOf Try.prog 4 = some ⟨1, 1, .bool, [Value.bool false]⟩ := by kernel_rfl
theorem ti22 : tiOf Try.prog 22 = some ⟨1, 24, .sli 3, [Value.slice none 0 0]⟩ := by kernel_rfl
theorem ti25 : tiOf Try.prog 25 = some ⟨2, 32, .str [(0, 22), (1, 3)], [Value.slice none 0 0, Value.int .i64 0]⟩ := by kernel_rfl
theorem ti27 : tiOf Try.prog 27 = some ⟨1, 24, .sli 28, [Value.slice none 0 0]⟩ := by kernel_rfl
theorem ti28 : tiOf Try.prog 28 = some ⟨1, 8, .int .i64, [Value.int .i64 0]⟩ := by kernel_rfl
theorem ti32 : tiOf Try.prog 32 = some ⟨1, 24, .sli 52, [Value.slice none 0 0]⟩ := by kernel_rfl
theorem ti34 : tiOf Try.prog 34 = some ⟨3, 40, .str [(0, 3), (1, 3), (2, 32)], [Value.int .i64 0, Value.int .i64 0, Value.slice none 0 0]⟩ := by kernel_rfl
theorem ti37 : tiOf Try.prog 37 = some ⟨1, 24, .sli 46, [Value.slice none 0 0]⟩ := by kernel_rfl
theorem ti39 : tiOf Try.prog 39 = some ⟨3, 72, .str [(0, 37), (1, 37), (2, 22)], [Value.slice none 0 0, Value.slice none 0 0, Value.slice none 0 0]⟩ := by kernel_rfl
theorem ti40 : tiOf Try.prog 40 = some ⟨1, 8, .int .i64, [Value.int .i64 0]⟩ := by kernel_rfl
theorem ti46 : tiOf Try.prog 46 = some ⟨2, 32, .str [(0, 3), (1, 22)], [Value.int .i64 0, Value.slice none 0 0]⟩ := by kernel_rfl
theorem ti52 : tiOf Try.prog 52 = some ⟨3, 24, .str [(0, 28), (1, 28), (2, 4)], [Value.int .i64 0, Value.int .i64 0, Value.bool false]⟩ := by kernel_rfl
theorem ti93 : tiOf Try.prog 93 = some ⟨1, 8, .int .u64, [Value.int .u64 0]⟩ := by kernel_rfl
theorem ti96 : tiOf Try.prog 96 = some ⟨1, 24, .sli 40, [Value.slice none 0 0]⟩ := by kernel_rfl
theorem bt25 : bTab Try.prog 25 = some ([.sc (.slice none 0 0), .sc (.int .i64 0)], [(0, 1), (1, 1)]) := by kernel_rfl
theorem bt34 : bTab Try.prog 34 = some ([.sc (.int .i64 0), .sc (.int .i64 0), .sc (.slice none 0 0)], [(0, 1), (1, 1), (2, 1)]) := by kernel_rfl
theorem bt39 : bTab Try.prog 39 = some ([.sc (.slice none 0 0), .sc (.slice none 0 0), .sc (.slice none 0 0)], [(0, 1), (1, 1), (2, 1)]) := by kernel_rfl
theorem bt52 : bTab Try.prog 52 = some ([.sc (.int .i64 0), .sc (.int .i64 0), .sc (.bool false)], [(0, 1), (1, 1), (2, 1)]) := by kernel_rfl
theorem cb4 : callable Try.prog 4 = true := by kernel_rfl
theorem cb5 : callable Try.prog 5 = true := by kernel_rfl
theorem cb6 : callable Try.prog 6 = true := by kernel_rfl
theorem cb7 : callable Try.prog 7 = true := by kernel_rfl
theorem cb8 : callable Try.prog 8 = true := by kernel_rfl
theorem cb9 : callable Try.prog 9 = true := by kernel_rfl
theorem cb10 : callable Try.prog 10 = true := by kernel_rfl
theorem cb11 : callable Try.prog 11 = true := by kernel_rfl
theorem cb12 : callable Try.prog 12 = true := by kernel_rfl
theorem cb13 : callable Try.prog 13 = true := by kernel_rfl
theorem cb14 : callable Try.prog 14 = true := by kernel_rfl
theorem cb15 : callable Try.prog 15 = true := by kernel_rfl
theorem cb16 : callable Try.prog 16 = true := by kernel_rfl
theorem cb17 : callable Try.prog 17 = true := by kernel_rfl
theorem cb18 : callable Try.prog 18 = true := by kernel_rfl
theorem cb19 : callable Try.prog 19 = true := by kernel_rfl
theorem cb20 : callable Try.prog 20 = true := by kernel_rfl
theorem cb21 : callable Try.prog 21 = true := by kernel_rfl
theorem cb22 : callable Try.prog 22 = true := by kernel_rfl
theorem cb23 : callable Try.prog 23 = true := by kernel_rfl
theorem cb24 : callable Try.prog 24 = true := by kernel_rfl
theorem cb30 : callable Try.prog 30 = true := by kernel_rfl
theorem cb32 : callable Try.prog 32 = true := by kernel_rfl
theorem cb33 : callable Try.prog 33 = true := by kernel_rfl
theorem cb34 : callable Try.prog 34 = true := by kernel_rfl
theorem cb35 : callable Try.prog 35 = true := by kernel_rfl
theorem cb36 : callable Try.prog 36 = true := by kernel_rfl
theorem cb37 : callable Try.prog 37 = true := by kernel_rfl
theorem cb38 : callable Try.prog 38 = true := by kernel_rfl
theorem cb39 : callable Try.prog 39 = true := by kernel_rfl
theorem cb40 : callable Try.prog 40 = true := by kernel_rfl
theorem cb49 : callable Try.prog 49 = true := by kernel_rfl
theorem cb50 : callable Try.prog 50 = true := by kernel_rfl
theorem cb51 : callable Try.prog 51 = true := by kernel_rfl
theorem cb52 : callable Try.prog 52 = true := by kernel_rfl
theorem cb67 : callable Try.prog 67 = true := by kernel_rfl
theorem cb68 : callable Try.prog 68 = true := by kernel_rfl
theorem cb75 : callable Try.prog 75 = true := by kernel_rfl
theorem cb77 : callable Try.prog 77 = true := by kernel_rfl
theorem hmix : Try.prog.follows .mixedOrders = true := by kernel_rfl
end Go.Proofs.Cgr
