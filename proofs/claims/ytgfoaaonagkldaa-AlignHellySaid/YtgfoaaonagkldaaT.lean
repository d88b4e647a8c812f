/- Facts of the program's tables. Conditions: as each theorem states them. -/
import Derived.Test.YtgfoaaonagkldaaProg
import Derived.Test.YtgfoaaonagkldaaD
import Derived.KernelRfl
namespace Go.Proofs.Ahl
open Go Go.Abs Lf
set_option linter.unusedVariables false
set_option maxRecDepth 100000
theorem ti3 : tiOf Try.prog 3 = some ⟨1, 8, .int .i64, [Value.int .i64 0]⟩ := by kernel_rfl
theorem ti4 : tiOf Try.prog 4 = some ⟨1, 1, .bool, [Value.bool false]⟩ := by kernel_rfl
theorem ti22 : tiOf Try.prog 22 = some ⟨1, 24, .sli 3, [Value.slice none 0 0]⟩ := by kernel_rfl
theorem ti25 : tiOf Try.prog 25 = some ⟨2, 32, .str [(0, 22), (1, 3)], [Value.slice none 0 0, Value.int .i64 0]⟩ := by kernel_rfl
theorem ti26 : tiOf Try.prog 26 = some ⟨1, 24, .sli 47, [Value.slice none 0 0]⟩ := by kernel_rfl
theorem ti28 : tiOf Try.prog 28 = some ⟨1, 24, .sli 32, [Value.slice none 0 0]⟩ := by kernel_rfl
theorem ti32 : tiOf Try.prog 32 = some ⟨2, 16, .str [(0, 3), (1, 3)], [Value.int .i64 0, Value.int .i64 0]⟩ := by kernel_rfl
theorem ti33 : tiOf Try.prog 33 = some ⟨1, 8, .int .i64, [Value.int .i64 0]⟩ := by kernel_rfl
theorem ti35 : tiOf Try.prog 35 = some ⟨3, 24, .str [(0, 33), (1, 33), (2, 4)], [Value.int .i64 0, Value.int .i64 0, Value.bool false]⟩ := by kernel_rfl
theorem ti44 : tiOf Try.prog 44 = some ⟨3, 24, .str [(0, 42), (1, 42), (2, 4)], [Value.int .i64 0, Value.int .i64 0, Value.bool false]⟩ := by kernel_rfl
theorem ti47 : tiOf Try.prog 47 = some ⟨9, 72, .str [(0, 35), (3, 35), (6, 44)], [Value.int .i64 0, Value.int .i64 0, Value.bool false, Value.int .i64 0, Value.int .i64 0, Value.bool false, Value.int .i64 0, Value.int .i64 0, Value.bool false]⟩ := by kernel_rfl
theorem ti54 : tiOf Try.prog 54 = some ⟨1, 24, .sli 59, [Value.slice none 0 0]⟩ := by kernel_rfl
theorem ti59 : tiOf Try.prog 59 = some ⟨3, 40, .str [(0, 3), (1, 3), (2, 28)], [Value.int .i64 0, Value.int .i64 0, Value.slice none 0 0]⟩ := by kernel_rfl
theorem bt25 : bTab Try.prog 25 = some ([.sc (.slice none 0 0), .sc (.int .i64 0)], [(0, 1), (1, 1)]) := by kernel_rfl
theorem bt32 : bTab Try.prog 32 = some ([.sc (.int .i64 0), .sc (.int .i64 0)], [(0, 1), (1, 1)]) := by kernel_rfl
theorem bt35 : bTab Try.prog 35 = some ([.sc (.int .i64 0), .sc (.int .i64 0), .sc (.bool false)], [(0, 1), (1, 1), (2, 1)]) := by kernel_rfl
theorem bt44 : bTab Try.prog 44 = some ([.sc (.int .i64 0), .sc (.int .i64 0), .sc (.bool false)], [(0, 1), (1, 1), (2, 1)]) := by kernel_rfl
theorem bt47 : bTab Try.prog 47 = some ([.sc (.int .i64 0), .sc (.int .i64 0), .sc (.bool false), .sc (.int .i64 0), .sc (.int .i64 0), .sc (.bool false), .sc (.int .i64 0), .sc (.int .i64 0), .sc (.bool false)], [(0, 3), (3, 3), (6, 3)]) := by kernel_rfl
theorem bt59 : bTab Try.prog 59 = some ([.sc (.int .i64 0), .sc (.int .i64 0), .sc (.slice none 0 0)], [(0, 1), (1, 1), (2, 1)]) := by kernel_rfl
theorem cb4 : callable Try.prog 4 = true := by kernel_rfl
theorem cb5 : callable Try.prog 5 = true := by kernel_rfl
theorem cb6 : callable Try.prog 6 = true := by kernel_rfl
theorem cb7 : callable Try.prog 7 = true := by kernel_rfl
theorem cb8 : callable Try.prog 8 = true := by kernel_rfl
theorem cb9 : callable Try.prog 9 = true := by kernel_rfl
theorem cb10 : callable Try.prog 10 = true := by kernel_rfl
theorem cb11 : callable Try.prog 11 = true := by kernel_rfl
theorem cb12 : callable Try.prog 12 = true := by kernel_rfl
theorem cb13 : callable Try.prog 13 = true := by kernel_rfl
theorem cb14 : callable Try.prog 14 = true := by kernel_rfl
theorem cb15 : callable Try.prog 15 = true := by kernel_rfl
theorem cb16 : callable Try.prog 16 = true := by kernel_rfl
theorem cb17 : callable Try.prog 17 = true := by kernel_rfl
theorem cb18 : callable Try.prog 18 = true := by kernel_rfl
theorem cb19 : callable Try.prog 19 = true := by kernel_rfl
theorem cb20 : callable Try.prog 20 = true := by kernel_rfl
theorem cb21 : callable Try.prog 21 = true := by kernel_rfl
theorem cb22 : callable Try.prog 22 = true := by kernel_rfl
theorem cb23 : callable Try.prog 23 = true := by kernel_rfl
theorem cb24 : callable Try.prog 24 = true := by kernel_rfl
theorem cb25 : callable Try.prog 25 = true := by kernel_rfl
theorem cb26 : callable Try.prog 26 = true := by kernel_rfl
theorem cb27 : callable Try.prog 27 = true := by kernel_rfl
theorem cb28 : callable Try.prog 28 = true := by kernel_rfl
theorem cb29 : callable Try.prog 29 = true := by kernel_rfl
theorem cb30 : callable Try.prog 30 = true := by kernel_rfl
theorem hmix : Try.prog.follows .mixedOrders = true := by kernel_rfl
end Go.Proofs.Ahl
