/- Facts of the program's tables. Conditions: as each theorem states them. -/
import Derived.Test.YthgccmnmalhmcaaProg
import Derived.Test.YthgccmnmalhmcaaD
import Derived.KernelRfl
namespace Go.Proofs.Arw
open Go Go.Abs Lf
set_option linter.unusedVariables false
set_option maxRecDepth 100000
theorem ti2 : tiOf Try.prog 2 = some ⟨1, 8, .int .i64, [Value.int .i64 0]⟩ := by kernel_rfl
theorem ti3 : tiOf Try.prog 3 = some ⟨1, 8, .int .i64, [Value.int .i64 0]⟩ := by kernel_rfl
theorem ti4 : tiOf Try.prog 4 = some ⟨1, 1, .bool, [Value.bool false]⟩ := by kernel_rfl
theorem ti5 : tiOf Try.prog 5 = some ⟨1, 1, .int .u8, [Value.int .u8 0]⟩ := by kernel_rfl
theorem ti9 : tiOf Try.prog 9 = some ⟨1, 16, .str8, [Value.string ⟨#[]⟩]⟩ := by kernel_rfl
theorem ti22 : tiOf Try.prog 22 = some ⟨1, 24, .sli 3, [Value.slice none 0 0]⟩ := by kernel_rfl
theorem ti23 : tiOf Try.prog 23 = some ⟨1, 8, .ptr 25, [Value.pointer none]⟩ := by kernel_rfl
theorem ti25 : tiOf Try.prog 25 = some ⟨2, 32, .str [(0, 22), (1, 3)], [Value.slice none 0 0, Value.int .i64 0]⟩ := by kernel_rfl
theorem ti26 : tiOf Try.prog 26 = some ⟨1, 8, .int .i64, [Value.int .i64 0]⟩ := by kernel_rfl
theorem ti28 : tiOf Try.prog 28 = some ⟨3, 24, .str [(0, 26), (1, 26), (2, 4)], [Value.int .i64 0, Value.int .i64 0, Value.bool false]⟩ := by kernel_rfl
theorem ti30 : tiOf Try.prog 30 = some ⟨3, 24, .str [(0, 2), (1, 2), (2, 2)], [Value.int .i64 0, Value.int .i64 0, Value.int .i64 0]⟩ := by kernel_rfl
theorem ti31 : tiOf Try.prog 31 = some ⟨1, 8, .int .i64, [Value.int .i64 0]⟩ := by kernel_rfl
theorem ti33 : tiOf Try.prog 33 = some ⟨3, 24, .str [(0, 31), (1, 31), (2, 4)], [Value.int .i64 0, Value.int .i64 0, Value.bool false]⟩ := by kernel_rfl
theorem ti35 : tiOf Try.prog 35 = some ⟨9, 72, .str [(0, 33), (3, 33), (6, 33)], [Value.int .i64 0, Value.int .i64 0, Value.bool false, Value.int .i64 0, Value.int .i64 0, Value.bool false, Value.int .i64 0, Value.int .i64 0, Value.bool false]⟩ := by kernel_rfl
theorem ti36 : tiOf Try.prog 36 = some ⟨1, 8, .int .i64, [Value.int .i64 0]⟩ := by kernel_rfl
theorem ti38 : tiOf Try.prog 38 = some ⟨3, 24, .str [(0, 36), (1, 36), (2, 4)], [Value.int .i64 0, Value.int .i64 0, Value.bool false]⟩ := by kernel_rfl
theorem ti40 : tiOf Try.prog 40 = some ⟨18, 144, .str [(0, 28), (3, 30), (6, 35), (15, 38)], [Value.int .i64 0, Value.int .i64 0, Value.bool false, Value.int .i64 0, Value.int .i64 0, Value.int .i64 0, Value.int .i64 0, Value.int .i64 0, Value.bool false, Value.int .i64 0, Value.int .i64 0, Value.bool false, Value.int .i64 0, Value.int .i64 0, Value.bool false, Value.int .i64 0, Value.int .i64 0, Value.bool false]⟩ := by kernel_rfl
theorem ti41 : tiOf Try.prog 41 = some ⟨54, 432, .arr 3 40, [Value.int .i64 0, Value.int .i64 0, Value.bool false, Value.int .i64 0, Value.int .i64 0, Value.int .i64 0, Value.int .i64 0, Value.int .i64 0, Value.bool false, Value.int .i64 0, Value.int .i64 0, Value.bool false, Value.int .i64 0, Value.int .i64 0, Value.bool false, Value.int .i64 0, Value.int .i64 0, Value.bool false, Value.int .i64 0, Value.int .i64 0, Value.bool false, Value.int .i64 0, Value.int .i64 0, Value.int .i64 0, Value.int .i64 0, Value.int .i64 0, Value.bool false, Value.int .i64 0, Value.int .i64 0, Value.bool false, Value.int .i64 0, Value.int .i64 0, Value.bool false, Value.int .i64 0, Value.int .i64 0, Value.bool false, Value.int .i64 0, Value.int .i64 0, Value.bool false, Value.int .i64 0, Value.int .i64 0, Value.int .i64 0, Value.int .i64 0, Value.int .i64 0, Value.bool false, Value.int .i64 0, Value.int .i64 0, Value.bool false, Value.int .i64 0, Value.int .i64 0, Value.bool false, Value.int .i64 0, Value.int .i64 0, Value.bool false]⟩ := by kernel_rfl
theorem ti42 : tiOf Try.prog 42 = some ⟨9, 72, .arr 3 30, [Value.int .i64 0, Value.int .i64 0, Value.int .i64 0, Value.int .i64 0, Value.int .i64 0, Value.int .i64 0, Value.int .i64 0, Value.int .i64 0, Value.int .i64 0]⟩ := by kernel_rfl
theorem ti48 : tiOf Try.prog 48 = some ⟨1, 8, .ptr 33, [Value.pointer none]⟩ := by kernel_rfl
theorem ti49 : tiOf Try.prog 49 = some ⟨1, 24, .sli 48, [Value.slice none 0 0]⟩ := by kernel_rfl
theorem ti50 : tiOf Try.prog 50 = some ⟨1, 24, .sli 55, [Value.slice none 0 0]⟩ := by kernel_rfl
theorem ti55 : tiOf Try.prog 55 = some ⟨56, 448, .str [(0, 41), (54, 2), (55, 2)], [Value.int .i64 0, Value.int .i64 0, Value.bool false, Value.int .i64 0, Value.int .i64 0, Value.int .i64 0, Value.int .i64 0, Value.int .i64 0, Value.bool false, Value.int .i64 0, Value.int .i64 0, Value.bool false, Value.int .i64 0, Value.int .i64 0, Value.bool false, Value.int .i64 0, Value.int .i64 0, Value.bool false, Value.int .i64 0, Value.int .i64 0, Value.bool false, Value.int .i64 0, Value.int .i64 0, Value.int .i64 0, Value.int .i64 0, Value.int .i64 0, Value.bool false, Value.int .i64 0, Value.int .i64 0, Value.bool false, Value.int .i64 0, Value.int .i64 0, Value.bool false, Value.int .i64 0, Value.int .i64 0, Value.bool false, Value.int .i64 0, Value.int .i64 0, Value.bool false, Value.int .i64 0, Value.int .i64 0, Value.int .i64 0, Value.int .i64 0, Value.int .i64 0, Value.bool false, Value.int .i64 0, Value.int .i64 0, Value.bool false, Value.int .i64 0, Value.int .i64 0, Value.bool false, Value.int .i64 0, Value.int .i64 0, Value.bool false, Value.int .i64 0, Value.int .i64 0]⟩ := by kernel_rfl
theorem ti60 : tiOf Try.prog 60 = some ⟨8, 64, .str [(0, 3), (1, 30), (4, 30), (7, 36)], [Value.int .i64 0, Value.int .i64 0, Value.int .i64 0, Value.int .i64 0, Value.int .i64 0, Value.int .i64 0, Value.int .i64 0, Value.int .i64 0]⟩ := by kernel_rfl
theorem ti68 : tiOf Try.prog 68 = some ⟨9, 72, .arr 3 33, [Value.int .i64 0, Value.int .i64 0, Value.bool false, Value.int .i64 0, Value.int .i64 0, Value.bool false, Value.int .i64 0, Value.int .i64 0, Value.bool false]⟩ := by kernel_rfl
theorem ti74 : tiOf Try.prog 74 = some ⟨39, 312, .str [(0, 68), (9, 68), (18, 68), (27, 33), (30, 33), (33, 33), (36, 33)], [Value.int .i64 0, Value.int .i64 0, Value.bool false, Value.int .i64 0, Value.int .i64 0, Value.bool false, Value.int .i64 0, Value.int .i64 0, Value.bool false, Value.int .i64 0, Value.int .i64 0, Value.bool false, Value.int .i64 0, Value.int .i64 0, Value.bool false, Value.int .i64 0, Value.int .i64 0, Value.bool false, Value.int .i64 0, Value.int .i64 0, Value.bool false, Value.int .i64 0, Value.int .i64 0, Value.bool false, Value.int .i64 0, Value.int .i64 0, Value.bool false, Value.int .i64 0, Value.int .i64 0, Value.bool false, Value.int .i64 0, Value.int .i64 0, Value.bool false, Value.int .i64 0, Value.int .i64 0, Value.bool false, Value.int .i64 0, Value.int .i64 0, Value.bool false]⟩ := by kernel_rfl
theorem ti93 : tiOf Try.prog 93 = some ⟨27, 216, .arr 3 68, [Value.int .i64 0, Value.int .i64 0, Value.bool false, Value.int .i64 0, Value.int .i64 0, Value.bool false, Value.int .i64 0, Value.int .i64 0, Value.bool false, Value.int .i64 0, Value.int .i64 0, Value.bool false, Value.int .i64 0, Value.int .i64 0, Value.bool false, Value.int .i64 0, Value.int .i64 0, Value.bool false, Value.int .i64 0, Value.int .i64 0, Value.bool false, Value.int .i64 0, Value.int .i64 0, Value.bool false, Value.int .i64 0, Value.int .i64 0, Value.bool false]⟩ := by kernel_rfl
theorem ti97 : tiOf Try.prog 97 = some ⟨1, 24, .sli 33, [Value.slice none 0 0]⟩ := by kernel_rfl
theorem ti101 : tiOf Try.prog 101 = some ⟨3, 24, .arr 3 2, [Value.int .i64 0, Value.int .i64 0, Value.int .i64 0]⟩ := by kernel_rfl
theorem ti107 : tiOf Try.prog 107 = some ⟨1, 8, .int .u64, [Value.int .u64 0]⟩ := by kernel_rfl
theorem ti109 : tiOf Try.prog 109 = some ⟨2, 16, .str [(0, 2), (1, 107)], [Value.int .i64 0, Value.int .u64 0]⟩ := by kernel_rfl
theorem ti131 : tiOf Try.prog 131 = some ⟨1, 8, .int .u64, [Value.int .u64 0]⟩ := by kernel_rfl
theorem ti137 : tiOf Try.prog 137 = some ⟨1, 24, .sli 31, [Value.slice none 0 0]⟩ := by kernel_rfl
theorem bt25 : bTab Try.prog 25 = some ([.sc (.slice none 0 0), .sc (.int .i64 0)], [(0, 1), (1, 1)]) := by kernel_rfl
theorem bt28 : bTab Try.prog 28 = some ([.sc (.int .i64 0), .sc (.int .i64 0), .sc (.bool false)], [(0, 1), (1, 1), (2, 1)]) := by kernel_rfl
theorem bt30 : bTab Try.prog 30 = some ([.sc (.int .i64 0), .sc (.int .i64 0), .sc (.int .i64 0)], [(0, 1), (1, 1), (2, 1)]) := by kernel_rfl
theorem bt33 : bTab Try.prog 33 = some ([.sc (.int .i64 0), .sc (.int .i64 0), .sc (.bool false)], [(0, 1), (1, 1), (2, 1)]) := by kernel_rfl
theorem bt35 : bTab Try.prog 35 = some ([.sc (.int .i64 0), .sc (.int .i64 0), .sc (.bool false), .sc (.int .i64 0), .sc (.int .i64 0), .sc (.bool false), .sc (.int .i64 0), .sc (.int .i64 0), .sc (.bool false)], [(0, 3), (3, 3), (6, 3)]) := by kernel_rfl
theorem bt38 : bTab Try.prog 38 = some ([.sc (.int .i64 0), .sc (.int .i64 0), .sc (.bool false)], [(0, 1), (1, 1), (2, 1)]) := by kernel_rfl
theorem bt40 : bTab Try.prog 40 = some ([.sc (.int .i64 0), .sc (.int .i64 0), .sc (.bool false), .sc (.int .i64 0), .sc (.int .i64 0), .sc (.int .i64 0), .sc (.int .i64 0), .sc (.int .i64 0), .sc (.bool false), .sc (.int .i64 0), .sc (.int .i64 0), .sc (.bool false), .sc (.int .i64 0), .sc (.int .i64 0), .sc (.bool false), .sc (.int .i64 0), .sc (.int .i64 0), .sc (.bool false)], [(0, 3), (3, 3), (6, 9), (15, 3)]) := by kernel_rfl
theorem bt55 : bTab Try.prog 55 = some ([.sc (.int .i64 0), .sc (.int .i64 0), .sc (.bool false), .sc (.int .i64 0), .sc (.int .i64 0), .sc (.int .i64 0), .sc (.int .i64 0), .sc (.int .i64 0), .sc (.bool false), .sc (.int .i64 0), .sc (.int .i64 0), .sc (.bool false), .sc (.int .i64 0), .sc (.int .i64 0), .sc (.bool false), .sc (.int .i64 0), .sc (.int .i64 0), .sc (.bool false), .sc (.int .i64 0), .sc (.int .i64 0), .sc (.bool false), .sc (.int .i64 0), .sc (.int .i64 0), .sc (.int .i64 0), .sc (.int .i64 0), .sc (.int .i64 0), .sc (.bool false), .sc (.int .i64 0), .sc (.int .i64 0), .sc (.bool false), .sc (.int .i64 0), .sc (.int .i64 0), .sc (.bool false), .sc (.int .i64 0), .sc (.int .i64 0), .sc (.bool false), .sc (.int .i64 0), .sc (.int .i64 0), .sc (.bool false), .sc (.int .i64 0), .sc (.int .i64 0), .sc (.int .i64 0), .sc (.int .i64 0), .sc (.int .i64 0), .sc (.bool false), .sc (.int .i64 0), .sc (.int .i64 0), .sc (.bool false), .sc (.int .i64 0), .sc (.int .i64 0), .sc (.bool false), .sc (.int .i64 0), .sc (.int .i64 0), .sc (.bool false), .sc (.int .i64 0), .sc (.int .i64 0)], [(0, 54), (54, 1), (55, 1)]) := by kernel_rfl
theorem bt60 : bTab Try.prog 60 = some ([.sc (.int .i64 0), .sc (.int .i64 0), .sc (.int .i64 0), .sc (.int .i64 0), .sc (.int .i64 0), .sc (.int .i64 0), .sc (.int .i64 0), .sc (.int .i64 0)], [(0, 1), (1, 3), (4, 3), (7, 1)]) := by kernel_rfl
theorem bt74 : bTab Try.prog 74 = some ([.sc (.int .i64 0), .sc (.int .i64 0), .sc (.bool false), .sc (.int .i64 0), .sc (.int .i64 0), .sc (.bool false), .sc (.int .i64 0), .sc (.int .i64 0), .sc (.bool false), .sc (.int .i64 0), .sc (.int .i64 0), .sc (.bool false), .sc (.int .i64 0), .sc (.int .i64 0), .sc (.bool false), .sc (.int .i64 0), .sc (.int .i64 0), .sc (.bool false), .sc (.int .i64 0), .sc (.int .i64 0), .sc (.bool false), .sc (.int .i64 0), .sc (.int .i64 0), .sc (.bool false), .sc (.int .i64 0), .sc (.int .i64 0), .sc (.bool false), .sc (.int .i64 0), .sc (.int .i64 0), .sc (.bool false), .sc (.int .i64 0), .sc (.int .i64 0), .sc (.bool false), .sc (.int .i64 0), .sc (.int .i64 0), .sc (.bool false), .sc (.int .i64 0), .sc (.int .i64 0), .sc (.bool false)], [(0, 9), (9, 9), (18, 9), (27, 3), (30, 3), (33, 3), (36, 3)]) := by kernel_rfl
theorem bt109 : bTab Try.prog 109 = some ([.sc (.int .i64 0), .sc (.int .u64 0)], [(0, 1), (1, 1)]) := by kernel_rfl
theorem qa68 : ((tiOf Try.prog 68).map fun ti => ti.k.isAgg) = some true := by rw [ti68]; rfl
theorem qg68 : Try.prog.eqGuardType Try.prog.depth 68 = false := by kernel_rfl
theorem qe68 (a0 : Int) (a1 : Int) (a2 : Bool) (a3 : Int) (a4 : Int) (a5 : Bool) (a6 : Int) (a7 : Int) (a8 : Bool) (b0 : Int) (b1 : Int) (b2 : Bool) (b3 : Int) (b4 : Int) (b5 : Bool) (b6 : Int) (b7 : Int) (b8 : Bool) : eqCells Try.prog 10000 68 [.sc (.int .i64 a0), .sc (.int .i64 a1), .sc (.bool a2), .sc (.int .i64 a3), .sc (.int .i64 a4), .sc (.bool a5), .sc (.int .i64 a6), .sc (.int .i64 a7), .sc (.bool a8)] [.sc (.int .i64 b0), .sc (.int .i64 b1), .sc (.bool b2), .sc (.int .i64 b3), .sc (.int .i64 b4), .sc (.bool b5), .sc (.int .i64 b6), .sc (.int .i64 b7), .sc (.bool b8)] = some (((a0 == b0) && ((a1 == b1) && ((a2 == b2) && (true)))) && (((a3 == b3) && ((a4 == b4) && ((a5 == b5) && (true)))) && (((a6 == b6) && ((a7 == b7) && ((a8 == b8) && (true)))) && (true)))) := by kernel_rfl
theorem cb4 : callable Try.prog 4 = true := by kernel_rfl
theorem cb5 : callable Try.prog 5 = true := by kernel_rfl
theorem cb6 : callable Try.prog 6 = true := by kernel_rfl
theorem cb7 : callable Try.prog 7 = true := by kernel_rfl
theorem cb8 : callable Try.prog 8 = true := by kernel_rfl
theorem cb9 : callable Try.prog 9 = true := by kernel_rfl
theorem cb10 : callable Try.prog 10 = true := by kernel_rfl
theorem cb11 : callable Try.prog 11 = true := by kernel_rfl
theorem cb12 : callable Try.prog 12 = true := by kernel_rfl
theorem cb13 : callable Try.prog 13 = true := by kernel_rfl
theorem cb14 : callable Try.prog 14 = true := by kernel_rfl
theorem cb15 : callable Try.prog 15 = true := by kernel_rfl
theorem cb16 : callable Try.prog 16 = true := by kernel_rfl
theorem cb17 : callable Try.prog 17 = true := by kernel_rfl
theorem cb18 : callable Try.prog 18 = true := by kernel_rfl
theorem cb19 : callable Try.prog 19 = true := by kernel_rfl
theorem cb20 : callable Try.prog 20 = true := by kernel_rfl
theorem cb21 : callable Try.prog 21 = true := by kernel_rfl
theorem cb22 : callable Try.prog 22 = true := by kernel_rfl
theorem cb23 : callable Try.prog 23 = true := by kernel_rfl
theorem cb24 : callable Try.prog 24 = true := by kernel_rfl
theorem cb25 : callable Try.prog 25 = true := by kernel_rfl
theorem cb26 : callable Try.prog 26 = true := by kernel_rfl
theorem cb27 : callable Try.prog 27 = true := by kernel_rfl
theorem cb28 : callable Try.prog 28 = true := by kernel_rfl
theorem cb29 : callable Try.prog 29 = true := by kernel_rfl
theorem cb30 : callable Try.prog 30 = true := by kernel_rfl
theorem cb31 : callable Try.prog 31 = true := by kernel_rfl
theorem cb32 : callable Try.prog 32 = true := by kernel_rfl
theorem cb33 : callable Try.prog 33 = true := by kernel_rfl
theorem cb34 : callable Try.prog 34 = true := by kernel_rfl
theorem cb35 : callable Try.prog 35 = true := by kernel_rfl
theorem cb36 : callable Try.prog 36 = true := by kernel_rfl
theorem cb37 : callable Try.prog 37 = true := by kernel_rfl
theorem cb38 : callable Try.prog 38 = true := by kernel_rfl
theorem cb39 : callable Try.prog 39 = true := by kernel_rfl
theorem cb40 : callable Try.prog 40 = true := by kernel_rfl
theorem cb41 : callable Try.prog 41 = true := by kernel_rfl
theorem cb42 : callable Try.prog 42 = true := by kernel_rfl
theorem cb43 : callable Try.prog 43 = true := by kernel_rfl
theorem cb44 : callable Try.prog 44 = true := by kernel_rfl
theorem cb45 : callable Try.prog 45 = true := by kernel_rfl
theorem cb46 : callable Try.prog 46 = true := by kernel_rfl
theorem cb47 : callable Try.prog 47 = true := by kernel_rfl
theorem cb48 : callable Try.prog 48 = true := by kernel_rfl
theorem cb49 : callable Try.prog 49 = true := by kernel_rfl
theorem cb50 : callable Try.prog 50 = true := by kernel_rfl
theorem cb51 : callable Try.prog 51 = true := by kernel_rfl
theorem cb52 : callable Try.prog 52 = true := by kernel_rfl
theorem cb53 : callable Try.prog 53 = true := by kernel_rfl
theorem cb54 : callable Try.prog 54 = true := by kernel_rfl
theorem cb55 : callable Try.prog 55 = true := by kernel_rfl
theorem cb56 : callable Try.prog 56 = true := by kernel_rfl
theorem cb57 : callable Try.prog 57 = true := by kernel_rfl
theorem cb58 : callable Try.prog 58 = true := by kernel_rfl
theorem cb59 : callable Try.prog 59 = true := by kernel_rfl
theorem cb60 : callable Try.prog 60 = true := by kernel_rfl
theorem cb61 : callable Try.prog 61 = true := by kernel_rfl
theorem cb62 : callable Try.prog 62 = true := by kernel_rfl
theorem cb63 : callable Try.prog 63 = true := by kernel_rfl
theorem cb64 : callable Try.prog 64 = true := by kernel_rfl
theorem cb65 : callable Try.prog 65 = true := by kernel_rfl
theorem cb66 : callable Try.prog 66 = true := by kernel_rfl
theorem cb67 : callable Try.prog 67 = true := by kernel_rfl
theorem cb68 : callable Try.prog 68 = true := by kernel_rfl
theorem cb71 : callable Try.prog 71 = true := by kernel_rfl
theorem cb72 : callable Try.prog 72 = true := by kernel_rfl
theorem cb73 : callable Try.prog 73 = true := by kernel_rfl
theorem cb74 : callable Try.prog 74 = true := by kernel_rfl
theorem cb75 : callable Try.prog 75 = true := by kernel_rfl
theorem cb76 : callable Try.prog 76 = true := by kernel_rfl
theorem cb77 : callable Try.prog 77 = true := by kernel_rfl
theorem cb78 : callable Try.prog 78 = true := by kernel_rfl
theorem cb79 : callable Try.prog 79 = true := by kernel_rfl
theorem cb80 : callable Try.prog 80 = true := by kernel_rfl
theorem cb81 : callable Try.prog 81 = true := by kernel_rfl
theorem cb82 : callable Try.prog 82 = true := by kernel_rfl
theorem cb83 : callable Try.prog 83 = true := by kernel_rfl
theorem cb84 : callable Try.prog 84 = true := by kernel_rfl
theorem cb85 : callable Try.prog 85 = true := by kernel_rfl
theorem cb86 : callable Try.prog 86 = true := by kernel_rfl
theorem cb87 : callable Try.prog 87 = true := by kernel_rfl
theorem cb88 : callable Try.prog 88 = true := by kernel_rfl
theorem cb89 : callable Try.prog 89 = true := by kernel_rfl
theorem cb91 : callable Try.prog 91 = true := by kernel_rfl
theorem cb92 : callable Try.prog 92 = true := by kernel_rfl
theorem cb93 : callable Try.prog 93 = true := by kernel_rfl
theorem cb94 : callable Try.prog 94 = true := by kernel_rfl
theorem cb96 : callable Try.prog 96 = true := by kernel_rfl
theorem cb97 : callable Try.prog 97 = true := by kernel_rfl
theorem cb98 : callable Try.prog 98 = true := by kernel_rfl
theorem cb99 : callable Try.prog 99 = true := by kernel_rfl
theorem xf95 : IsAdd64 Try.prog 95 := ⟨_, Try.func95, by kernel_rfl, by kernel_rfl, by kernel_rfl, by kernel_rfl⟩
theorem hmix : Try.prog.follows .mixedOrders = true := by kernel_rfl
end Go.Proofs.Arw
