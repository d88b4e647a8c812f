/- Facts of the program's tables. Conditions: as each theorem states them. -/
import Derived.Test.YtbldfhcnkbahaaaGreatProg
import Derived.Test.YtbldfhcnkbahaaaGreatD
import Derived.KernelRfl
namespace Go.Proofs.Ids
open Go Go.Abs Lf
set_option linter.unusedVariables false
set_option maxRecDepth 100000
theorem ti2 : tiOf Tryz.prog 2 = some ⟨1, 8, .int .i64, [Value.int .i64 0]⟩ := by kernel_rfl
theorem ti3 : tiOf Tryz.prog 3 = some ⟨1, 8, .int .i64, [Value.int .i64 0]⟩ := by kernel_rfl
theorem ti4 : tiOf Tryz.prog 4 = some ⟨1, 1, .bool, [Value.bool false]⟩ := by kernel_rfl
theorem ti5 : tiOf Tryz.prog 5 = some ⟨1, 1, .int .u8, [Value.int .u8 0]⟩ := by kernel_rfl
theorem ti9 : tiOf Tryz.prog 9 = some ⟨1, 16, .str8, [Value.string ⟨#[]⟩]⟩ := by kernel_rfl
theorem ti22 : tiOf Tryz.prog 22 = some ⟨1, 24, .sli 3, [Value.slice none 0 0]⟩ := by kernel_rfl
theorem ti23 : tiOf Tryz.prog 23 = some ⟨1, 8, .ptr 25, [Value.pointer none]⟩ := by kernel_rfl
theorem ti25 : tiOf Tryz.prog 25 = some ⟨2, 32, .str [(0, 22), (1, 3)], [Value.slice none 0 0, Value.int .i64 0]⟩ := by kernel_rfl
theorem ti26 : tiOf Tryz.prog 26 = some ⟨1, 8, .int .i64, [Value.int .i64 0]⟩ := by kernel_rfl
theorem ti28 : tiOf Tryz.prog 28 = some ⟨3, 24, .str [(0, 26), (1, 26), (2, 4)], [Value.int .i64 0, Value.int .i64 0, Value.bool false]⟩ := by kernel_rfl
theorem ti30 : tiOf Tryz.prog 30 = some ⟨3, 24, .str [(0, 2), (1, 2), (2, 2)], [Value.int .i64 0, Value.int .i64 0, Value.int .i64 0]⟩ := by kernel_rfl
theorem ti31 : tiOf Tryz.prog 31 = some ⟨1, 8, .int .i64, [Value.int .i64 0]⟩ := by kernel_rfl
theorem ti33 : tiOf Tryz.prog 33 = some ⟨3, 24, .str [(0, 31), (1, 31), (2, 4)], [Value.int .i64 0, Value.int .i64 0, Value.bool false]⟩ := by kernel_rfl
theorem ti35 : tiOf Tryz.prog 35 = some ⟨9, 72, .str [(0, 33), (3, 33), (6, 33)], [Value.int .i64 0, Value.int .i64 0, Value.bool false, Value.int .i64 0, Value.int .i64 0, Value.bool false, Value.int .i64 0, Value.int .i64 0, Value.bool false]⟩ := by kernel_rfl
theorem ti36 : tiOf Tryz.prog 36 = some ⟨1, 8, .int .i64, [Value.int .i64 0]⟩ := by kernel_rfl
theorem ti38 : tiOf Tryz.prog 38 = some ⟨3, 24, .str [(0, 36), (1, 36), (2, 4)], [Value.int .i64 0, Value.int .i64 0, Value.bool false]⟩ := by kernel_rfl
theorem ti40 : tiOf Tryz.prog 40 = some ⟨18, 144, .str [(0, 28), (3, 30), (6, 35), (15, 38)], [Value.int .i64 0, Value.int .i64 0, Value.bool false, Value.int .i64 0, Value.int .i64 0, Value.int .i64 0, Value.int .i64 0, Value.int .i64 0, Value.bool false, Value.int .i64 0, Value.int .i64 0, Value.bool false, Value.int .i64 0, Value.int .i64 0, Value.bool false, Value.int .i64 0, Value.int .i64 0, Value.bool false]⟩ := by kernel_rfl
theorem ti41 : tiOf Tryz.prog 41 = some ⟨54, 432, .arr 3 40, [Value.int .i64 0, Value.int .i64 0, Value.bool false, Value.int .i64 0, Value.int .i64 0, Value.int .i64 0, Value.int .i64 0, Value.int .i64 0, Value.bool false, Value.int .i64 0, Value.int .i64 0, Value.bool false, Value.int .i64 0, Value.int .i64 0, Value.bool false, Value.int .i64 0, Value.int .i64 0, Value.bool false, Value.int .i64 0, Value.int .i64 0, Value.bool false, Value.int .i64 0, Value.int .i64 0, Value.int .i64 0, Value.int .i64 0, Value.int .i64 0, Value.bool false, Value.int .i64 0, Value.int .i64 0, Value.bool false, Value.int .i64 0, Value.int .i64 0, Value.bool false, Value.int .i64 0, Value.int .i64 0, Value.bool false, Value.int .i64 0, Value.int .i64 0, Value.bool false, Value.int .i64 0, Value.int .i64 0, Value.int .i64 0, Value.int .i64 0, Value.int .i64 0, Value.bool false, Value.int .i64 0, Value.int .i64 0, Value.bool false, Value.int .i64 0, Value.int .i64 0, Value.bool false, Value.int .i64 0, Value.int .i64 0, Value.bool false]⟩ := by kernel_rfl
theorem ti42 : tiOf Tryz.prog 42 = some ⟨9, 72, .arr 3 30, [Value.int .i64 0, Value.int .i64 0, Value.int .i64 0, Value.int .i64 0, Value.int .i64 0, Value.int .i64 0, Value.int .i64 0, Value.int .i64 0, Value.int .i64 0]⟩ := by kernel_rfl
theorem ti53 : tiOf Tryz.prog 53 = some ⟨8, 64, .str [(0, 3), (1, 30), (4, 30), (7, 36)], [Value.int .i64 0, Value.int .i64 0, Value.int .i64 0, Value.int .i64 0, Value.int .i64 0, Value.int .i64 0, Value.int .i64 0, Value.int .i64 0]⟩ := by kernel_rfl
theorem ti55 : tiOf Tryz.prog 55 = some ⟨56, 448, .str [(0, 41), (54, 2), (55, 2)], [Value.int .i64 0, Value.int .i64 0, Value.bool false, Value.int .i64 0, Value.int .i64 0, Value.int .i64 0, Value.int .i64 0, Value.int .i64 0, Value.bool false, Value.int .i64 0, Value.int .i64 0, Value.bool false, Value.int .i64 0, Value.int .i64 0, Value.bool false, Value.int .i64 0, Value.int .i64 0, Value.bool false, Value.int .i64 0, Value.int .i64 0, Value.bool false, Value.int .i64 0, Value.int .i64 0, Value.int .i64 0, Value.int .i64 0, Value.int .i64 0, Value.bool false, Value.int .i64 0, Value.int .i64 0, Value.bool false, Value.int .i64 0, Value.int .i64 0, Value.bool false, Value.int .i64 0, Value.int .i64 0, Value.bool false, Value.int .i64 0, Value.int .i64 0, Value.bool false, Value.int .i64 0, Value.int .i64 0, Value.int .i64 0, Value.int .i64 0, Value.int .i64 0, Value.bool false, Value.int .i64 0, Value.int .i64 0, Value.bool false, Value.int .i64 0, Value.int .i64 0, Value.bool false, Value.int .i64 0, Value.int .i64 0, Value.bool false, Value.int .i64 0, Value.int .i64 0]⟩ := by kernel_rfl
theorem ti69 : tiOf Tryz.prog 69 = some ⟨1, 24, .sli 53, [Value.slice none 0 0]⟩ := by kernel_rfl
theorem ti83 : tiOf Tryz.prog 83 = some ⟨9, 72, .arr 3 33, [Value.int .i64 0, Value.int .i64 0, Value.bool false, Value.int .i64 0, Value.int .i64 0, Value.bool false, Value.int .i64 0, Value.int .i64 0, Value.bool false]⟩ := by kernel_rfl
theorem ti84 : tiOf Tryz.prog 84 = some ⟨9, 72, .arr 3 33, [Value.int .i64 0, Value.int .i64 0, Value.bool false, Value.int .i64 0, Value.int .i64 0, Value.bool false, Value.int .i64 0, Value.int .i64 0, Value.bool false]⟩ := by kernel_rfl
theorem ti90 : tiOf Tryz.prog 90 = some ⟨1, 24, .sli 33, [Value.slice none 0 0]⟩ := by kernel_rfl
theorem ti93 : tiOf Tryz.prog 93 = some ⟨1, 24, .sli 97, [Value.slice none 0 0]⟩ := by kernel_rfl
theorem ti97 : tiOf Tryz.prog 97 = some ⟨18, 144, .arr 2 84, [Value.int .i64 0, Value.int .i64 0, Value.bool false, Value.int .i64 0, Value.int .i64 0, Value.bool false, Value.int .i64 0, Value.int .i64 0, Value.bool false, Value.int .i64 0, Value.int .i64 0, Value.bool false, Value.int .i64 0, Value.int .i64 0, Value.bool false, Value.int .i64 0, Value.int .i64 0, Value.bool false]⟩ := by kernel_rfl
theorem ti107 : tiOf Tryz.prog 107 = some ⟨4, 32, .str [(0, 2), (1, 2), (2, 2), (3, 2)], [Value.int .i64 0, Value.int .i64 0, Value.int .i64 0, Value.int .i64 0]⟩ := by kernel_rfl
theorem ti109 : tiOf Tryz.prog 109 = some ⟨1, 8, .int .u64, [Value.int .u64 0]⟩ := by kernel_rfl
theorem ti111 : tiOf Tryz.prog 111 = some ⟨2, 16, .str [(0, 2), (1, 109)], [Value.int .i64 0, Value.int .u64 0]⟩ := by kernel_rfl
theorem ti115 : tiOf Tryz.prog 115 = some ⟨3, 24, .arr 3 2, [Value.int .i64 0, Value.int .i64 0, Value.int .i64 0]⟩ := by kernel_rfl
theorem ti118 : tiOf Tryz.prog 118 = some ⟨1, 24, .sli 30, [Value.slice none 0 0]⟩ := by kernel_rfl
theorem ti119 : tiOf Tryz.prog 119 = some ⟨1, 24, .sli 26, [Value.slice none 0 0]⟩ := by kernel_rfl
theorem ti145 : tiOf Tryz.prog 145 = some ⟨1, 8, .int .u64, [Value.int .u64 0]⟩ := by kernel_rfl
theorem ti149 : tiOf Tryz.prog 149 = some ⟨1, 24, .sli 31, [Value.slice none 0 0]⟩ := by kernel_rfl
theorem bt25 : bTab Tryz.prog 25 = some ([.sc (.slice none 0 0), .sc (.int .i64 0)], [(0, 1), (1, 1)]) := by kernel_rfl
theorem bt28 : bTab Tryz.prog 28 = some ([.sc (.int .i64 0), .sc (.int .i64 0), .sc (.bool false)], [(0, 1), (1, 1), (2, 1)]) := by kernel_rfl
theorem bt30 : bTab Tryz.prog 30 = some ([.sc (.int .i64 0), .sc (.int .i64 0), .sc (.int .i64 0)], [(0, 1), (1, 1), (2, 1)]) := by kernel_rfl
theorem bt33 : bTab Tryz.prog 33 = some ([.sc (.int .i64 0), .sc (.int .i64 0), .sc (.bool false)], [(0, 1), (1, 1), (2, 1)]) := by kernel_rfl
theorem bt35 : bTab Tryz.prog 35 = some ([.sc (.int .i64 0), .sc (.int .i64 0), .sc (.bool false), .sc (.int .i64 0), .sc (.int .i64 0), .sc (.bool false), .sc (.int .i64 0), .sc (.int .i64 0), .sc (.bool false)], [(0, 3), (3, 3), (6, 3)]) := by kernel_rfl
theorem bt38 : bTab Tryz.prog 38 = some ([.sc (.int .i64 0), .sc (.int .i64 0), .sc (.bool false)], [(0, 1), (1, 1), (2, 1)]) := by kernel_rfl
theorem bt40 : bTab Tryz.prog 40 = some ([.sc (.int .i64 0), .sc (.int .i64 0), .sc (.bool false), .sc (.int .i64 0), .sc (.int .i64 0), .sc (.int .i64 0), .sc (.int .i64 0), .sc (.int .i64 0), .sc (.bool false), .sc (.int .i64 0), .sc (.int .i64 0), .sc (.bool false), .sc (.int .i64 0), .sc (.int .i64 0), .sc (.bool false), .sc (.int .i64 0), .sc (.int .i64 0), .sc (.bool false)], [(0, 3), (3, 3), (6, 9), (15, 3)]) := by kernel_rfl
theorem bt53 : bTab Tryz.prog 53 = some ([.sc (.int .i64 0), .sc (.int .i64 0), .sc (.int .i64 0), .sc (.int .i64 0), .sc (.int .i64 0), .sc (.int .i64 0), .sc (.int .i64 0), .sc (.int .i64 0)], [(0, 1), (1, 3), (4, 3), (7, 1)]) := by kernel_rfl
theorem bt55 : bTab Tryz.prog 55 = some ([.sc (.int .i64 0), .sc (.int .i64 0), .sc (.bool false), .sc (.int .i64 0), .sc (.int .i64 0), .sc (.int .i64 0), .sc (.int .i64 0), .sc (.int .i64 0), .sc (.bool false), .sc (.int .i64 0), .sc (.int .i64 0), .sc (.bool false), .sc (.int .i64 0), .sc (.int .i64 0), .sc (.bool false), .sc (.int .i64 0), .sc (.int .i64 0), .sc (.bool false), .sc (.int .i64 0), .sc (.int .i64 0), .sc (.bool false), .sc (.int .i64 0), .sc (.int .i64 0), .sc (.int .i64 0), .sc (.int .i64 0), .sc (.int .i64 0), .sc (.bool false), .sc (.int .i64 0), .sc (.int .i64 0), .sc (.bool false), .sc (.int .i64 0), .sc (.int .i64 0), .sc (.bool false), .sc (.int .i64 0), .sc (.int .i64 0), .sc (.bool false), .sc (.int .i64 0), .sc (.int .i64 0), .sc (.bool false), .sc (.int .i64 0), .sc (.int .i64 0), .sc (.int .i64 0), .sc (.int .i64 0), .sc (.int .i64 0), .sc (.bool false), .sc (.int .i64 0), .sc (.int .i64 0), .sc (.bool false), .sc (.int .i64 0), .sc (.int .i64 0), .sc (.bool false), .sc (.int .i64 0), .sc (.int .i64 0), .sc (.bool false), .sc (.int .i64 0), .sc (.int .i64 0)], [(0, 54), (54, 1), (55, 1)]) := by kernel_rfl
theorem bt107 : bTab Tryz.prog 107 = some ([.sc (.int .i64 0), .sc (.int .i64 0), .sc (.int .i64 0), .sc (.int .i64 0)], [(0, 1), (1, 1), (2, 1), (3, 1)]) := by kernel_rfl
theorem bt111 : bTab Tryz.prog 111 = some ([.sc (.int .i64 0), .sc (.int .u64 0)], [(0, 1), (1, 1)]) := by kernel_rfl
theorem qa30 : ((tiOf Tryz.prog 30).map fun ti => ti.k.isAgg) = some true := by rw [ti30]; rfl
theorem qg30 : Tryz.prog.eqGuardType Tryz.prog.depth 30 = false := by kernel_rfl
theorem qe30 (a0 : Int) (a1 : Int) (a2 : Int) (b0 : Int) (b1 : Int) (b2 : Int) : eqCells Tryz.prog 10000 30 [.sc (.int .i64 a0), .sc (.int .i64 a1), .sc (.int .i64 a2)] [.sc (.int .i64 b0), .sc (.int .i64 b1), .sc (.int .i64 b2)] = some ((a0 == b0) && ((a1 == b1) && ((a2 == b2) && (true)))) := by kernel_rfl
theorem cb4 : callable Tryz.prog 4 = true := by kernel_rfl
theorem cb5 : callable Tryz.prog 5 = true := by kernel_rfl
theorem cb6 : callable Tryz.prog 6 = true := by kernel_rfl
theorem cb7 : callable Tryz.prog 7 = true := by kernel_rfl
theorem cb8 : callable Tryz.prog 8 = true := by kernel_rfl
theorem cb9 : callable Tryz.prog 9 = true := by kernel_rfl
theorem cb10 : callable Tryz.prog 10 = true := by kernel_rfl
theorem cb11 : callable Tryz.prog 11 = true := by kernel_rfl
theorem cb12 : callable Tryz.prog 12 = true := by kernel_rfl
theorem cb13 : callable Tryz.prog 13 = true := by kernel_rfl
theorem cb14 : callable Tryz.prog 14 = true := by kernel_rfl
theorem cb15 : callable Tryz.prog 15 = true := by kernel_rfl
theorem cb16 : callable Tryz.prog 16 = true := by kernel_rfl
theorem cb17 : callable Tryz.prog 17 = true := by kernel_rfl
theorem cb18 : callable Tryz.prog 18 = true := by kernel_rfl
theorem cb19 : callable Tryz.prog 19 = true := by kernel_rfl
theorem cb20 : callable Tryz.prog 20 = true := by kernel_rfl
theorem cb21 : callable Tryz.prog 21 = true := by kernel_rfl
theorem cb22 : callable Tryz.prog 22 = true := by kernel_rfl
theorem cb23 : callable Tryz.prog 23 = true := by kernel_rfl
theorem cb24 : callable Tryz.prog 24 = true := by kernel_rfl
theorem cb25 : callable Tryz.prog 25 = true := by kernel_rfl
theorem cb26 : callable Tryz.prog 26 = true := by kernel_rfl
theorem cb27 : callable Tryz.prog 27 = true := by kernel_rfl
theorem cb28 : callable Tryz.prog 28 = true := by kernel_rfl
theorem cb29 : callable Tryz.prog 29 = true := by kernel_rfl
theorem cb30 : callable Tryz.prog 30 = true := by kernel_rfl
theorem cb31 : callable Tryz.prog 31 = true := by kernel_rfl
theorem cb32 : callable Tryz.prog 32 = true := by kernel_rfl
theorem cb33 : callable Tryz.prog 33 = true := by kernel_rfl
theorem cb34 : callable Tryz.prog 34 = true := by kernel_rfl
theorem cb35 : callable Tryz.prog 35 = true := by kernel_rfl
theorem cb36 : callable Tryz.prog 36 = true := by kernel_rfl
theorem cb37 : callable Tryz.prog 37 = true := by kernel_rfl
theorem cb38 : callable Tryz.prog 38 = true := by kernel_rfl
theorem cb39 : callable Tryz.prog 39 = true := by kernel_rfl
theorem cb40 : callable Tryz.prog 40 = true := by kernel_rfl
theorem cb41 : callable Tryz.prog 41 = true := by kernel_rfl
theorem cb42 : callable Tryz.prog 42 = true := by kernel_rfl
theorem cb43 : callable Tryz.prog 43 = true := by kernel_rfl
theorem cb44 : callable Tryz.prog 44 = true := by kernel_rfl
theorem cb45 : callable Tryz.prog 45 = true := by kernel_rfl
theorem cb46 : callable Tryz.prog 46 = true := by kernel_rfl
theorem cb47 : callable Tryz.prog 47 = true := by kernel_rfl
theorem cb48 : callable Tryz.prog 48 = true := by kernel_rfl
theorem cb49 : callable Tryz.prog 49 = true := by kernel_rfl
theorem cb50 : callable Tryz.prog 50 = true := by kernel_rfl
theorem cb51 : callable Tryz.prog 51 = true := by kernel_rfl
theorem cb52 : callable Tryz.prog 52 = true := by kernel_rfl
theorem cb53 : callable Tryz.prog 53 = true := by kernel_rfl
theorem cb54 : callable Tryz.prog 54 = true := by kernel_rfl
theorem cb55 : callable Tryz.prog 55 = true := by kernel_rfl
theorem cb56 : callable Tryz.prog 56 = true := by kernel_rfl
theorem cb57 : callable Tryz.prog 57 = true := by kernel_rfl
theorem cb58 : callable Tryz.prog 58 = true := by kernel_rfl
theorem cb59 : callable Tryz.prog 59 = true := by kernel_rfl
theorem cb60 : callable Tryz.prog 60 = true := by kernel_rfl
theorem cb61 : callable Tryz.prog 61 = true := by kernel_rfl
theorem cb62 : callable Tryz.prog 62 = true := by kernel_rfl
theorem cb63 : callable Tryz.prog 63 = true := by kernel_rfl
theorem cb64 : callable Tryz.prog 64 = true := by kernel_rfl
theorem cb65 : callable Tryz.prog 65 = true := by kernel_rfl
theorem cb66 : callable Tryz.prog 66 = true := by kernel_rfl
theorem cb67 : callable Tryz.prog 67 = true := by kernel_rfl
theorem cb68 : callable Tryz.prog 68 = true := by kernel_rfl
theorem cb69 : callable Tryz.prog 69 = true := by kernel_rfl
theorem cb70 : callable Tryz.prog 70 = true := by kernel_rfl
theorem cb71 : callable Tryz.prog 71 = true := by kernel_rfl
theorem cb72 : callable Tryz.prog 72 = true := by kernel_rfl
theorem cb73 : callable Tryz.prog 73 = true := by kernel_rfl
theorem cb74 : callable Tryz.prog 74 = true := by kernel_rfl
theorem cb75 : callable Tryz.prog 75 = true := by kernel_rfl
theorem cb76 : callable Tryz.prog 76 = true := by kernel_rfl
theorem cb77 : callable Tryz.prog 77 = true := by kernel_rfl
theorem cb78 : callable Tryz.prog 78 = true := by kernel_rfl
theorem cb79 : callable Tryz.prog 79 = true := by kernel_rfl
theorem cb80 : callable Tryz.prog 80 = true := by kernel_rfl
theorem cb81 : callable Tryz.prog 81 = true := by kernel_rfl
theorem cb82 : callable Tryz.prog 82 = true := by kernel_rfl
theorem cb83 : callable Tryz.prog 83 = true := by kernel_rfl
theorem cb84 : callable Tryz.prog 84 = true := by kernel_rfl
theorem cb85 : callable Tryz.prog 85 = true := by kernel_rfl
theorem cb86 : callable Tryz.prog 86 = true := by kernel_rfl
theorem cb87 : callable Tryz.prog 87 = true := by kernel_rfl
theorem cb88 : callable Tryz.prog 88 = true := by kernel_rfl
theorem cb89 : callable Tryz.prog 89 = true := by kernel_rfl
theorem cb90 : callable Tryz.prog 90 = true := by kernel_rfl
theorem cb92 : callable Tryz.prog 92 = true := by kernel_rfl
theorem cb93 : callable Tryz.prog 93 = true := by kernel_rfl
theorem cb94 : callable Tryz.prog 94 = true := by kernel_rfl
theorem cb95 : callable Tryz.prog 95 = true := by kernel_rfl
theorem cb96 : callable Tryz.prog 96 = true := by kernel_rfl
theorem cb97 : callable Tryz.prog 97 = true := by kernel_rfl
theorem cb98 : callable Tryz.prog 98 = true := by kernel_rfl
theorem cb99 : callable Tryz.prog 99 = true := by kernel_rfl
theorem cb100 : callable Tryz.prog 100 = true := by kernel_rfl
theorem cb103 : callable Tryz.prog 103 = true := by kernel_rfl
theorem cb104 : callable Tryz.prog 104 = true := by kernel_rfl
theorem cb106 : callable Tryz.prog 106 = true := by kernel_rfl
theorem cb107 : callable Tryz.prog 107 = true := by kernel_rfl
theorem cb108 : callable Tryz.prog 108 = true := by kernel_rfl
theorem xf91 : IsAdd64 Tryz.prog 91 := ⟨_, Tryz.func91, by kernel_rfl, by kernel_rfl, by kernel_rfl, by kernel_rfl⟩
theorem hmix : Tryz.prog.follows .mixedOrders = true := by kernel_rfl
end Go.Proofs.Ids
