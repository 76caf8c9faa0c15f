/-
  What the program says of its types, as the generic layer asks. Printed by a program of the prover (tigen.py).
-/
import Derived.Test.YtjoneaifakonjaaDoorA5
import Derived.Test.YtjoneaifakonjaaDoorProg
import Derived.KernelRfl
set_option linter.all false
namespace Go.Proofs.YtjoneaifakonjaaDoor
open Go.Ab
theorem ti1 : Tryd.prog.ti 1 = { k := .func, sz := 1, by' := 8, z := some [.nilf] } := by kernel_rfl
theorem ti2 : Tryd.prog.ti 2 = { k := .int .i64, sz := 1, by' := 8, z := some [.int .i64 0] } := by kernel_rfl
theorem ti3 : Tryd.prog.ti 3 = { k := .int .i64, sz := 1, by' := 8, z := some [.int .i64 0] } := by kernel_rfl
theorem ti4 : Tryd.prog.ti 4 = { k := .bool, sz := 1, by' := 1, z := some [.bool false] } := by kernel_rfl
theorem ti5 : Tryd.prog.ti 5 = { k := .int .u8, sz := 1, by' := 1, z := some [.int .u8 0] } := by kernel_rfl
theorem ti6 : Tryd.prog.ti 6 = { k := .int .u8, sz := 1, by' := 1, z := some [.int .u8 0] } := by kernel_rfl
theorem ti7 : Tryd.prog.ti 7 = { k := .struct [(0, 2), (1, 3), (2, 4), (3, 6)], sz := 4, by' := 24, z := some [.int .i64 0, .int .i64 0, .bool false, .int .u8 0] } := by kernel_rfl
theorem ti8 : Tryd.prog.ti 8 = { k := .struct [(0, 2), (1, 3), (2, 4), (3, 6)], sz := 4, by' := 24, z := some [.int .i64 0, .int .i64 0, .bool false, .int .u8 0] } := by kernel_rfl
theorem ti9 : Tryd.prog.ti 9 = { k := .str, sz := 1, by' := 16, z := some [.str []] } := by kernel_rfl
theorem ti10 : Tryd.prog.ti 10 = { k := .str, sz := 1, by' := 16, z := some [.str []] } := by kernel_rfl
theorem ti11 : Tryd.prog.ti 11 = { k := .str, sz := 1, by' := 16, z := some [.str []] } := by kernel_rfl
theorem ti12 : Tryd.prog.ti 12 = { k := .int .u64, sz := 1, by' := 8, z := some [.int .u64 0] } := by kernel_rfl
theorem ti13 : Tryd.prog.ti 13 = { k := .struct [(0, 9), (1, 12)], sz := 2, by' := 24, z := some [.str [], .int .u64 0] } := by kernel_rfl
theorem ti14 : Tryd.prog.ti 14 = { k := .struct [(0, 9), (1, 12)], sz := 2, by' := 24, z := some [.str [], .int .u64 0] } := by kernel_rfl
theorem ti15 : Tryd.prog.ti 15 = { k := .ptr 99, sz := 1, by' := 8, z := some [.nilp] } := by kernel_rfl
theorem ti16 : Tryd.prog.ti 16 = { k := .ptr 102, sz := 1, by' := 8, z := some [.nilp] } := by kernel_rfl
theorem ti17 : Tryd.prog.ti 17 = { k := .ptr 111, sz := 1, by' := 8, z := some [.nilp] } := by kernel_rfl
theorem ti18 : Tryd.prog.ti 18 = { k := .struct [(0, 17)], sz := 1, by' := 8, z := some [.nilp] } := by kernel_rfl
theorem ti19 : Tryd.prog.ti 19 = { k := .struct [(0, 17)], sz := 1, by' := 8, z := some [.nilp] } := by kernel_rfl
theorem ti20 : Tryd.prog.ti 20 = { k := .ifc, sz := 1, by' := 16, z := some [.nili] } := by kernel_rfl
theorem ti21 : Tryd.prog.ti 21 = { k := .int .i32, sz := 1, by' := 4, z := some [.int .i32 0] } := by kernel_rfl
theorem ti22 : Tryd.prog.ti 22 = { k := .slice 37, sz := 1, by' := 24, z := some [.nils] } := by kernel_rfl
theorem ti23 : Tryd.prog.ti 23 = { k := .struct [(0, 22), (1, 3)], sz := 2, by' := 32, z := some [.nils, .int .i64 0] } := by kernel_rfl
theorem ti24 : Tryd.prog.ti 24 = { k := .struct [(0, 22), (1, 3)], sz := 2, by' := 32, z := some [.nils, .int .i64 0] } := by kernel_rfl
theorem ti25 : Tryd.prog.ti 25 = { k := .func, sz := 1, by' := 8, z := some [.nilf] } := by kernel_rfl
theorem ti26 : Tryd.prog.ti 26 = { k := .func, sz := 1, by' := 8, z := some [.nilf] } := by kernel_rfl
theorem ti27 : Tryd.prog.ti 27 = { k := .int .i64, sz := 1, by' := 8, z := some [.int .i64 0] } := by kernel_rfl
theorem ti29 : Tryd.prog.ti 29 = { k := .func, sz := 1, by' := 8, z := some [.nilf] } := by kernel_rfl
theorem ti31 : Tryd.prog.ti 31 = { k := .func, sz := 1, by' := 8, z := some [.nilf] } := by kernel_rfl
theorem ti32 : Tryd.prog.ti 32 = { k := .func, sz := 1, by' := 8, z := some [.nilf] } := by kernel_rfl
theorem ti33 : Tryd.prog.ti 33 = { k := .struct [(0, 9), (1, 3)], sz := 2, by' := 24, z := some [.str [], .int .i64 0] } := by kernel_rfl
theorem ti34 : Tryd.prog.ti 34 = { k := .struct [(0, 9), (1, 3)], sz := 2, by' := 24, z := some [.str [], .int .i64 0] } := by kernel_rfl
theorem ti35 : Tryd.prog.ti 35 = { k := .slice 34, sz := 1, by' := 24, z := some [.nils] } := by kernel_rfl
theorem ti36 : Tryd.prog.ti 36 = { k := .struct [(0, 3), (1, 3), (2, 3), (3, 35)], sz := 4, by' := 48, z := some [.int .i64 0, .int .i64 0, .int .i64 0, .nils] } := by kernel_rfl
theorem ti37 : Tryd.prog.ti 37 = { k := .struct [(0, 3), (1, 3), (2, 3), (3, 35)], sz := 4, by' := 48, z := some [.int .i64 0, .int .i64 0, .int .i64 0, .nils] } := by kernel_rfl
theorem ti38 : Tryd.prog.ti 38 = { k := .func, sz := 1, by' := 8, z := some [.nilf] } := by kernel_rfl
theorem ti39 : Tryd.prog.ti 39 = { k := .ptr 43, sz := 1, by' := 8, z := some [.nilp] } := by kernel_rfl
theorem ti40 : Tryd.prog.ti 40 = { k := .map 3 3, sz := 1, by' := 8, z := some [.nilm] } := by kernel_rfl
theorem ti41 : Tryd.prog.ti 41 = { k := .slice 3, sz := 1, by' := 24, z := some [.nils] } := by kernel_rfl
theorem ti42 : Tryd.prog.ti 42 = { k := .struct [(0, 24), (2, 40), (3, 41), (4, 4)], sz := 5, by' := 72, z := some [.nils, .int .i64 0, .nilm, .nils, .bool false] } := by kernel_rfl
theorem ti43 : Tryd.prog.ti 43 = { k := .struct [(0, 24), (2, 40), (3, 41), (4, 4)], sz := 5, by' := 72, z := some [.nils, .int .i64 0, .nilm, .nils, .bool false] } := by kernel_rfl
theorem ti44 : Tryd.prog.ti 44 = { k := .map 3 4, sz := 1, by' := 8, z := some [.nilm] } := by kernel_rfl
theorem ti45 : Tryd.prog.ti 45 = { k := .struct [(0, 9), (1, 3), (2, 44)], sz := 3, by' := 32, z := some [.str [], .int .i64 0, .nilm] } := by kernel_rfl
theorem ti46 : Tryd.prog.ti 46 = { k := .struct [(0, 9), (1, 3), (2, 44)], sz := 3, by' := 32, z := some [.str [], .int .i64 0, .nilm] } := by kernel_rfl
theorem ti47 : Tryd.prog.ti 47 = { k := .func, sz := 1, by' := 8, z := some [.nilf] } := by kernel_rfl
theorem ti48 : Tryd.prog.ti 48 = { k := .func, sz := 1, by' := 8, z := some [.nilf] } := by kernel_rfl
theorem ti49 : Tryd.prog.ti 49 = { k := .func, sz := 1, by' := 8, z := some [.nilf] } := by kernel_rfl
theorem ti50 : Tryd.prog.ti 50 = { k := .func, sz := 1, by' := 8, z := some [.nilf] } := by kernel_rfl
theorem ti51 : Tryd.prog.ti 51 = { k := .func, sz := 1, by' := 8, z := some [.nilf] } := by kernel_rfl
theorem ti52 : Tryd.prog.ti 52 = { k := .func, sz := 1, by' := 8, z := some [.nilf] } := by kernel_rfl
theorem ti53 : Tryd.prog.ti 53 = { k := .func, sz := 1, by' := 8, z := some [.nilf] } := by kernel_rfl
theorem ti54 : Tryd.prog.ti 54 = { k := .func, sz := 1, by' := 8, z := some [.nilf] } := by kernel_rfl
theorem ti55 : Tryd.prog.ti 55 = { k := .func, sz := 1, by' := 8, z := some [.nilf] } := by kernel_rfl
theorem ti56 : Tryd.prog.ti 56 = { k := .func, sz := 1, by' := 8, z := some [.nilf] } := by kernel_rfl
theorem ti57 : Tryd.prog.ti 57 = { k := .func, sz := 1, by' := 8, z := some [.nilf] } := by kernel_rfl
theorem ti58 : Tryd.prog.ti 58 = { k := .func, sz := 1, by' := 8, z := some [.nilf] } := by kernel_rfl
theorem ti59 : Tryd.prog.ti 59 = { k := .func, sz := 1, by' := 8, z := some [.nilf] } := by kernel_rfl
theorem ti60 : Tryd.prog.ti 60 = { k := .func, sz := 1, by' := 8, z := some [.nilf] } := by kernel_rfl
theorem ti61 : Tryd.prog.ti 61 = { k := .func, sz := 1, by' := 8, z := some [.nilf] } := by kernel_rfl
theorem ti62 : Tryd.prog.ti 62 = { k := .func, sz := 1, by' := 8, z := some [.nilf] } := by kernel_rfl
theorem ti63 : Tryd.prog.ti 63 = { k := .slice 4, sz := 1, by' := 24, z := some [.nils] } := by kernel_rfl
theorem ti64 : Tryd.prog.ti 64 = { k := .func, sz := 1, by' := 8, z := some [.nilf] } := by kernel_rfl
theorem ti65 : Tryd.prog.ti 65 = { k := .func, sz := 1, by' := 8, z := some [.nilf] } := by kernel_rfl
theorem ti66 : Tryd.prog.ti 66 = { k := .func, sz := 1, by' := 8, z := some [.nilf] } := by kernel_rfl
theorem ti67 : Tryd.prog.ti 67 = { k := .slice 46, sz := 1, by' := 24, z := some [.nils] } := by kernel_rfl
theorem ti68 : Tryd.prog.ti 68 = { k := .func, sz := 1, by' := 8, z := some [.nilf] } := by kernel_rfl
theorem ti69 : Tryd.prog.ti 69 = { k := .func, sz := 1, by' := 8, z := some [.nilf] } := by kernel_rfl
theorem ti70 : Tryd.prog.ti 70 = { k := .func, sz := 1, by' := 8, z := some [.nilf] } := by kernel_rfl
theorem ti71 : Tryd.prog.ti 71 = { k := .func, sz := 1, by' := 8, z := some [.nilf] } := by kernel_rfl
theorem ti72 : Tryd.prog.ti 72 = { k := .func, sz := 1, by' := 8, z := some [.nilf] } := by kernel_rfl
theorem ti74 : Tryd.prog.ti 74 = { k := .func, sz := 1, by' := 8, z := some [.nilf] } := by kernel_rfl
theorem ti75 : Tryd.prog.ti 75 = { k := .func, sz := 1, by' := 8, z := some [.nilf] } := by kernel_rfl
theorem ti76 : Tryd.prog.ti 76 = { k := .func, sz := 1, by' := 8, z := some [.nilf] } := by kernel_rfl
theorem ti77 : Tryd.prog.ti 77 = { k := .func, sz := 1, by' := 8, z := some [.nilf] } := by kernel_rfl
theorem ti78 : Tryd.prog.ti 78 = { k := .slice 9, sz := 1, by' := 24, z := some [.nils] } := by kernel_rfl
theorem ti79 : Tryd.prog.ti 79 = { k := .func, sz := 1, by' := 8, z := some [.nilf] } := by kernel_rfl
theorem ti80 : Tryd.prog.ti 80 = { k := .arr 24 5, sz := 24, by' := 24, z := some [.int .u8 0, .int .u8 0, .int .u8 0, .int .u8 0, .int .u8 0, .int .u8 0, .int .u8 0, .int .u8 0, .int .u8 0, .int .u8 0, .int .u8 0, .int .u8 0, .int .u8 0, .int .u8 0, .int .u8 0, .int .u8 0, .int .u8 0, .int .u8 0, .int .u8 0, .int .u8 0, .int .u8 0, .int .u8 0, .int .u8 0, .int .u8 0] } := by kernel_rfl
theorem ti81 : Tryd.prog.ti 81 = { k := .int .u64, sz := 1, by' := 8, z := some [.int .u64 0] } := by kernel_rfl
theorem ti82 : Tryd.prog.ti 82 = { k := .func, sz := 1, by' := 8, z := some [.nilf] } := by kernel_rfl
theorem ti83 : Tryd.prog.ti 83 = { k := .func, sz := 1, by' := 8, z := some [.nilf] } := by kernel_rfl
theorem ti84 : Tryd.prog.ti 84 = { k := .slice 5, sz := 1, by' := 24, z := some [.nils] } := by kernel_rfl
theorem ti86 : Tryd.prog.ti 86 = { k := .func, sz := 1, by' := 8, z := some [.nilf] } := by kernel_rfl
theorem ti87 : Tryd.prog.ti 87 = { k := .func, sz := 1, by' := 8, z := some [.nilf] } := by kernel_rfl
theorem ti88 : Tryd.prog.ti 88 = { k := .func, sz := 1, by' := 8, z := some [.nilf] } := by kernel_rfl
theorem ti89 : Tryd.prog.ti 89 = { k := .arr 20 81, sz := 20, by' := 160, z := some [.int .u64 0, .int .u64 0, .int .u64 0, .int .u64 0, .int .u64 0, .int .u64 0, .int .u64 0, .int .u64 0, .int .u64 0, .int .u64 0, .int .u64 0, .int .u64 0, .int .u64 0, .int .u64 0, .int .u64 0, .int .u64 0, .int .u64 0, .int .u64 0, .int .u64 0, .int .u64 0] } := by kernel_rfl
theorem ti90 : Tryd.prog.ti 90 = { k := .int .u32, sz := 1, by' := 4, z := some [.int .u32 0] } := by kernel_rfl
theorem ti92 : Tryd.prog.ti 92 = { k := .int .u64, sz := 1, by' := 8, z := some [.int .u64 0] } := by kernel_rfl
theorem ti93 : Tryd.prog.ti 93 = { k := .func, sz := 1, by' := 8, z := some [.nilf] } := by kernel_rfl
theorem ti94 : Tryd.prog.ti 94 = { k := .func, sz := 1, by' := 8, z := some [.nilf] } := by kernel_rfl
theorem ti95 : Tryd.prog.ti 95 = { k := .arr 32 5, sz := 32, by' := 32, z := some [.int .u8 0, .int .u8 0, .int .u8 0, .int .u8 0, .int .u8 0, .int .u8 0, .int .u8 0, .int .u8 0, .int .u8 0, .int .u8 0, .int .u8 0, .int .u8 0, .int .u8 0, .int .u8 0, .int .u8 0, .int .u8 0, .int .u8 0, .int .u8 0, .int .u8 0, .int .u8 0, .int .u8 0, .int .u8 0, .int .u8 0, .int .u8 0, .int .u8 0, .int .u8 0, .int .u8 0, .int .u8 0, .int .u8 0, .int .u8 0, .int .u8 0, .int .u8 0] } := by kernel_rfl
theorem ti97 : Tryd.prog.ti 97 = { k := .func, sz := 1, by' := 8, z := some [.nilf] } := by kernel_rfl
theorem ti98 : Tryd.prog.ti 98 = { k := .struct [(0, 17), (1, 17), (2, 17), (3, 9)], sz := 4, by' := 40, z := some [.nilp, .nilp, .nilp, .str []] } := by kernel_rfl
theorem ti99 : Tryd.prog.ti 99 = { k := .struct [(0, 17), (1, 17), (2, 17), (3, 9)], sz := 4, by' := 40, z := some [.nilp, .nilp, .nilp, .str []] } := by kernel_rfl
theorem ti100 : Tryd.prog.ti 100 = { k := .arr 0 16, sz := 0, by' := 0, z := some [] } := by kernel_rfl
theorem ti101 : Tryd.prog.ti 101 = { k := .struct [(0, 100)], sz := 0, by' := 0, z := some [] } := by kernel_rfl
theorem ti102 : Tryd.prog.ti 102 = { k := .struct [(0, 100)], sz := 0, by' := 0, z := some [] } := by kernel_rfl
theorem ti103 : Tryd.prog.ti 103 = { k := .func, sz := 1, by' := 8, z := some [.nilf] } := by kernel_rfl
theorem ti104 : Tryd.prog.ti 104 = { k := .int .u8, sz := 1, by' := 1, z := some [.int .u8 0] } := by kernel_rfl
theorem ti105 : Tryd.prog.ti 105 = { k := .int .u8, sz := 1, by' := 1, z := some [.int .u8 0] } := by kernel_rfl
theorem ti106 : Tryd.prog.ti 106 = { k := .func, sz := 1, by' := 8, z := some [.nilf] } := by kernel_rfl
theorem ti107 : Tryd.prog.ti 107 = { k := .ptr 5, sz := 1, by' := 8, z := some [.nilp] } := by kernel_rfl
theorem ti108 : Tryd.prog.ti 108 = { k := .int .i32, sz := 1, by' := 4, z := some [.int .i32 0] } := by kernel_rfl
theorem ti109 : Tryd.prog.ti 109 = { k := .int .i32, sz := 1, by' := 4, z := some [.int .i32 0] } := by kernel_rfl
theorem ti110 : Tryd.prog.ti 110 = { k := .struct [(0, 12), (1, 12), (2, 90), (3, 104), (4, 5), (5, 5), (6, 105), (7, 106), (8, 107), (9, 108), (10, 109)], sz := 11, by' := 48, z := some [.int .u64 0, .int .u64 0, .int .u32 0, .int .u8 0, .int .u8 0, .int .u8 0, .int .u8 0, .nilf, .nilp, .int .i32 0, .int .i32 0] } := by kernel_rfl
theorem ti111 : Tryd.prog.ti 111 = { k := .struct [(0, 12), (1, 12), (2, 90), (3, 104), (4, 5), (5, 5), (6, 105), (7, 106), (8, 107), (9, 108), (10, 109)], sz := 11, by' := 48, z := some [.int .u64 0, .int .u64 0, .int .u32 0, .int .u8 0, .int .u8 0, .int .u8 0, .int .u8 0, .nilf, .nilp, .int .i32 0, .int .i32 0] } := by kernel_rfl
end Go.Proofs.YtjoneaifakonjaaDoor
