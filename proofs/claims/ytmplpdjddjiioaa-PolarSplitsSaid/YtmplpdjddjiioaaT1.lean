/-
  What the program says of its types, as the generic layer asks. Printed by a program of the prover (tigen.py).
-/
import Derived.Test.YtmplpdjddjiioaaA5
import Derived.Test.YtmplpdjddjiioaaProg
import Derived.KernelRfl
set_option linter.all false
namespace Go.Proofs.Ytmplpdjddjiioaa
open Go.Ab
theorem ti1 : Try.prog.ti 1 = { k := .func, sz := 1, by' := 8, z := some [.nilf] } := by kernel_rfl
theorem ti2 : Try.prog.ti 2 = { k := .int .i64, sz := 1, by' := 8, z := some [.int .i64 0] } := by kernel_rfl
theorem ti3 : Try.prog.ti 3 = { k := .int .i64, sz := 1, by' := 8, z := some [.int .i64 0] } := by kernel_rfl
theorem ti4 : Try.prog.ti 4 = { k := .bool, sz := 1, by' := 1, z := some [.bool false] } := by kernel_rfl
theorem ti5 : Try.prog.ti 5 = { k := .int .u8, sz := 1, by' := 1, z := some [.int .u8 0] } := by kernel_rfl
theorem ti6 : Try.prog.ti 6 = { k := .int .u8, sz := 1, by' := 1, z := some [.int .u8 0] } := by kernel_rfl
theorem ti7 : Try.prog.ti 7 = { k := .struct [(0, 2), (1, 3), (2, 4), (3, 6)], sz := 4, by' := 24, z := some [.int .i64 0, .int .i64 0, .bool false, .int .u8 0] } := by kernel_rfl
theorem ti8 : Try.prog.ti 8 = { k := .struct [(0, 2), (1, 3), (2, 4), (3, 6)], sz := 4, by' := 24, z := some [.int .i64 0, .int .i64 0, .bool false, .int .u8 0] } := by kernel_rfl
theorem ti9 : Try.prog.ti 9 = { k := .str, sz := 1, by' := 16, z := some [.str []] } := by kernel_rfl
theorem ti10 : Try.prog.ti 10 = { k := .str, sz := 1, by' := 16, z := some [.str []] } := by kernel_rfl
theorem ti11 : Try.prog.ti 11 = { k := .str, sz := 1, by' := 16, z := some [.str []] } := by kernel_rfl
theorem ti12 : Try.prog.ti 12 = { k := .int .u64, sz := 1, by' := 8, z := some [.int .u64 0] } := by kernel_rfl
theorem ti13 : Try.prog.ti 13 = { k := .struct [(0, 9), (1, 12)], sz := 2, by' := 24, z := some [.str [], .int .u64 0] } := by kernel_rfl
theorem ti14 : Try.prog.ti 14 = { k := .struct [(0, 9), (1, 12)], sz := 2, by' := 24, z := some [.str [], .int .u64 0] } := by kernel_rfl
theorem ti15 : Try.prog.ti 15 = { k := .ptr 113, sz := 1, by' := 8, z := some [.nilp] } := by kernel_rfl
theorem ti16 : Try.prog.ti 16 = { k := .ptr 116, sz := 1, by' := 8, z := some [.nilp] } := by kernel_rfl
theorem ti17 : Try.prog.ti 17 = { k := .ptr 125, sz := 1, by' := 8, z := some [.nilp] } := by kernel_rfl
theorem ti18 : Try.prog.ti 18 = { k := .struct [(0, 17)], sz := 1, by' := 8, z := some [.nilp] } := by kernel_rfl
theorem ti19 : Try.prog.ti 19 = { k := .struct [(0, 17)], sz := 1, by' := 8, z := some [.nilp] } := by kernel_rfl
theorem ti20 : Try.prog.ti 20 = { k := .ifc, sz := 1, by' := 16, z := some [.nili] } := by kernel_rfl
theorem ti21 : Try.prog.ti 21 = { k := .int .i32, sz := 1, by' := 4, z := some [.int .i32 0] } := by kernel_rfl
theorem ti22 : Try.prog.ti 22 = { k := .slice 52, sz := 1, by' := 24, z := some [.nils] } := by kernel_rfl
theorem ti23 : Try.prog.ti 23 = { k := .struct [(0, 22), (1, 3)], sz := 2, by' := 32, z := some [.nils, .int .i64 0] } := by kernel_rfl
theorem ti24 : Try.prog.ti 24 = { k := .struct [(0, 22), (1, 3)], sz := 2, by' := 32, z := some [.nils, .int .i64 0] } := by kernel_rfl
theorem ti25 : Try.prog.ti 25 = { k := .func, sz := 1, by' := 8, z := some [.nilf] } := by kernel_rfl
theorem ti26 : Try.prog.ti 26 = { k := .slice 3, sz := 1, by' := 24, z := some [.nils] } := by kernel_rfl
theorem ti27 : Try.prog.ti 27 = { k := .int .i64, sz := 1, by' := 8, z := some [.int .i64 0] } := by kernel_rfl
theorem ti29 : Try.prog.ti 29 = { k := .func, sz := 1, by' := 8, z := some [.nilf] } := by kernel_rfl
theorem ti30 : Try.prog.ti 30 = { k := .func, sz := 1, by' := 8, z := some [.nilf] } := by kernel_rfl
theorem ti31 : Try.prog.ti 31 = { k := .func, sz := 1, by' := 8, z := some [.nilf] } := by kernel_rfl
theorem ti33 : Try.prog.ti 33 = { k := .func, sz := 1, by' := 8, z := some [.nilf] } := by kernel_rfl
theorem ti34 : Try.prog.ti 34 = { k := .func, sz := 1, by' := 8, z := some [.nilf] } := by kernel_rfl
theorem ti35 : Try.prog.ti 35 = { k := .func, sz := 1, by' := 8, z := some [.nilf] } := by kernel_rfl
theorem ti36 : Try.prog.ti 36 = { k := .func, sz := 1, by' := 8, z := some [.nilf] } := by kernel_rfl
theorem ti38 : Try.prog.ti 38 = { k := .func, sz := 1, by' := 8, z := some [.nilf] } := by kernel_rfl
theorem ti39 : Try.prog.ti 39 = { k := .slice 47, sz := 1, by' := 24, z := some [.nils] } := by kernel_rfl
theorem ti41 : Try.prog.ti 41 = { k := .func, sz := 1, by' := 8, z := some [.nilf] } := by kernel_rfl
theorem ti42 : Try.prog.ti 42 = { k := .func, sz := 1, by' := 8, z := some [.nilf] } := by kernel_rfl
theorem ti43 : Try.prog.ti 43 = { k := .slice 48, sz := 1, by' := 24, z := some [.nils] } := by kernel_rfl
theorem ti44 : Try.prog.ti 44 = { k := .func, sz := 1, by' := 8, z := some [.nilf] } := by kernel_rfl
theorem ti45 : Try.prog.ti 45 = { k := .func, sz := 1, by' := 8, z := some [.nilf] } := by kernel_rfl
theorem ti46 : Try.prog.ti 46 = { k := .struct [(0, 3), (1, 3)], sz := 2, by' := 16, z := some [.int .i64 0, .int .i64 0] } := by kernel_rfl
theorem ti47 : Try.prog.ti 47 = { k := .struct [(0, 3), (1, 3)], sz := 2, by' := 16, z := some [.int .i64 0, .int .i64 0] } := by kernel_rfl
theorem ti48 : Try.prog.ti 48 = { k := .struct [(0, 3), (1, 3)], sz := 2, by' := 16, z := some [.int .i64 0, .int .i64 0] } := by kernel_rfl
theorem ti49 : Try.prog.ti 49 = { k := .func, sz := 1, by' := 8, z := some [.nilf] } := by kernel_rfl
theorem ti50 : Try.prog.ti 50 = { k := .slice 60, sz := 1, by' := 24, z := some [.nils] } := by kernel_rfl
theorem ti51 : Try.prog.ti 51 = { k := .struct [(0, 3), (1, 3), (2, 3), (3, 50)], sz := 4, by' := 48, z := some [.int .i64 0, .int .i64 0, .int .i64 0, .nils] } := by kernel_rfl
theorem ti52 : Try.prog.ti 52 = { k := .struct [(0, 3), (1, 3), (2, 3), (3, 50)], sz := 4, by' := 48, z := some [.int .i64 0, .int .i64 0, .int .i64 0, .nils] } := by kernel_rfl
theorem ti53 : Try.prog.ti 53 = { k := .map 57 3, sz := 1, by' := 8, z := some [.nilm] } := by kernel_rfl
theorem ti54 : Try.prog.ti 54 = { k := .slice 57, sz := 1, by' := 24, z := some [.nils] } := by kernel_rfl
theorem ti55 : Try.prog.ti 55 = { k := .func, sz := 1, by' := 8, z := some [.nilf] } := by kernel_rfl
theorem ti56 : Try.prog.ti 56 = { k := .struct [(0, 3), (1, 3)], sz := 2, by' := 16, z := some [.int .i64 0, .int .i64 0] } := by kernel_rfl
theorem ti57 : Try.prog.ti 57 = { k := .struct [(0, 3), (1, 3)], sz := 2, by' := 16, z := some [.int .i64 0, .int .i64 0] } := by kernel_rfl
theorem ti58 : Try.prog.ti 58 = { k := .func, sz := 1, by' := 8, z := some [.nilf] } := by kernel_rfl
theorem ti59 : Try.prog.ti 59 = { k := .struct [(0, 9), (1, 3)], sz := 2, by' := 24, z := some [.str [], .int .i64 0] } := by kernel_rfl
theorem ti60 : Try.prog.ti 60 = { k := .struct [(0, 9), (1, 3)], sz := 2, by' := 24, z := some [.str [], .int .i64 0] } := by kernel_rfl
theorem ti61 : Try.prog.ti 61 = { k := .func, sz := 1, by' := 8, z := some [.nilf] } := by kernel_rfl
theorem ti62 : Try.prog.ti 62 = { k := .func, sz := 1, by' := 8, z := some [.nilf] } := by kernel_rfl
theorem ti63 : Try.prog.ti 63 = { k := .slice 4, sz := 1, by' := 24, z := some [.nils] } := by kernel_rfl
theorem ti64 : Try.prog.ti 64 = { k := .func, sz := 1, by' := 8, z := some [.nilf] } := by kernel_rfl
theorem ti65 : Try.prog.ti 65 = { k := .map 3 3, sz := 1, by' := 8, z := some [.nilm] } := by kernel_rfl
theorem ti66 : Try.prog.ti 66 = { k := .func, sz := 1, by' := 8, z := some [.nilf] } := by kernel_rfl
theorem ti67 : Try.prog.ti 67 = { k := .func, sz := 1, by' := 8, z := some [.nilf] } := by kernel_rfl
theorem ti68 : Try.prog.ti 68 = { k := .func, sz := 1, by' := 8, z := some [.nilf] } := by kernel_rfl
theorem ti69 : Try.prog.ti 69 = { k := .func, sz := 1, by' := 8, z := some [.nilf] } := by kernel_rfl
theorem ti70 : Try.prog.ti 70 = { k := .func, sz := 1, by' := 8, z := some [.nilf] } := by kernel_rfl
theorem ti71 : Try.prog.ti 71 = { k := .map 57 4, sz := 1, by' := 8, z := some [.nilm] } := by kernel_rfl
theorem ti72 : Try.prog.ti 72 = { k := .func, sz := 1, by' := 8, z := some [.nilf] } := by kernel_rfl
theorem ti73 : Try.prog.ti 73 = { k := .func, sz := 1, by' := 8, z := some [.nilf] } := by kernel_rfl
theorem ti74 : Try.prog.ti 74 = { k := .func, sz := 1, by' := 8, z := some [.nilf] } := by kernel_rfl
theorem ti75 : Try.prog.ti 75 = { k := .func, sz := 1, by' := 8, z := some [.nilf] } := by kernel_rfl
theorem ti76 : Try.prog.ti 76 = { k := .func, sz := 1, by' := 8, z := some [.nilf] } := by kernel_rfl
theorem ti77 : Try.prog.ti 77 = { k := .func, sz := 1, by' := 8, z := some [.nilf] } := by kernel_rfl
theorem ti78 : Try.prog.ti 78 = { k := .int .u64, sz := 1, by' := 8, z := some [.int .u64 0] } := by kernel_rfl
theorem ti79 : Try.prog.ti 79 = { k := .func, sz := 1, by' := 8, z := some [.nilf] } := by kernel_rfl
theorem ti80 : Try.prog.ti 80 = { k := .func, sz := 1, by' := 8, z := some [.nilf] } := by kernel_rfl
theorem ti81 : Try.prog.ti 81 = { k := .func, sz := 1, by' := 8, z := some [.nilf] } := by kernel_rfl
theorem ti82 : Try.prog.ti 82 = { k := .func, sz := 1, by' := 8, z := some [.nilf] } := by kernel_rfl
theorem ti83 : Try.prog.ti 83 = { k := .func, sz := 1, by' := 8, z := some [.nilf] } := by kernel_rfl
theorem ti84 : Try.prog.ti 84 = { k := .func, sz := 1, by' := 8, z := some [.nilf] } := by kernel_rfl
theorem ti85 : Try.prog.ti 85 = { k := .int .i64, sz := 1, by' := 8, z := some [.int .i64 0] } := by kernel_rfl
theorem ti87 : Try.prog.ti 87 = { k := .func, sz := 1, by' := 8, z := some [.nilf] } := by kernel_rfl
theorem ti88 : Try.prog.ti 88 = { k := .func, sz := 1, by' := 8, z := some [.nilf] } := by kernel_rfl
theorem ti89 : Try.prog.ti 89 = { k := .func, sz := 1, by' := 8, z := some [.nilf] } := by kernel_rfl
theorem ti91 : Try.prog.ti 91 = { k := .func, sz := 1, by' := 8, z := some [.nilf] } := by kernel_rfl
theorem ti92 : Try.prog.ti 92 = { k := .func, sz := 1, by' := 8, z := some [.nilf] } := by kernel_rfl
theorem ti93 : Try.prog.ti 93 = { k := .int .u32, sz := 1, by' := 4, z := some [.int .u32 0] } := by kernel_rfl
theorem ti94 : Try.prog.ti 94 = { k := .func, sz := 1, by' := 8, z := some [.nilf] } := by kernel_rfl
theorem ti95 : Try.prog.ti 95 = { k := .int .u64, sz := 1, by' := 8, z := some [.int .u64 0] } := by kernel_rfl
theorem ti96 : Try.prog.ti 96 = { k := .func, sz := 1, by' := 8, z := some [.nilf] } := by kernel_rfl
theorem ti97 : Try.prog.ti 97 = { k := .func, sz := 1, by' := 8, z := some [.nilf] } := by kernel_rfl
theorem ti98 : Try.prog.ti 98 = { k := .slice 9, sz := 1, by' := 24, z := some [.nils] } := by kernel_rfl
theorem ti99 : Try.prog.ti 99 = { k := .func, sz := 1, by' := 8, z := some [.nilf] } := by kernel_rfl
theorem ti100 : Try.prog.ti 100 = { k := .int .u64, sz := 1, by' := 8, z := some [.int .u64 0] } := by kernel_rfl
theorem ti101 : Try.prog.ti 101 = { k := .func, sz := 1, by' := 8, z := some [.nilf] } := by kernel_rfl
theorem ti102 : Try.prog.ti 102 = { k := .func, sz := 1, by' := 8, z := some [.nilf] } := by kernel_rfl
theorem ti103 : Try.prog.ti 103 = { k := .func, sz := 1, by' := 8, z := some [.nilf] } := by kernel_rfl
theorem ti104 : Try.prog.ti 104 = { k := .ptr 3, sz := 1, by' := 8, z := some [.nilp] } := by kernel_rfl
theorem ti105 : Try.prog.ti 105 = { k := .func, sz := 1, by' := 8, z := some [.nilf] } := by kernel_rfl
theorem ti106 : Try.prog.ti 106 = { k := .ptr 100, sz := 1, by' := 8, z := some [.nilp] } := by kernel_rfl
theorem ti108 : Try.prog.ti 108 = { k := .func, sz := 1, by' := 8, z := some [.nilf] } := by kernel_rfl
theorem ti109 : Try.prog.ti 109 = { k := .func, sz := 1, by' := 8, z := some [.nilf] } := by kernel_rfl
theorem ti110 : Try.prog.ti 110 = { k := .func, sz := 1, by' := 8, z := some [.nilf] } := by kernel_rfl
theorem ti111 : Try.prog.ti 111 = { k := .func, sz := 1, by' := 8, z := some [.nilf] } := by kernel_rfl
theorem ti112 : Try.prog.ti 112 = { k := .struct [(0, 17), (1, 17), (2, 17), (3, 9)], sz := 4, by' := 40, z := some [.nilp, .nilp, .nilp, .str []] } := by kernel_rfl
theorem ti113 : Try.prog.ti 113 = { k := .struct [(0, 17), (1, 17), (2, 17), (3, 9)], sz := 4, by' := 40, z := some [.nilp, .nilp, .nilp, .str []] } := by kernel_rfl
theorem ti114 : Try.prog.ti 114 = { k := .arr 0 16, sz := 0, by' := 0, z := some [] } := by kernel_rfl
theorem ti115 : Try.prog.ti 115 = { k := .struct [(0, 114)], sz := 0, by' := 0, z := some [] } := by kernel_rfl
theorem ti116 : Try.prog.ti 116 = { k := .struct [(0, 114)], sz := 0, by' := 0, z := some [] } := by kernel_rfl
theorem ti117 : Try.prog.ti 117 = { k := .func, sz := 1, by' := 8, z := some [.nilf] } := by kernel_rfl
theorem ti118 : Try.prog.ti 118 = { k := .int .u8, sz := 1, by' := 1, z := some [.int .u8 0] } := by kernel_rfl
theorem ti119 : Try.prog.ti 119 = { k := .int .u8, sz := 1, by' := 1, z := some [.int .u8 0] } := by kernel_rfl
theorem ti120 : Try.prog.ti 120 = { k := .func, sz := 1, by' := 8, z := some [.nilf] } := by kernel_rfl
theorem ti121 : Try.prog.ti 121 = { k := .ptr 5, sz := 1, by' := 8, z := some [.nilp] } := by kernel_rfl
theorem ti122 : Try.prog.ti 122 = { k := .int .i32, sz := 1, by' := 4, z := some [.int .i32 0] } := by kernel_rfl
theorem ti123 : Try.prog.ti 123 = { k := .int .i32, sz := 1, by' := 4, z := some [.int .i32 0] } := by kernel_rfl
theorem ti124 : Try.prog.ti 124 = { k := .struct [(0, 12), (1, 12), (2, 93), (3, 118), (4, 5), (5, 5), (6, 119), (7, 120), (8, 121), (9, 122), (10, 123)], sz := 11, by' := 48, z := some [.int .u64 0, .int .u64 0, .int .u32 0, .int .u8 0, .int .u8 0, .int .u8 0, .int .u8 0, .nilf, .nilp, .int .i32 0, .int .i32 0] } := by kernel_rfl
theorem ti125 : Try.prog.ti 125 = { k := .struct [(0, 12), (1, 12), (2, 93), (3, 118), (4, 5), (5, 5), (6, 119), (7, 120), (8, 121), (9, 122), (10, 123)], sz := 11, by' := 48, z := some [.int .u64 0, .int .u64 0, .int .u32 0, .int .u8 0, .int .u8 0, .int .u8 0, .int .u8 0, .nilf, .nilp, .int .i32 0, .int .i32 0] } := by kernel_rfl
end Go.Proofs.Ytmplpdjddjiioaa
