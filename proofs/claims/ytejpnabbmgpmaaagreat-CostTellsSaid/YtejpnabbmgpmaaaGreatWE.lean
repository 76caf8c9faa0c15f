/-
  What the program says of its types, as the generic layer asks. Printed by a program of the prover (tigen.py). (with the parts that follow it)
-/
import Derived.Test.YtejpnabbmgpmaaaGreatWA
import Derived.Test.YtejpnabbmgpmaaaGreatWB
import Derived.Test.YtejpnabbmgpmaaaGreatWC
import Derived.Test.YtejpnabbmgpmaaaGreatProg
import Derived.KernelRfl
set_option linter.unusedSimpArgs false
namespace Go.Proofs.YtejpnabbmgpmaaaGreat
open Go.Ab
theorem ti1 : Tryz.prog.ti 1 = { k := .func, sz := 1, by' := 8, z := some [.nilf] } := by kernel_rfl
theorem ti2 : Tryz.prog.ti 2 = { k := .int .i64, sz := 1, by' := 8, z := some [.int .i64 0] } := by kernel_rfl
theorem ti3 : Tryz.prog.ti 3 = { k := .int .i64, sz := 1, by' := 8, z := some [.int .i64 0] } := by kernel_rfl
theorem ti4 : Tryz.prog.ti 4 = { k := .bool, sz := 1, by' := 1, z := some [.bool false] } := by kernel_rfl
theorem ti5 : Tryz.prog.ti 5 = { k := .int .u8, sz := 1, by' := 1, z := some [.int .u8 0] } := by kernel_rfl
theorem ti6 : Tryz.prog.ti 6 = { k := .int .u8, sz := 1, by' := 1, z := some [.int .u8 0] } := by kernel_rfl
theorem ti7 : Tryz.prog.ti 7 = { k := .struct [(0, 2), (1, 3), (2, 4), (3, 6)], sz := 4, by' := 24, z := some [.int .i64 0, .int .i64 0, .bool false, .int .u8 0] } := by kernel_rfl
theorem ti8 : Tryz.prog.ti 8 = { k := .struct [(0, 2), (1, 3), (2, 4), (3, 6)], sz := 4, by' := 24, z := some [.int .i64 0, .int .i64 0, .bool false, .int .u8 0] } := by kernel_rfl
theorem ti9 : Tryz.prog.ti 9 = { k := .str, sz := 1, by' := 16, z := some [.str []] } := by kernel_rfl
theorem ti10 : Tryz.prog.ti 10 = { k := .str, sz := 1, by' := 16, z := some [.str []] } := by kernel_rfl
theorem ti11 : Tryz.prog.ti 11 = { k := .str, sz := 1, by' := 16, z := some [.str []] } := by kernel_rfl
theorem ti12 : Tryz.prog.ti 12 = { k := .int .u64, sz := 1, by' := 8, z := some [.int .u64 0] } := by kernel_rfl
theorem ti13 : Tryz.prog.ti 13 = { k := .struct [(0, 9), (1, 12)], sz := 2, by' := 24, z := some [.str [], .int .u64 0] } := by kernel_rfl
theorem ti14 : Tryz.prog.ti 14 = { k := .struct [(0, 9), (1, 12)], sz := 2, by' := 24, z := some [.str [], .int .u64 0] } := by kernel_rfl
theorem ti15 : Tryz.prog.ti 15 = { k := .ptr 380, sz := 1, by' := 8, z := some [.nilp] } := by kernel_rfl
theorem ti16 : Tryz.prog.ti 16 = { k := .ptr 383, sz := 1, by' := 8, z := some [.nilp] } := by kernel_rfl
theorem ti17 : Tryz.prog.ti 17 = { k := .ptr 391, sz := 1, by' := 8, z := some [.nilp] } := by kernel_rfl
theorem ti18 : Tryz.prog.ti 18 = { k := .struct [(0, 17)], sz := 1, by' := 8, z := some [.nilp] } := by kernel_rfl
theorem ti19 : Tryz.prog.ti 19 = { k := .struct [(0, 17)], sz := 1, by' := 8, z := some [.nilp] } := by kernel_rfl
theorem ti20 : Tryz.prog.ti 20 = { k := .ifc, sz := 1, by' := 16, z := some [.nili] } := by kernel_rfl
theorem ti21 : Tryz.prog.ti 21 = { k := .int .i32, sz := 1, by' := 4, z := some [.int .i32 0] } := by kernel_rfl
theorem ti22 : Tryz.prog.ti 22 = { k := .func, sz := 1, by' := 8, z := some [.nilf] } := by kernel_rfl
theorem ti23 : Tryz.prog.ti 23 = { k := .func, sz := 1, by' := 8, z := some [.nilf] } := by kernel_rfl
theorem ti24 : Tryz.prog.ti 24 = { k := .slice 84, sz := 1, by' := 24, z := some [.nils] } := by kernel_rfl
theorem ti25 : Tryz.prog.ti 25 = { k := .struct [(0, 24)], sz := 1, by' := 24, z := some [.nils] } := by kernel_rfl
theorem ti26 : Tryz.prog.ti 26 = { k := .struct [(0, 24)], sz := 1, by' := 24, z := some [.nils] } := by kernel_rfl
theorem ti27 : Tryz.prog.ti 27 = { k := .int .i64, sz := 1, by' := 8, z := some [.int .i64 0] } := by kernel_rfl
theorem ti29 : Tryz.prog.ti 29 = { k := .func, sz := 1, by' := 8, z := some [.nilf] } := by kernel_rfl
theorem ti31 : Tryz.prog.ti 31 = { k := .func, sz := 1, by' := 8, z := some [.nilf] } := by kernel_rfl
theorem ti32 : Tryz.prog.ti 32 = { k := .func, sz := 1, by' := 8, z := some [.nilf] } := by kernel_rfl
theorem ti33 : Tryz.prog.ti 33 = { k := .func, sz := 1, by' := 8, z := some [.nilf] } := by kernel_rfl
theorem ti34 : Tryz.prog.ti 34 = { k := .func, sz := 1, by' := 8, z := some [.nilf] } := by kernel_rfl
theorem ti35 : Tryz.prog.ti 35 = { k := .struct [(0, 3), (1, 3), (2, 3), (3, 3)], sz := 4, by' := 32, z := some [.int .i64 0, .int .i64 0, .int .i64 0, .int .i64 0] } := by kernel_rfl
theorem ti36 : Tryz.prog.ti 36 = { k := .struct [(0, 3), (1, 3), (2, 3), (3, 3)], sz := 4, by' := 32, z := some [.int .i64 0, .int .i64 0, .int .i64 0, .int .i64 0] } := by kernel_rfl
theorem ti37 : Tryz.prog.ti 37 = { k := .func, sz := 1, by' := 8, z := some [.nilf] } := by kernel_rfl
theorem ti38 : Tryz.prog.ti 38 = { k := .func, sz := 1, by' := 8, z := some [.nilf] } := by kernel_rfl
theorem ti39 : Tryz.prog.ti 39 = { k := .func, sz := 1, by' := 8, z := some [.nilf] } := by kernel_rfl
theorem ti40 : Tryz.prog.ti 40 = { k := .func, sz := 1, by' := 8, z := some [.nilf] } := by kernel_rfl
theorem ti41 : Tryz.prog.ti 41 = { k := .func, sz := 1, by' := 8, z := some [.nilf] } := by kernel_rfl
theorem ti42 : Tryz.prog.ti 42 = { k := .func, sz := 1, by' := 8, z := some [.nilf] } := by kernel_rfl
theorem ti43 : Tryz.prog.ti 43 = { k := .int .u16, sz := 1, by' := 2, z := some [.int .u16 0] } := by kernel_rfl
theorem ti44 : Tryz.prog.ti 44 = { k := .func, sz := 1, by' := 8, z := some [.nilf] } := by kernel_rfl
theorem ti45 : Tryz.prog.ti 45 = { k := .func, sz := 1, by' := 8, z := some [.nilf] } := by kernel_rfl
theorem ti46 : Tryz.prog.ti 46 = { k := .func, sz := 1, by' := 8, z := some [.nilf] } := by kernel_rfl
theorem ti47 : Tryz.prog.ti 47 = { k := .func, sz := 1, by' := 8, z := some [.nilf] } := by kernel_rfl
theorem ti48 : Tryz.prog.ti 48 = { k := .func, sz := 1, by' := 8, z := some [.nilf] } := by kernel_rfl
theorem ti50 : Tryz.prog.ti 50 = { k := .func, sz := 1, by' := 8, z := some [.nilf] } := by kernel_rfl
theorem ti51 : Tryz.prog.ti 51 = { k := .func, sz := 1, by' := 8, z := some [.nilf] } := by kernel_rfl
theorem ti52 : Tryz.prog.ti 52 = { k := .slice 184, sz := 1, by' := 24, z := some [.nils] } := by kernel_rfl
theorem ti53 : Tryz.prog.ti 53 = { k := .struct [(0, 3), (1, 2), (2, 9), (3, 52)], sz := 4, by' := 56, z := some [.int .i64 0, .int .i64 0, .str [], .nils] } := by kernel_rfl
theorem ti54 : Tryz.prog.ti 54 = { k := .struct [(0, 3), (1, 2), (2, 9), (3, 52)], sz := 4, by' := 56, z := some [.int .i64 0, .int .i64 0, .str [], .nils] } := by kernel_rfl
theorem ti55 : Tryz.prog.ti 55 = { k := .struct [(0, 3), (1, 54), (5, 3)], sz := 6, by' := 72, z := some [.int .i64 0, .int .i64 0, .int .i64 0, .str [], .nils, .int .i64 0] } := by kernel_rfl
theorem ti56 : Tryz.prog.ti 56 = { k := .struct [(0, 3), (1, 54), (5, 3)], sz := 6, by' := 72, z := some [.int .i64 0, .int .i64 0, .int .i64 0, .str [], .nils, .int .i64 0] } := by kernel_rfl
theorem ti58 : Tryz.prog.ti 58 = { k := .func, sz := 1, by' := 8, z := some [.nilf] } := by kernel_rfl
theorem ti59 : Tryz.prog.ti 59 = { k := .func, sz := 1, by' := 8, z := some [.nilf] } := by kernel_rfl
theorem ti60 : Tryz.prog.ti 60 = { k := .func, sz := 1, by' := 8, z := some [.nilf] } := by kernel_rfl
theorem ti62 : Tryz.prog.ti 62 = { k := .func, sz := 1, by' := 8, z := some [.nilf] } := by kernel_rfl
theorem ti63 : Tryz.prog.ti 63 = { k := .func, sz := 1, by' := 8, z := some [.nilf] } := by kernel_rfl
theorem ti64 : Tryz.prog.ti 64 = { k := .slice 71, sz := 1, by' := 24, z := some [.nils] } := by kernel_rfl
theorem ti66 : Tryz.prog.ti 66 = { k := .func, sz := 1, by' := 8, z := some [.nilf] } := by kernel_rfl
theorem ti67 : Tryz.prog.ti 67 = { k := .slice 138, sz := 1, by' := 24, z := some [.nils] } := by kernel_rfl
theorem ti68 : Tryz.prog.ti 68 = { k := .struct [(0, 67), (1, 3)], sz := 2, by' := 32, z := some [.nils, .int .i64 0] } := by kernel_rfl
theorem ti69 : Tryz.prog.ti 69 = { k := .struct [(0, 67), (1, 3)], sz := 2, by' := 32, z := some [.nils, .int .i64 0] } := by kernel_rfl
theorem ti70 : Tryz.prog.ti 70 = { k := .struct [(0, 3), (1, 3), (2, 9), (3, 26), (4, 69)], sz := 6, by' := 88, z := some [.int .i64 0, .int .i64 0, .str [], .nils, .nils, .int .i64 0] } := by kernel_rfl
theorem ti71 : Tryz.prog.ti 71 = { k := .struct [(0, 3), (1, 3), (2, 9), (3, 26), (4, 69)], sz := 6, by' := 88, z := some [.int .i64 0, .int .i64 0, .str [], .nils, .nils, .int .i64 0] } := by kernel_rfl
theorem ti72 : Tryz.prog.ti 72 = { k := .func, sz := 1, by' := 8, z := some [.nilf] } := by kernel_rfl
theorem ti73 : Tryz.prog.ti 73 = { k := .func, sz := 1, by' := 8, z := some [.nilf] } := by kernel_rfl
theorem ti74 : Tryz.prog.ti 74 = { k := .slice 79, sz := 1, by' := 24, z := some [.nils] } := by kernel_rfl
theorem ti76 : Tryz.prog.ti 76 = { k := .func, sz := 1, by' := 8, z := some [.nilf] } := by kernel_rfl
theorem ti77 : Tryz.prog.ti 77 = { k := .func, sz := 1, by' := 8, z := some [.nilf] } := by kernel_rfl
theorem ti78 : Tryz.prog.ti 78 = { k := .func, sz := 1, by' := 8, z := some [.nilf] } := by kernel_rfl
theorem ti79 : Tryz.prog.ti 79 = { k := .struct [(0, 3), (1, 3), (2, 9), (3, 26), (4, 69)], sz := 6, by' := 88, z := some [.int .i64 0, .int .i64 0, .str [], .nils, .nils, .int .i64 0] } := by kernel_rfl
theorem ti80 : Tryz.prog.ti 80 = { k := .func, sz := 1, by' := 8, z := some [.nilf] } := by kernel_rfl
theorem ti81 : Tryz.prog.ti 81 = { k := .func, sz := 1, by' := 8, z := some [.nilf] } := by kernel_rfl
theorem ti82 : Tryz.prog.ti 82 = { k := .slice 177, sz := 1, by' := 24, z := some [.nils] } := by kernel_rfl
theorem ti83 : Tryz.prog.ti 83 = { k := .struct [(0, 3), (1, 3), (2, 3), (3, 3), (4, 2), (5, 9), (6, 9), (7, 82), (8, 3)], sz := 9, by' := 104, z := some [.int .i64 0, .int .i64 0, .int .i64 0, .int .i64 0, .int .i64 0, .str [], .str [], .nils, .int .i64 0] } := by kernel_rfl
theorem ti84 : Tryz.prog.ti 84 = { k := .struct [(0, 3), (1, 3), (2, 3), (3, 3), (4, 2), (5, 9), (6, 9), (7, 82), (8, 3)], sz := 9, by' := 104, z := some [.int .i64 0, .int .i64 0, .int .i64 0, .int .i64 0, .int .i64 0, .str [], .str [], .nils, .int .i64 0] } := by kernel_rfl
theorem ti85 : Tryz.prog.ti 85 = { k := .slice 111, sz := 1, by' := 24, z := some [.nils] } := by kernel_rfl
theorem ti87 : Tryz.prog.ti 87 = { k := .func, sz := 1, by' := 8, z := some [.nilf] } := by kernel_rfl
theorem ti88 : Tryz.prog.ti 88 = { k := .ptr 92, sz := 1, by' := 8, z := some [.nilp] } := by kernel_rfl
theorem ti89 : Tryz.prog.ti 89 = { k := .ptr 157, sz := 1, by' := 8, z := some [.nilp] } := by kernel_rfl
theorem ti90 : Tryz.prog.ti 90 = { k := .func, sz := 1, by' := 8, z := some [.nilf] } := by kernel_rfl
theorem ti91 : Tryz.prog.ti 91 = { k := .struct [(0, 89), (1, 27), (2, 3), (3, 3)], sz := 4, by' := 32, z := some [.nilp, .int .i64 0, .int .i64 0, .int .i64 0] } := by kernel_rfl
theorem ti92 : Tryz.prog.ti 92 = { k := .struct [(0, 89), (1, 27), (2, 3), (3, 3)], sz := 4, by' := 32, z := some [.nilp, .int .i64 0, .int .i64 0, .int .i64 0] } := by kernel_rfl
theorem ti93 : Tryz.prog.ti 93 = { k := .func, sz := 1, by' := 8, z := some [.nilf] } := by kernel_rfl
theorem ti94 : Tryz.prog.ti 94 = { k := .func, sz := 1, by' := 8, z := some [.nilf] } := by kernel_rfl
theorem ti95 : Tryz.prog.ti 95 = { k := .slice 3, sz := 1, by' := 24, z := some [.nils] } := by kernel_rfl
theorem ti96 : Tryz.prog.ti 96 = { k := .func, sz := 1, by' := 8, z := some [.nilf] } := by kernel_rfl
theorem ti97 : Tryz.prog.ti 97 = { k := .func, sz := 1, by' := 8, z := some [.nilf] } := by kernel_rfl
theorem ti98 : Tryz.prog.ti 98 = { k := .func, sz := 1, by' := 8, z := some [.nilf] } := by kernel_rfl
theorem ti99 : Tryz.prog.ti 99 = { k := .func, sz := 1, by' := 8, z := some [.nilf] } := by kernel_rfl
theorem ti100 : Tryz.prog.ti 100 = { k := .func, sz := 1, by' := 8, z := some [.nilf] } := by kernel_rfl
theorem ti101 : Tryz.prog.ti 101 = { k := .func, sz := 1, by' := 8, z := some [.nilf] } := by kernel_rfl
theorem ti102 : Tryz.prog.ti 102 = { k := .func, sz := 1, by' := 8, z := some [.nilf] } := by kernel_rfl
theorem ti103 : Tryz.prog.ti 103 = { k := .ptr 108, sz := 1, by' := 8, z := some [.nilp] } := by kernel_rfl
theorem ti104 : Tryz.prog.ti 104 = { k := .ptr 106, sz := 1, by' := 8, z := some [.nilp] } := by kernel_rfl
theorem ti105 : Tryz.prog.ti 105 = { k := .struct [(0, 85), (1, 3), (2, 3)], sz := 3, by' := 40, z := some [.nils, .int .i64 0, .int .i64 0] } := by kernel_rfl
theorem ti106 : Tryz.prog.ti 106 = { k := .struct [(0, 85), (1, 3), (2, 3)], sz := 3, by' := 40, z := some [.nils, .int .i64 0, .int .i64 0] } := by kernel_rfl
theorem ti107 : Tryz.prog.ti 107 = { k := .struct [(0, 104), (1, 27), (2, 3), (3, 3)], sz := 4, by' := 32, z := some [.nilp, .int .i64 0, .int .i64 0, .int .i64 0] } := by kernel_rfl
theorem ti108 : Tryz.prog.ti 108 = { k := .struct [(0, 104), (1, 27), (2, 3), (3, 3)], sz := 4, by' := 32, z := some [.nilp, .int .i64 0, .int .i64 0, .int .i64 0] } := by kernel_rfl
theorem ti109 : Tryz.prog.ti 109 = { k := .func, sz := 1, by' := 8, z := some [.nilf] } := by kernel_rfl
theorem ti110 : Tryz.prog.ti 110 = { k := .struct [(0, 3), (1, 9), (2, 2), (3, 3)], sz := 4, by' := 40, z := some [.int .i64 0, .str [], .int .i64 0, .int .i64 0] } := by kernel_rfl
theorem ti111 : Tryz.prog.ti 111 = { k := .struct [(0, 3), (1, 9), (2, 2), (3, 3)], sz := 4, by' := 40, z := some [.int .i64 0, .str [], .int .i64 0, .int .i64 0] } := by kernel_rfl
theorem ti112 : Tryz.prog.ti 112 = { k := .func, sz := 1, by' := 8, z := some [.nilf] } := by kernel_rfl
theorem ti113 : Tryz.prog.ti 113 = { k := .func, sz := 1, by' := 8, z := some [.nilf] } := by kernel_rfl
theorem ti114 : Tryz.prog.ti 114 = { k := .ptr 116, sz := 1, by' := 8, z := some [.nilp] } := by kernel_rfl
theorem ti115 : Tryz.prog.ti 115 = { k := .struct [(0, 26), (1, 3)], sz := 2, by' := 32, z := some [.nils, .int .i64 0] } := by kernel_rfl
theorem ti116 : Tryz.prog.ti 116 = { k := .struct [(0, 26), (1, 3)], sz := 2, by' := 32, z := some [.nils, .int .i64 0] } := by kernel_rfl
theorem ti117 : Tryz.prog.ti 117 = { k := .func, sz := 1, by' := 8, z := some [.nilf] } := by kernel_rfl
theorem ti119 : Tryz.prog.ti 119 = { k := .func, sz := 1, by' := 8, z := some [.nilf] } := by kernel_rfl
theorem ti120 : Tryz.prog.ti 120 = { k := .func, sz := 1, by' := 8, z := some [.nilf] } := by kernel_rfl
theorem ti121 : Tryz.prog.ti 121 = { k := .ptr 126, sz := 1, by' := 8, z := some [.nilp] } := by kernel_rfl
theorem ti122 : Tryz.prog.ti 122 = { k := .slice 228, sz := 1, by' := 24, z := some [.nils] } := by kernel_rfl
theorem ti123 : Tryz.prog.ti 123 = { k := .ptr 295, sz := 1, by' := 8, z := some [.nilp] } := by kernel_rfl
theorem ti124 : Tryz.prog.ti 124 = { k := .ptr 232, sz := 1, by' := 8, z := some [.nilp] } := by kernel_rfl
theorem ti125 : Tryz.prog.ti 125 = { k := .struct [(0, 26), (1, 3), (2, 3), (3, 122), (4, 3), (5, 123), (6, 124), (7, 56)], sz := 13, by' := 160, z := some [.nils, .int .i64 0, .int .i64 0, .nils, .int .i64 0, .nilp, .nilp, .int .i64 0, .int .i64 0, .int .i64 0, .str [], .nils, .int .i64 0] } := by kernel_rfl
theorem ti126 : Tryz.prog.ti 126 = { k := .struct [(0, 26), (1, 3), (2, 3), (3, 122), (4, 3), (5, 123), (6, 124), (7, 56)], sz := 13, by' := 160, z := some [.nils, .int .i64 0, .int .i64 0, .nils, .int .i64 0, .nilp, .nilp, .int .i64 0, .int .i64 0, .int .i64 0, .str [], .nils, .int .i64 0] } := by kernel_rfl
theorem ti127 : Tryz.prog.ti 127 = { k := .func, sz := 1, by' := 8, z := some [.nilf] } := by kernel_rfl
theorem ti128 : Tryz.prog.ti 128 = { k := .func, sz := 1, by' := 8, z := some [.nilf] } := by kernel_rfl
theorem ti129 : Tryz.prog.ti 129 = { k := .func, sz := 1, by' := 8, z := some [.nilf] } := by kernel_rfl
theorem ti130 : Tryz.prog.ti 130 = { k := .func, sz := 1, by' := 8, z := some [.nilf] } := by kernel_rfl
theorem ti131 : Tryz.prog.ti 131 = { k := .ptr 133, sz := 1, by' := 8, z := some [.nilp] } := by kernel_rfl
theorem ti132 : Tryz.prog.ti 132 = { k := .struct [(0, 89), (1, 27), (2, 3)], sz := 3, by' := 24, z := some [.nilp, .int .i64 0, .int .i64 0] } := by kernel_rfl
theorem ti133 : Tryz.prog.ti 133 = { k := .struct [(0, 89), (1, 27), (2, 3)], sz := 3, by' := 24, z := some [.nilp, .int .i64 0, .int .i64 0] } := by kernel_rfl
theorem ti134 : Tryz.prog.ti 134 = { k := .func, sz := 1, by' := 8, z := some [.nilf] } := by kernel_rfl
theorem ti135 : Tryz.prog.ti 135 = { k := .func, sz := 1, by' := 8, z := some [.nilf] } := by kernel_rfl
theorem ti136 : Tryz.prog.ti 136 = { k := .slice 140, sz := 1, by' := 24, z := some [.nils] } := by kernel_rfl
theorem ti137 : Tryz.prog.ti 137 = { k := .struct [(0, 3), (1, 3), (2, 3), (3, 136)], sz := 4, by' := 48, z := some [.int .i64 0, .int .i64 0, .int .i64 0, .nils] } := by kernel_rfl
theorem ti138 : Tryz.prog.ti 138 = { k := .struct [(0, 3), (1, 3), (2, 3), (3, 136)], sz := 4, by' := 48, z := some [.int .i64 0, .int .i64 0, .int .i64 0, .nils] } := by kernel_rfl
theorem ti139 : Tryz.prog.ti 139 = { k := .struct [(0, 9), (1, 3)], sz := 2, by' := 24, z := some [.str [], .int .i64 0] } := by kernel_rfl
theorem ti140 : Tryz.prog.ti 140 = { k := .struct [(0, 9), (1, 3)], sz := 2, by' := 24, z := some [.str [], .int .i64 0] } := by kernel_rfl
theorem ti141 : Tryz.prog.ti 141 = { k := .ptr 143, sz := 1, by' := 8, z := some [.nilp] } := by kernel_rfl
theorem ti142 : Tryz.prog.ti 142 = { k := .struct [(0, 104), (1, 27), (2, 3)], sz := 3, by' := 24, z := some [.nilp, .int .i64 0, .int .i64 0] } := by kernel_rfl
theorem ti143 : Tryz.prog.ti 143 = { k := .struct [(0, 104), (1, 27), (2, 3)], sz := 3, by' := 24, z := some [.nilp, .int .i64 0, .int .i64 0] } := by kernel_rfl
theorem ti144 : Tryz.prog.ti 144 = { k := .func, sz := 1, by' := 8, z := some [.nilf] } := by kernel_rfl
theorem ti145 : Tryz.prog.ti 145 = { k := .func, sz := 1, by' := 8, z := some [.nilf] } := by kernel_rfl
theorem ti146 : Tryz.prog.ti 146 = { k := .func, sz := 1, by' := 8, z := some [.nilf] } := by kernel_rfl
theorem ti147 : Tryz.prog.ti 147 = { k := .func, sz := 1, by' := 8, z := some [.nilf] } := by kernel_rfl
theorem ti148 : Tryz.prog.ti 148 = { k := .func, sz := 1, by' := 8, z := some [.nilf] } := by kernel_rfl
theorem ti149 : Tryz.prog.ti 149 = { k := .func, sz := 1, by' := 8, z := some [.nilf] } := by kernel_rfl
theorem ti150 : Tryz.prog.ti 150 = { k := .func, sz := 1, by' := 8, z := some [.nilf] } := by kernel_rfl
theorem ti151 : Tryz.prog.ti 151 = { k := .slice 26, sz := 1, by' := 24, z := some [.nils] } := by kernel_rfl
theorem ti152 : Tryz.prog.ti 152 = { k := .func, sz := 1, by' := 8, z := some [.nilf] } := by kernel_rfl
theorem ti153 : Tryz.prog.ti 153 = { k := .func, sz := 1, by' := 8, z := some [.nilf] } := by kernel_rfl
theorem ti154 : Tryz.prog.ti 154 = { k := .struct [(0, 111), (4, 3), (5, 27)], sz := 6, by' := 56, z := some [.int .i64 0, .str [], .int .i64 0, .int .i64 0, .int .i64 0, .int .i64 0] } := by kernel_rfl
theorem ti155 : Tryz.prog.ti 155 = { k := .struct [(0, 111), (4, 3), (5, 27)], sz := 6, by' := 56, z := some [.int .i64 0, .str [], .int .i64 0, .int .i64 0, .int .i64 0, .int .i64 0] } := by kernel_rfl
theorem ti156 : Tryz.prog.ti 156 = { k := .struct [(0, 85), (1, 3)], sz := 2, by' := 32, z := some [.nils, .int .i64 0] } := by kernel_rfl
theorem ti157 : Tryz.prog.ti 157 = { k := .struct [(0, 85), (1, 3)], sz := 2, by' := 32, z := some [.nils, .int .i64 0] } := by kernel_rfl
theorem ti158 : Tryz.prog.ti 158 = { k := .func, sz := 1, by' := 8, z := some [.nilf] } := by kernel_rfl
theorem ti159 : Tryz.prog.ti 159 = { k := .func, sz := 1, by' := 8, z := some [.nilf] } := by kernel_rfl
theorem ti160 : Tryz.prog.ti 160 = { k := .func, sz := 1, by' := 8, z := some [.nilf] } := by kernel_rfl
theorem ti161 : Tryz.prog.ti 161 = { k := .func, sz := 1, by' := 8, z := some [.nilf] } := by kernel_rfl
theorem ti162 : Tryz.prog.ti 162 = { k := .map 3 3, sz := 1, by' := 8, z := some [.nilm] } := by kernel_rfl
theorem ti163 : Tryz.prog.ti 163 = { k := .func, sz := 1, by' := 8, z := some [.nilf] } := by kernel_rfl
theorem ti164 : Tryz.prog.ti 164 = { k := .func, sz := 1, by' := 8, z := some [.nilf] } := by kernel_rfl
theorem ti165 : Tryz.prog.ti 165 = { k := .func, sz := 1, by' := 8, z := some [.nilf] } := by kernel_rfl
theorem ti166 : Tryz.prog.ti 166 = { k := .slice 187, sz := 1, by' := 24, z := some [.nils] } := by kernel_rfl
theorem ti168 : Tryz.prog.ti 168 = { k := .func, sz := 1, by' := 8, z := some [.nilf] } := by kernel_rfl
theorem ti169 : Tryz.prog.ti 169 = { k := .ptr 171, sz := 1, by' := 8, z := some [.nilp] } := by kernel_rfl
theorem ti170 : Tryz.prog.ti 170 = { k := .struct [(0, 26), (1, 166), (2, 95)], sz := 3, by' := 72, z := some [.nils, .nils, .nils] } := by kernel_rfl
theorem ti171 : Tryz.prog.ti 171 = { k := .struct [(0, 26), (1, 166), (2, 95)], sz := 3, by' := 72, z := some [.nils, .nils, .nils] } := by kernel_rfl
theorem ti172 : Tryz.prog.ti 172 = { k := .func, sz := 1, by' := 8, z := some [.nilf] } := by kernel_rfl
theorem ti173 : Tryz.prog.ti 173 = { k := .slice 212, sz := 1, by' := 24, z := some [.nils] } := by kernel_rfl
theorem ti174 : Tryz.prog.ti 174 = { k := .func, sz := 1, by' := 8, z := some [.nilf] } := by kernel_rfl
theorem ti175 : Tryz.prog.ti 175 = { k := .func, sz := 1, by' := 8, z := some [.nilf] } := by kernel_rfl
theorem ti176 : Tryz.prog.ti 176 = { k := .struct [(0, 9), (1, 9), (2, 3)], sz := 3, by' := 40, z := some [.str [], .str [], .int .i64 0] } := by kernel_rfl
theorem ti177 : Tryz.prog.ti 177 = { k := .struct [(0, 9), (1, 9), (2, 3)], sz := 3, by' := 40, z := some [.str [], .str [], .int .i64 0] } := by kernel_rfl
theorem ti179 : Tryz.prog.ti 179 = { k := .func, sz := 1, by' := 8, z := some [.nilf] } := by kernel_rfl
theorem ti180 : Tryz.prog.ti 180 = { k := .func, sz := 1, by' := 8, z := some [.nilf] } := by kernel_rfl
theorem ti181 : Tryz.prog.ti 181 = { k := .func, sz := 1, by' := 8, z := some [.nilf] } := by kernel_rfl
theorem ti182 : Tryz.prog.ti 182 = { k := .func, sz := 1, by' := 8, z := some [.nilf] } := by kernel_rfl
theorem ti183 : Tryz.prog.ti 183 = { k := .struct [(0, 9), (1, 54)], sz := 5, by' := 72, z := some [.str [], .int .i64 0, .int .i64 0, .str [], .nils] } := by kernel_rfl
theorem ti184 : Tryz.prog.ti 184 = { k := .struct [(0, 9), (1, 54)], sz := 5, by' := 72, z := some [.str [], .int .i64 0, .int .i64 0, .str [], .nils] } := by kernel_rfl
theorem ti185 : Tryz.prog.ti 185 = { k := .func, sz := 1, by' := 8, z := some [.nilf] } := by kernel_rfl
theorem ti186 : Tryz.prog.ti 186 = { k := .struct [(0, 3), (1, 3)], sz := 2, by' := 16, z := some [.int .i64 0, .int .i64 0] } := by kernel_rfl
theorem ti187 : Tryz.prog.ti 187 = { k := .struct [(0, 3), (1, 3)], sz := 2, by' := 16, z := some [.int .i64 0, .int .i64 0] } := by kernel_rfl
theorem ti188 : Tryz.prog.ti 188 = { k := .func, sz := 1, by' := 8, z := some [.nilf] } := by kernel_rfl
theorem ti189 : Tryz.prog.ti 189 = { k := .func, sz := 1, by' := 8, z := some [.nilf] } := by kernel_rfl
theorem ti190 : Tryz.prog.ti 190 = { k := .func, sz := 1, by' := 8, z := some [.nilf] } := by kernel_rfl
theorem ti191 : Tryz.prog.ti 191 = { k := .func, sz := 1, by' := 8, z := some [.nilf] } := by kernel_rfl
theorem ti192 : Tryz.prog.ti 192 = { k := .ptr 79, sz := 1, by' := 8, z := some [.nilp] } := by kernel_rfl
theorem ti193 : Tryz.prog.ti 193 = { k := .func, sz := 1, by' := 8, z := some [.nilf] } := by kernel_rfl
theorem ti194 : Tryz.prog.ti 194 = { k := .func, sz := 1, by' := 8, z := some [.nilf] } := by kernel_rfl
theorem ti195 : Tryz.prog.ti 195 = { k := .func, sz := 1, by' := 8, z := some [.nilf] } := by kernel_rfl
theorem ti196 : Tryz.prog.ti 196 = { k := .func, sz := 1, by' := 8, z := some [.nilf] } := by kernel_rfl
theorem ti198 : Tryz.prog.ti 198 = { k := .func, sz := 1, by' := 8, z := some [.nilf] } := by kernel_rfl
theorem ti199 : Tryz.prog.ti 199 = { k := .struct [(0, 9), (1, 2)], sz := 2, by' := 24, z := some [.str [], .int .i64 0] } := by kernel_rfl
theorem ti200 : Tryz.prog.ti 200 = { k := .struct [(0, 9), (1, 2)], sz := 2, by' := 24, z := some [.str [], .int .i64 0] } := by kernel_rfl
theorem ti201 : Tryz.prog.ti 201 = { k := .func, sz := 1, by' := 8, z := some [.nilf] } := by kernel_rfl
theorem ti202 : Tryz.prog.ti 202 = { k := .struct [(0, 3), (1, 4)], sz := 2, by' := 16, z := some [.int .i64 0, .bool false] } := by kernel_rfl
theorem ti203 : Tryz.prog.ti 203 = { k := .struct [(0, 3), (1, 4)], sz := 2, by' := 16, z := some [.int .i64 0, .bool false] } := by kernel_rfl
theorem ti204 : Tryz.prog.ti 204 = { k := .func, sz := 1, by' := 8, z := some [.nilf] } := by kernel_rfl
theorem ti205 : Tryz.prog.ti 205 = { k := .func, sz := 1, by' := 8, z := some [.nilf] } := by kernel_rfl
theorem ti206 : Tryz.prog.ti 206 = { k := .arr 3 3, sz := 3, by' := 24, z := some [.int .i64 0, .int .i64 0, .int .i64 0] } := by kernel_rfl
theorem ti207 : Tryz.prog.ti 207 = { k := .func, sz := 1, by' := 8, z := some [.nilf] } := by kernel_rfl
theorem ti208 : Tryz.prog.ti 208 = { k := .slice 9, sz := 1, by' := 24, z := some [.nils] } := by kernel_rfl
theorem ti209 : Tryz.prog.ti 209 = { k := .func, sz := 1, by' := 8, z := some [.nilf] } := by kernel_rfl
theorem ti210 : Tryz.prog.ti 210 = { k := .func, sz := 1, by' := 8, z := some [.nilf] } := by kernel_rfl
theorem ti211 : Tryz.prog.ti 211 = { k := .func, sz := 1, by' := 8, z := some [.nilf] } := by kernel_rfl
theorem ti212 : Tryz.prog.ti 212 = { k := .struct [(0, 3), (1, 3)], sz := 2, by' := 16, z := some [.int .i64 0, .int .i64 0] } := by kernel_rfl
theorem ti213 : Tryz.prog.ti 213 = { k := .func, sz := 1, by' := 8, z := some [.nilf] } := by kernel_rfl
theorem ti214 : Tryz.prog.ti 214 = { k := .func, sz := 1, by' := 8, z := some [.nilf] } := by kernel_rfl
theorem ti216 : Tryz.prog.ti 216 = { k := .func, sz := 1, by' := 8, z := some [.nilf] } := by kernel_rfl
theorem ti218 : Tryz.prog.ti 218 = { k := .func, sz := 1, by' := 8, z := some [.nilf] } := by kernel_rfl
theorem ti219 : Tryz.prog.ti 219 = { k := .func, sz := 1, by' := 8, z := some [.nilf] } := by kernel_rfl
theorem ti220 : Tryz.prog.ti 220 = { k := .func, sz := 1, by' := 8, z := some [.nilf] } := by kernel_rfl
theorem ti221 : Tryz.prog.ti 221 = { k := .func, sz := 1, by' := 8, z := some [.nilf] } := by kernel_rfl
theorem ti222 : Tryz.prog.ti 222 = { k := .func, sz := 1, by' := 8, z := some [.nilf] } := by kernel_rfl
theorem ti223 : Tryz.prog.ti 223 = { k := .func, sz := 1, by' := 8, z := some [.nilf] } := by kernel_rfl
theorem ti224 : Tryz.prog.ti 224 = { k := .func, sz := 1, by' := 8, z := some [.nilf] } := by kernel_rfl
theorem ti225 : Tryz.prog.ti 225 = { k := .func, sz := 1, by' := 8, z := some [.nilf] } := by kernel_rfl
theorem ti226 : Tryz.prog.ti 226 = { k := .slice 124, sz := 1, by' := 24, z := some [.nils] } := by kernel_rfl
theorem ti227 : Tryz.prog.ti 227 = { k := .struct [(0, 3), (1, 123), (2, 226)], sz := 3, by' := 40, z := some [.int .i64 0, .nilp, .nils] } := by kernel_rfl
theorem ti228 : Tryz.prog.ti 228 = { k := .struct [(0, 3), (1, 123), (2, 226)], sz := 3, by' := 40, z := some [.int .i64 0, .nilp, .nils] } := by kernel_rfl
theorem ti229 : Tryz.prog.ti 229 = { k := .func, sz := 1, by' := 8, z := some [.nilf] } := by kernel_rfl
theorem ti230 : Tryz.prog.ti 230 = { k := .slice 276, sz := 1, by' := 24, z := some [.nils] } := by kernel_rfl
theorem ti231 : Tryz.prog.ti 231 = { k := .struct [(0, 3), (1, 2), (2, 9), (3, 230), (4, 3), (5, 123), (6, 9)], sz := 7, by' := 88, z := some [.int .i64 0, .int .i64 0, .str [], .nils, .int .i64 0, .nilp, .str []] } := by kernel_rfl
theorem ti232 : Tryz.prog.ti 232 = { k := .struct [(0, 3), (1, 2), (2, 9), (3, 230), (4, 3), (5, 123), (6, 9)], sz := 7, by' := 88, z := some [.int .i64 0, .int .i64 0, .str [], .nils, .int .i64 0, .nilp, .str []] } := by kernel_rfl
theorem ti233 : Tryz.prog.ti 233 = { k := .func, sz := 1, by' := 8, z := some [.nilf] } := by kernel_rfl
theorem ti234 : Tryz.prog.ti 234 = { k := .func, sz := 1, by' := 8, z := some [.nilf] } := by kernel_rfl
theorem ti235 : Tryz.prog.ti 235 = { k := .func, sz := 1, by' := 8, z := some [.nilf] } := by kernel_rfl
theorem ti236 : Tryz.prog.ti 236 = { k := .func, sz := 1, by' := 8, z := some [.nilf] } := by kernel_rfl
theorem ti237 : Tryz.prog.ti 237 = { k := .func, sz := 1, by' := 8, z := some [.nilf] } := by kernel_rfl
theorem ti238 : Tryz.prog.ti 238 = { k := .slice 278, sz := 1, by' := 24, z := some [.nils] } := by kernel_rfl
theorem ti239 : Tryz.prog.ti 239 = { k := .slice 278, sz := 1, by' := 24, z := some [.nils] } := by kernel_rfl
theorem ti240 : Tryz.prog.ti 240 = { k := .func, sz := 1, by' := 8, z := some [.nilf] } := by kernel_rfl
theorem ti241 : Tryz.prog.ti 241 = { k := .func, sz := 1, by' := 8, z := some [.nilf] } := by kernel_rfl
theorem ti242 : Tryz.prog.ti 242 = { k := .func, sz := 1, by' := 8, z := some [.nilf] } := by kernel_rfl
theorem ti243 : Tryz.prog.ti 243 = { k := .func, sz := 1, by' := 8, z := some [.nilf] } := by kernel_rfl
theorem ti244 : Tryz.prog.ti 244 = { k := .ptr 71, sz := 1, by' := 8, z := some [.nilp] } := by kernel_rfl
theorem ti245 : Tryz.prog.ti 245 = { k := .func, sz := 1, by' := 8, z := some [.nilf] } := by kernel_rfl
theorem ti246 : Tryz.prog.ti 246 = { k := .func, sz := 1, by' := 8, z := some [.nilf] } := by kernel_rfl
theorem ti247 : Tryz.prog.ti 247 = { k := .func, sz := 1, by' := 8, z := some [.nilf] } := by kernel_rfl
theorem ti248 : Tryz.prog.ti 248 = { k := .ptr 249, sz := 1, by' := 8, z := some [.nilp] } := by kernel_rfl
theorem ti249 : Tryz.prog.ti 249 = { k := .struct [(0, 104), (1, 27), (2, 3), (3, 3)], sz := 4, by' := 32, z := some [.nilp, .int .i64 0, .int .i64 0, .int .i64 0] } := by kernel_rfl
theorem ti251 : Tryz.prog.ti 251 = { k := .func, sz := 1, by' := 8, z := some [.nilf] } := by kernel_rfl
theorem ti252 : Tryz.prog.ti 252 = { k := .func, sz := 1, by' := 8, z := some [.nilf] } := by kernel_rfl
theorem ti253 : Tryz.prog.ti 253 = { k := .func, sz := 1, by' := 8, z := some [.nilf] } := by kernel_rfl
theorem ti254 : Tryz.prog.ti 254 = { k := .func, sz := 1, by' := 8, z := some [.nilf] } := by kernel_rfl
theorem ti255 : Tryz.prog.ti 255 = { k := .slice 200, sz := 1, by' := 24, z := some [.nils] } := by kernel_rfl
theorem ti256 : Tryz.prog.ti 256 = { k := .map 9 4, sz := 1, by' := 8, z := some [.nilm] } := by kernel_rfl
theorem ti257 : Tryz.prog.ti 257 = { k := .func, sz := 1, by' := 8, z := some [.nilf] } := by kernel_rfl
theorem ti258 : Tryz.prog.ti 258 = { k := .func, sz := 1, by' := 8, z := some [.nilf] } := by kernel_rfl
theorem ti259 : Tryz.prog.ti 259 = { k := .func, sz := 1, by' := 8, z := some [.nilf] } := by kernel_rfl
theorem ti260 : Tryz.prog.ti 260 = { k := .int .u64, sz := 1, by' := 8, z := some [.int .u64 0] } := by kernel_rfl
theorem ti261 : Tryz.prog.ti 261 = { k := .slice 5, sz := 1, by' := 24, z := some [.nils] } := by kernel_rfl
theorem ti262 : Tryz.prog.ti 262 = { k := .func, sz := 1, by' := 8, z := some [.nilf] } := by kernel_rfl
theorem ti263 : Tryz.prog.ti 263 = { k := .func, sz := 1, by' := 8, z := some [.nilf] } := by kernel_rfl
theorem ti264 : Tryz.prog.ti 264 = { k := .func, sz := 1, by' := 8, z := some [.nilf] } := by kernel_rfl
theorem ti265 : Tryz.prog.ti 265 = { k := .func, sz := 1, by' := 8, z := some [.nilf] } := by kernel_rfl
theorem ti266 : Tryz.prog.ti 266 = { k := .func, sz := 1, by' := 8, z := some [.nilf] } := by kernel_rfl
theorem ti267 : Tryz.prog.ti 267 = { k := .func, sz := 1, by' := 8, z := some [.nilf] } := by kernel_rfl
theorem ti268 : Tryz.prog.ti 268 = { k := .func, sz := 1, by' := 8, z := some [.nilf] } := by kernel_rfl
theorem ti269 : Tryz.prog.ti 269 = { k := .func, sz := 1, by' := 8, z := some [.nilf] } := by kernel_rfl
theorem ti270 : Tryz.prog.ti 270 = { k := .func, sz := 1, by' := 8, z := some [.nilf] } := by kernel_rfl
theorem ti271 : Tryz.prog.ti 271 = { k := .func, sz := 1, by' := 8, z := some [.nilf] } := by kernel_rfl
theorem ti272 : Tryz.prog.ti 272 = { k := .func, sz := 1, by' := 8, z := some [.nilf] } := by kernel_rfl
theorem ti273 : Tryz.prog.ti 273 = { k := .func, sz := 1, by' := 8, z := some [.nilf] } := by kernel_rfl
theorem ti274 : Tryz.prog.ti 274 = { k := .func, sz := 1, by' := 8, z := some [.nilf] } := by kernel_rfl
theorem ti275 : Tryz.prog.ti 275 = { k := .struct [(0, 9), (1, 124)], sz := 2, by' := 24, z := some [.str [], .nilp] } := by kernel_rfl
theorem ti276 : Tryz.prog.ti 276 = { k := .struct [(0, 9), (1, 124)], sz := 2, by' := 24, z := some [.str [], .nilp] } := by kernel_rfl
theorem ti277 : Tryz.prog.ti 277 = { k := .struct [(0, 9), (1, 187)], sz := 3, by' := 32, z := some [.str [], .int .i64 0, .int .i64 0] } := by kernel_rfl
theorem ti278 : Tryz.prog.ti 278 = { k := .struct [(0, 9), (1, 187)], sz := 3, by' := 32, z := some [.str [], .int .i64 0, .int .i64 0] } := by kernel_rfl
theorem ti279 : Tryz.prog.ti 279 = { k := .func, sz := 1, by' := 8, z := some [.nilf] } := by kernel_rfl
theorem ti280 : Tryz.prog.ti 280 = { k := .func, sz := 1, by' := 8, z := some [.nilf] } := by kernel_rfl
theorem ti281 : Tryz.prog.ti 281 = { k := .func, sz := 1, by' := 8, z := some [.nilf] } := by kernel_rfl
theorem ti282 : Tryz.prog.ti 282 = { k := .func, sz := 1, by' := 8, z := some [.nilf] } := by kernel_rfl
theorem ti283 : Tryz.prog.ti 283 = { k := .slice 285, sz := 1, by' := 24, z := some [.nils] } := by kernel_rfl
theorem ti284 : Tryz.prog.ti 284 = { k := .struct [(0, 3), (1, 9), (2, 208), (3, 283)], sz := 4, by' := 72, z := some [.int .i64 0, .str [], .nils, .nils] } := by kernel_rfl
theorem ti285 : Tryz.prog.ti 285 = { k := .struct [(0, 3), (1, 9), (2, 208), (3, 283)], sz := 4, by' := 72, z := some [.int .i64 0, .str [], .nils, .nils] } := by kernel_rfl
theorem ti286 : Tryz.prog.ti 286 = { k := .func, sz := 1, by' := 8, z := some [.nilf] } := by kernel_rfl
theorem ti288 : Tryz.prog.ti 288 = { k := .func, sz := 1, by' := 8, z := some [.nilf] } := by kernel_rfl
theorem ti289 : Tryz.prog.ti 289 = { k := .func, sz := 1, by' := 8, z := some [.nilf] } := by kernel_rfl
theorem ti290 : Tryz.prog.ti 290 = { k := .func, sz := 1, by' := 8, z := some [.nilf] } := by kernel_rfl
theorem ti291 : Tryz.prog.ti 291 = { k := .func, sz := 1, by' := 8, z := some [.nilf] } := by kernel_rfl
theorem ti292 : Tryz.prog.ti 292 = { k := .func, sz := 1, by' := 8, z := some [.nilf] } := by kernel_rfl
theorem ti293 : Tryz.prog.ti 293 = { k := .func, sz := 1, by' := 8, z := some [.nilf] } := by kernel_rfl
theorem ti294 : Tryz.prog.ti 294 = { k := .struct [(0, 9), (1, 124), (2, 123)], sz := 3, by' := 32, z := some [.str [], .nilp, .nilp] } := by kernel_rfl
theorem ti295 : Tryz.prog.ti 295 = { k := .struct [(0, 9), (1, 124), (2, 123)], sz := 3, by' := 32, z := some [.str [], .nilp, .nilp] } := by kernel_rfl
theorem ti296 : Tryz.prog.ti 296 = { k := .func, sz := 1, by' := 8, z := some [.nilf] } := by kernel_rfl
theorem ti297 : Tryz.prog.ti 297 = { k := .func, sz := 1, by' := 8, z := some [.nilf] } := by kernel_rfl
theorem ti298 : Tryz.prog.ti 298 = { k := .ptr 300, sz := 1, by' := 8, z := some [.nilp] } := by kernel_rfl
theorem ti299 : Tryz.prog.ti 299 = { k := .struct [(0, 89), (1, 27), (2, 3), (3, 3)], sz := 4, by' := 32, z := some [.nilp, .int .i64 0, .int .i64 0, .int .i64 0] } := by kernel_rfl
theorem ti300 : Tryz.prog.ti 300 = { k := .struct [(0, 89), (1, 27), (2, 3), (3, 3)], sz := 4, by' := 32, z := some [.nilp, .int .i64 0, .int .i64 0, .int .i64 0] } := by kernel_rfl
theorem ti301 : Tryz.prog.ti 301 = { k := .func, sz := 1, by' := 8, z := some [.nilf] } := by kernel_rfl
theorem ti302 : Tryz.prog.ti 302 = { k := .slice 331, sz := 1, by' := 24, z := some [.nils] } := by kernel_rfl
theorem ti303 : Tryz.prog.ti 303 = { k := .struct [(0, 3), (1, 9), (2, 302)], sz := 3, by' := 48, z := some [.int .i64 0, .str [], .nils] } := by kernel_rfl
theorem ti304 : Tryz.prog.ti 304 = { k := .struct [(0, 3), (1, 9), (2, 302)], sz := 3, by' := 48, z := some [.int .i64 0, .str [], .nils] } := by kernel_rfl
theorem ti305 : Tryz.prog.ti 305 = { k := .func, sz := 1, by' := 8, z := some [.nilf] } := by kernel_rfl
theorem ti306 : Tryz.prog.ti 306 = { k := .ptr 308, sz := 1, by' := 8, z := some [.nilp] } := by kernel_rfl
theorem ti307 : Tryz.prog.ti 307 = { k := .struct [(0, 67), (1, 208), (2, 4)], sz := 3, by' := 56, z := some [.nils, .nils, .bool false] } := by kernel_rfl
theorem ti308 : Tryz.prog.ti 308 = { k := .struct [(0, 67), (1, 208), (2, 4)], sz := 3, by' := 56, z := some [.nils, .nils, .bool false] } := by kernel_rfl
theorem ti309 : Tryz.prog.ti 309 = { k := .func, sz := 1, by' := 8, z := some [.nilf] } := by kernel_rfl
theorem ti310 : Tryz.prog.ti 310 = { k := .func, sz := 1, by' := 8, z := some [.nilf] } := by kernel_rfl
theorem ti311 : Tryz.prog.ti 311 = { k := .func, sz := 1, by' := 8, z := some [.nilf] } := by kernel_rfl
theorem ti313 : Tryz.prog.ti 313 = { k := .func, sz := 1, by' := 8, z := some [.nilf] } := by kernel_rfl
theorem ti314 : Tryz.prog.ti 314 = { k := .ptr 316, sz := 1, by' := 8, z := some [.nilp] } := by kernel_rfl
theorem ti315 : Tryz.prog.ti 315 = { k := .struct [(0, 314), (1, 261)], sz := 2, by' := 32, z := some [.nilp, .nils] } := by kernel_rfl
theorem ti316 : Tryz.prog.ti 316 = { k := .struct [(0, 314), (1, 261)], sz := 2, by' := 32, z := some [.nilp, .nils] } := by kernel_rfl
theorem ti318 : Tryz.prog.ti 318 = { k := .func, sz := 1, by' := 8, z := some [.nilf] } := by kernel_rfl
theorem ti319 : Tryz.prog.ti 319 = { k := .ifc, sz := 1, by' := 16, z := some [.nili] } := by kernel_rfl
theorem ti320 : Tryz.prog.ti 320 = { k := .ifc, sz := 1, by' := 16, z := some [.nili] } := by kernel_rfl
theorem ti321 : Tryz.prog.ti 321 = { k := .func, sz := 1, by' := 8, z := some [.nilf] } := by kernel_rfl
theorem ti322 : Tryz.prog.ti 322 = { k := .func, sz := 1, by' := 8, z := some [.nilf] } := by kernel_rfl
theorem ti323 : Tryz.prog.ti 323 = { k := .func, sz := 1, by' := 8, z := some [.nilf] } := by kernel_rfl
theorem ti324 : Tryz.prog.ti 324 = { k := .ptr 327, sz := 1, by' := 8, z := some [.nilp] } := by kernel_rfl
theorem ti325 : Tryz.prog.ti 325 = { k := .map 9 3, sz := 1, by' := 8, z := some [.nilm] } := by kernel_rfl
theorem ti326 : Tryz.prog.ti 326 = { k := .struct [(0, 69), (2, 325), (3, 4)], sz := 4, by' := 48, z := some [.nils, .int .i64 0, .nilm, .bool false] } := by kernel_rfl
theorem ti327 : Tryz.prog.ti 327 = { k := .struct [(0, 69), (2, 325), (3, 4)], sz := 4, by' := 48, z := some [.nils, .int .i64 0, .nilm, .bool false] } := by kernel_rfl
theorem ti328 : Tryz.prog.ti 328 = { k := .func, sz := 1, by' := 8, z := some [.nilf] } := by kernel_rfl
theorem ti329 : Tryz.prog.ti 329 = { k := .func, sz := 1, by' := 8, z := some [.nilf] } := by kernel_rfl
theorem ti330 : Tryz.prog.ti 330 = { k := .struct [(0, 9), (1, 304)], sz := 4, by' := 64, z := some [.str [], .int .i64 0, .str [], .nils] } := by kernel_rfl
theorem ti331 : Tryz.prog.ti 331 = { k := .struct [(0, 9), (1, 304)], sz := 4, by' := 64, z := some [.str [], .int .i64 0, .str [], .nils] } := by kernel_rfl
theorem ti332 : Tryz.prog.ti 332 = { k := .func, sz := 1, by' := 8, z := some [.nilf] } := by kernel_rfl
theorem ti333 : Tryz.prog.ti 333 = { k := .slice 335, sz := 1, by' := 24, z := some [.nils] } := by kernel_rfl
theorem ti334 : Tryz.prog.ti 334 = { k := .struct [(0, 9), (1, 3)], sz := 2, by' := 24, z := some [.str [], .int .i64 0] } := by kernel_rfl
theorem ti335 : Tryz.prog.ti 335 = { k := .struct [(0, 9), (1, 3)], sz := 2, by' := 24, z := some [.str [], .int .i64 0] } := by kernel_rfl
theorem ti336 : Tryz.prog.ti 336 = { k := .func, sz := 1, by' := 8, z := some [.nilf] } := by kernel_rfl
theorem ti337 : Tryz.prog.ti 337 = { k := .slice 4, sz := 1, by' := 24, z := some [.nils] } := by kernel_rfl
theorem ti338 : Tryz.prog.ti 338 = { k := .func, sz := 1, by' := 8, z := some [.nilf] } := by kernel_rfl
theorem ti339 : Tryz.prog.ti 339 = { k := .func, sz := 1, by' := 8, z := some [.nilf] } := by kernel_rfl
theorem ti340 : Tryz.prog.ti 340 = { k := .func, sz := 1, by' := 8, z := some [.nilf] } := by kernel_rfl
theorem ti341 : Tryz.prog.ti 341 = { k := .ptr 5, sz := 1, by' := 8, z := some [.nilp] } := by kernel_rfl
theorem ti342 : Tryz.prog.ti 342 = { k := .slice 345, sz := 1, by' := 24, z := some [.nils] } := by kernel_rfl
theorem ti343 : Tryz.prog.ti 343 = { k := .func, sz := 1, by' := 8, z := some [.nilf] } := by kernel_rfl
theorem ti344 : Tryz.prog.ti 344 = { k := .struct [(0, 9), (1, 3)], sz := 2, by' := 24, z := some [.str [], .int .i64 0] } := by kernel_rfl
theorem ti345 : Tryz.prog.ti 345 = { k := .struct [(0, 9), (1, 3)], sz := 2, by' := 24, z := some [.str [], .int .i64 0] } := by kernel_rfl
theorem ti346 : Tryz.prog.ti 346 = { k := .func, sz := 1, by' := 8, z := some [.nilf] } := by kernel_rfl
theorem ti347 : Tryz.prog.ti 347 = { k := .ptr 138, sz := 1, by' := 8, z := some [.nilp] } := by kernel_rfl
theorem ti348 : Tryz.prog.ti 348 = { k := .func, sz := 1, by' := 8, z := some [.nilf] } := by kernel_rfl
theorem ti350 : Tryz.prog.ti 350 = { k := .func, sz := 1, by' := 8, z := some [.nilf] } := by kernel_rfl
theorem ti352 : Tryz.prog.ti 352 = { k := .func, sz := 1, by' := 8, z := some [.nilf] } := by kernel_rfl
theorem ti353 : Tryz.prog.ti 353 = { k := .func, sz := 1, by' := 8, z := some [.nilf] } := by kernel_rfl
theorem ti354 : Tryz.prog.ti 354 = { k := .func, sz := 1, by' := 8, z := some [.nilf] } := by kernel_rfl
theorem ti355 : Tryz.prog.ti 355 = { k := .func, sz := 1, by' := 8, z := some [.nilf] } := by kernel_rfl
theorem ti356 : Tryz.prog.ti 356 = { k := .func, sz := 1, by' := 8, z := some [.nilf] } := by kernel_rfl
theorem ti357 : Tryz.prog.ti 357 = { k := .func, sz := 1, by' := 8, z := some [.nilf] } := by kernel_rfl
theorem ti358 : Tryz.prog.ti 358 = { k := .func, sz := 1, by' := 8, z := some [.nilf] } := by kernel_rfl
theorem ti359 : Tryz.prog.ti 359 = { k := .ptr 84, sz := 1, by' := 8, z := some [.nilp] } := by kernel_rfl
theorem ti360 : Tryz.prog.ti 360 = { k := .func, sz := 1, by' := 8, z := some [.nilf] } := by kernel_rfl
theorem ti361 : Tryz.prog.ti 361 = { k := .func, sz := 1, by' := 8, z := some [.nilf] } := by kernel_rfl
theorem ti362 : Tryz.prog.ti 362 = { k := .func, sz := 1, by' := 8, z := some [.nilf] } := by kernel_rfl
theorem ti363 : Tryz.prog.ti 363 = { k := .func, sz := 1, by' := 8, z := some [.nilf] } := by kernel_rfl
theorem ti364 : Tryz.prog.ti 364 = { k := .func, sz := 1, by' := 8, z := some [.nilf] } := by kernel_rfl
theorem ti365 : Tryz.prog.ti 365 = { k := .func, sz := 1, by' := 8, z := some [.nilf] } := by kernel_rfl
theorem ti366 : Tryz.prog.ti 366 = { k := .func, sz := 1, by' := 8, z := some [.nilf] } := by kernel_rfl
theorem ti367 : Tryz.prog.ti 367 = { k := .func, sz := 1, by' := 8, z := some [.nilf] } := by kernel_rfl
theorem ti368 : Tryz.prog.ti 368 = { k := .func, sz := 1, by' := 8, z := some [.nilf] } := by kernel_rfl
theorem ti369 : Tryz.prog.ti 369 = { k := .func, sz := 1, by' := 8, z := some [.nilf] } := by kernel_rfl
theorem ti370 : Tryz.prog.ti 370 = { k := .func, sz := 1, by' := 8, z := some [.nilf] } := by kernel_rfl
theorem ti371 : Tryz.prog.ti 371 = { k := .func, sz := 1, by' := 8, z := some [.nilf] } := by kernel_rfl
theorem ti372 : Tryz.prog.ti 372 = { k := .func, sz := 1, by' := 8, z := some [.nilf] } := by kernel_rfl
theorem ti373 : Tryz.prog.ti 373 = { k := .func, sz := 1, by' := 8, z := some [.nilf] } := by kernel_rfl
theorem ti374 : Tryz.prog.ti 374 = { k := .func, sz := 1, by' := 8, z := some [.nilf] } := by kernel_rfl
theorem ti375 : Tryz.prog.ti 375 = { k := .func, sz := 1, by' := 8, z := some [.nilf] } := by kernel_rfl
theorem ti376 : Tryz.prog.ti 376 = { k := .func, sz := 1, by' := 8, z := some [.nilf] } := by kernel_rfl
theorem ti377 : Tryz.prog.ti 377 = { k := .func, sz := 1, by' := 8, z := some [.nilf] } := by kernel_rfl
theorem ti378 : Tryz.prog.ti 378 = { k := .int .u64, sz := 1, by' := 8, z := some [.int .u64 0] } := by kernel_rfl
theorem ti379 : Tryz.prog.ti 379 = { k := .struct [(0, 17), (1, 17), (2, 17), (3, 9)], sz := 4, by' := 40, z := some [.nilp, .nilp, .nilp, .str []] } := by kernel_rfl
theorem ti380 : Tryz.prog.ti 380 = { k := .struct [(0, 17), (1, 17), (2, 17), (3, 9)], sz := 4, by' := 40, z := some [.nilp, .nilp, .nilp, .str []] } := by kernel_rfl
theorem ti381 : Tryz.prog.ti 381 = { k := .arr 0 16, sz := 0, by' := 0, z := some [] } := by kernel_rfl
theorem ti382 : Tryz.prog.ti 382 = { k := .struct [(0, 381)], sz := 0, by' := 0, z := some [] } := by kernel_rfl
theorem ti383 : Tryz.prog.ti 383 = { k := .struct [(0, 381)], sz := 0, by' := 0, z := some [] } := by kernel_rfl
theorem ti384 : Tryz.prog.ti 384 = { k := .int .u32, sz := 1, by' := 4, z := some [.int .u32 0] } := by kernel_rfl
theorem ti385 : Tryz.prog.ti 385 = { k := .int .u8, sz := 1, by' := 1, z := some [.int .u8 0] } := by kernel_rfl
theorem ti386 : Tryz.prog.ti 386 = { k := .int .u8, sz := 1, by' := 1, z := some [.int .u8 0] } := by kernel_rfl
theorem ti387 : Tryz.prog.ti 387 = { k := .func, sz := 1, by' := 8, z := some [.nilf] } := by kernel_rfl
theorem ti388 : Tryz.prog.ti 388 = { k := .int .i32, sz := 1, by' := 4, z := some [.int .i32 0] } := by kernel_rfl
theorem ti389 : Tryz.prog.ti 389 = { k := .int .i32, sz := 1, by' := 4, z := some [.int .i32 0] } := by kernel_rfl
theorem ti390 : Tryz.prog.ti 390 = { k := .struct [(0, 12), (1, 12), (2, 384), (3, 385), (4, 5), (5, 5), (6, 386), (7, 387), (8, 341), (9, 388), (10, 389)], sz := 11, by' := 48, z := some [.int .u64 0, .int .u64 0, .int .u32 0, .int .u8 0, .int .u8 0, .int .u8 0, .int .u8 0, .nilf, .nilp, .int .i32 0, .int .i32 0] } := by kernel_rfl
theorem ti391 : Tryz.prog.ti 391 = { k := .struct [(0, 12), (1, 12), (2, 384), (3, 385), (4, 5), (5, 5), (6, 386), (7, 387), (8, 341), (9, 388), (10, 389)], sz := 11, by' := 48, z := some [.int .u64 0, .int .u64 0, .int .u32 0, .int .u8 0, .int .u8 0, .int .u8 0, .int .u8 0, .nilf, .nilp, .int .i32 0, .int .i32 0] } := by kernel_rfl
attribute [go_sem] ti1 ti2 ti3 ti4 ti5 ti6 ti7 ti8 ti9 ti10 ti11 ti12 ti13 ti14 ti15 ti16 ti17 ti18 ti19 ti20 ti21 ti22 ti23 ti24 ti25 ti26 ti27 ti29 ti31 ti32 ti33 ti34 ti35 ti36 ti37 ti38 ti39 ti40 ti41 ti42 ti43 ti44 ti45 ti46 ti47 ti48 ti50 ti51 ti52 ti53 ti54 ti55 ti56 ti58 ti59 ti60 ti62 ti63 ti64 ti66 ti67 ti68 ti69 ti70 ti71 ti72 ti73 ti74 ti76 ti77 ti78 ti79 ti80 ti81 ti82 ti83 ti84 ti85 ti87 ti88 ti89 ti90 ti91 ti92 ti93 ti94 ti95 ti96 ti97 ti98 ti99 ti100 ti101 ti102 ti103 ti104 ti105 ti106 ti107 ti108 ti109 ti110 ti111 ti112 ti113 ti114 ti115 ti116 ti117 ti119 ti120 ti121 ti122 ti123 ti124 ti125 ti126 ti127 ti128 ti129 ti130 ti131 ti132 ti133 ti134 ti135 ti136 ti137 ti138 ti139 ti140 ti141 ti142 ti143 ti144 ti145 ti146 ti147 ti148 ti149 ti150 ti151 ti152 ti153 ti154 ti155 ti156 ti157 ti158 ti159 ti160 ti161 ti162 ti163 ti164 ti165 ti166 ti168 ti169 ti170 ti171 ti172 ti173 ti174 ti175 ti176 ti177 ti179 ti180 ti181 ti182 ti183 ti184 ti185 ti186 ti187 ti188 ti189 ti190 ti191 ti192 ti193 ti194 ti195 ti196 ti198 ti199 ti200 ti201 ti202 ti203 ti204 ti205 ti206 ti207 ti208 ti209 ti210 ti211 ti212 ti213 ti214 ti216 ti218 ti219 ti220 ti221 ti222 ti223 ti224 ti225 ti226 ti227 ti228 ti229 ti230 ti231 ti232 ti233 ti234 ti235 ti236 ti237 ti238 ti239 ti240 ti241 ti242 ti243 ti244 ti245 ti246 ti247 ti248 ti249 ti251 ti252 ti253 ti254 ti255 ti256 ti257 ti258 ti259 ti260 ti261 ti262 ti263 ti264 ti265 ti266 ti267 ti268 ti269 ti270 ti271 ti272 ti273 ti274 ti275 ti276 ti277 ti278 ti279 ti280 ti281 ti282 ti283 ti284 ti285 ti286 ti288 ti289 ti290 ti291 ti292 ti293 ti294 ti295 ti296 ti297 ti298 ti299 ti300 ti301 ti302 ti303 ti304 ti305 ti306 ti307 ti308 ti309 ti310 ti311 ti313 ti314 ti315 ti316 ti318 ti319 ti320 ti321 ti322 ti323 ti324 ti325 ti326 ti327 ti328 ti329 ti330 ti331 ti332 ti333 ti334 ti335 ti336 ti337 ti338 ti339 ti340 ti341 ti342 ti343 ti344 ti345 ti346 ti347 ti348 ti350 ti352 ti353 ti354 ti355 ti356 ti357 ti358 ti359 ti360 ti361 ti362 ti363 ti364 ti365 ti366 ti367 ti368 ti369 ti370 ti371 ti372 ti373 ti374 ti375 ti376 ti377 ti378 ti379 ti380 ti381 ti382 ti383 ti384 ti385 ti386 ti387 ti388 ti389 ti390 ti391
attribute [go_sem] Tryz.ntmps3 Tryz.results3 Tryz.ntmps4 Tryz.results4 Tryz.ntmps5 Tryz.results5 Tryz.ntmps6 Tryz.results6 Tryz.ntmps7 Tryz.results7 Tryz.ntmps8 Tryz.results8 Tryz.ntmps9 Tryz.results9 Tryz.ntmps10 Tryz.results10 Tryz.ntmps11 Tryz.results11 Tryz.ntmps12 Tryz.results12 Tryz.ntmps13 Tryz.results13 Tryz.ntmps14 Tryz.results14 Tryz.ntmps15 Tryz.results15 Tryz.ntmps16 Tryz.results16 Tryz.ntmps17 Tryz.results17 Tryz.ntmps18 Tryz.results18 Tryz.ntmps19 Tryz.results19 Tryz.ntmps20 Tryz.results20 Tryz.ntmps21 Tryz.results21 Tryz.ntmps22 Tryz.results22 Tryz.ntmps23 Tryz.results23 Tryz.ntmps24 Tryz.results24 Tryz.ntmps25 Tryz.results25 Tryz.ntmps26 Tryz.results26 Tryz.ntmps27 Tryz.results27 Tryz.ntmps28 Tryz.results28 Tryz.ntmps29 Tryz.results29 Tryz.ntmps30 Tryz.results30 Tryz.ntmps31 Tryz.results31 Tryz.ntmps32 Tryz.results32 Tryz.ntmps33 Tryz.results33 Tryz.ntmps34 Tryz.results34 Tryz.ntmps35 Tryz.results35 Tryz.ntmps36 Tryz.results36 Tryz.ntmps37 Tryz.results37 Tryz.ntmps38 Tryz.results38 Tryz.ntmps39 Tryz.results39 Tryz.ntmps40 Tryz.results40 Tryz.ntmps41 Tryz.results41 Tryz.ntmps42 Tryz.results42 Tryz.ntmps43 Tryz.results43 Tryz.ntmps44 Tryz.results44 Tryz.ntmps45 Tryz.results45 Tryz.ntmps46 Tryz.results46 Tryz.ntmps47 Tryz.results47 Tryz.ntmps48 Tryz.results48 Tryz.ntmps49 Tryz.results49 Tryz.ntmps50 Tryz.results50 Tryz.ntmps51 Tryz.results51 Tryz.ntmps52 Tryz.results52 Tryz.ntmps53 Tryz.results53 Tryz.ntmps54 Tryz.results54 Tryz.ntmps55 Tryz.results55 Tryz.ntmps56 Tryz.results56 Tryz.ntmps57 Tryz.results57 Tryz.ntmps58 Tryz.results58 Tryz.ntmps59 Tryz.results59 Tryz.ntmps60 Tryz.results60 Tryz.ntmps61 Tryz.results61 Tryz.ntmps62 Tryz.results62 Tryz.ntmps63 Tryz.results63 Tryz.ntmps64 Tryz.results64 Tryz.ntmps65 Tryz.results65 Tryz.ntmps66 Tryz.results66 Tryz.ntmps67 Tryz.results67 Tryz.ntmps68 Tryz.results68 Tryz.ntmps69 Tryz.results69 Tryz.ntmps70 Tryz.results70 Tryz.ntmps71 Tryz.results71 Tryz.ntmps72 Tryz.results72 Tryz.ntmps73 Tryz.results73 Tryz.ntmps74 Tryz.results74 Tryz.ntmps75 Tryz.results75 Tryz.ntmps76 Tryz.results76 Tryz.ntmps77 Tryz.results77 Tryz.ntmps78 Tryz.results78 Tryz.ntmps79 Tryz.results79 Tryz.ntmps80 Tryz.results80 Tryz.ntmps81 Tryz.results81 Tryz.ntmps82 Tryz.results82 Tryz.ntmps83 Tryz.results83 Tryz.ntmps84 Tryz.results84 Tryz.ntmps85 Tryz.results85 Tryz.ntmps86 Tryz.results86 Tryz.ntmps87 Tryz.results87 Tryz.ntmps88 Tryz.results88 Tryz.ntmps89 Tryz.results89 Tryz.ntmps90 Tryz.results90 Tryz.ntmps91 Tryz.results91 Tryz.ntmps92 Tryz.results92 Tryz.ntmps93 Tryz.results93 Tryz.ntmps94 Tryz.results94 Tryz.ntmps95 Tryz.results95 Tryz.ntmps96 Tryz.results96 Tryz.ntmps97 Tryz.results97 Tryz.ntmps98 Tryz.results98 Tryz.ntmps99 Tryz.results99 Tryz.ntmps100 Tryz.results100 Tryz.ntmps101 Tryz.results101 Tryz.ntmps102 Tryz.results102 Tryz.ntmps103 Tryz.results103 Tryz.ntmps104 Tryz.results104 Tryz.ntmps105 Tryz.results105 Tryz.ntmps106 Tryz.results106 Tryz.ntmps107 Tryz.results107 Tryz.ntmps108 Tryz.results108 Tryz.ntmps109 Tryz.results109 Tryz.ntmps110 Tryz.results110 Tryz.ntmps111 Tryz.results111 Tryz.ntmps112 Tryz.results112 Tryz.ntmps113 Tryz.results113 Tryz.ntmps114 Tryz.results114 Tryz.ntmps115 Tryz.results115 Tryz.ntmps116 Tryz.results116 Tryz.ntmps117 Tryz.results117 Tryz.ntmps118 Tryz.results118 Tryz.ntmps119 Tryz.results119 Tryz.ntmps120 Tryz.results120 Tryz.ntmps121 Tryz.results121 Tryz.ntmps122 Tryz.results122 Tryz.ntmps123 Tryz.results123 Tryz.ntmps124 Tryz.results124 Tryz.ntmps125 Tryz.results125 Tryz.ntmps126 Tryz.results126 Tryz.ntmps127 Tryz.results127 Tryz.ntmps128 Tryz.results128 Tryz.ntmps129 Tryz.results129 Tryz.ntmps130 Tryz.results130 Tryz.ntmps131 Tryz.results131 Tryz.ntmps132 Tryz.results132 Tryz.ntmps133 Tryz.results133 Tryz.ntmps134 Tryz.results134 Tryz.ntmps135 Tryz.results135 Tryz.ntmps136 Tryz.results136 Tryz.ntmps137 Tryz.results137 Tryz.ntmps138 Tryz.results138 Tryz.ntmps139 Tryz.results139 Tryz.ntmps140 Tryz.results140 Tryz.ntmps141 Tryz.results141 Tryz.ntmps142 Tryz.results142 Tryz.ntmps143 Tryz.results143 Tryz.ntmps144 Tryz.results144 Tryz.ntmps145 Tryz.results145 Tryz.ntmps146 Tryz.results146 Tryz.ntmps147 Tryz.results147 Tryz.ntmps148 Tryz.results148 Tryz.ntmps149 Tryz.results149 Tryz.ntmps150 Tryz.results150 Tryz.ntmps151 Tryz.results151 Tryz.ntmps152 Tryz.results152 Tryz.ntmps153 Tryz.results153 Tryz.ntmps154 Tryz.results154 Tryz.ntmps155 Tryz.results155 Tryz.ntmps156 Tryz.results156 Tryz.ntmps157 Tryz.results157 Tryz.ntmps158 Tryz.results158 Tryz.ntmps159 Tryz.results159 Tryz.ntmps160 Tryz.results160 Tryz.ntmps161 Tryz.results161 Tryz.ntmps162 Tryz.results162 Tryz.ntmps163 Tryz.results163 Tryz.ntmps164 Tryz.results164 Tryz.ntmps165 Tryz.results165 Tryz.ntmps166 Tryz.results166 Tryz.ntmps167 Tryz.results167 Tryz.ntmps168 Tryz.results168 Tryz.ntmps169 Tryz.results169 Tryz.ntmps170 Tryz.results170 Tryz.ntmps171 Tryz.results171 Tryz.ntmps172 Tryz.results172 Tryz.ntmps173 Tryz.results173 Tryz.ntmps174 Tryz.results174 Tryz.ntmps175 Tryz.results175 Tryz.ntmps176 Tryz.results176 Tryz.ntmps177 Tryz.results177 Tryz.ntmps178 Tryz.results178 Tryz.ntmps179 Tryz.results179 Tryz.ntmps180 Tryz.results180 Tryz.ntmps181 Tryz.results181 Tryz.ntmps182 Tryz.results182 Tryz.ntmps183 Tryz.results183 Tryz.ntmps184 Tryz.results184 Tryz.ntmps185 Tryz.results185 Tryz.ntmps186 Tryz.results186 Tryz.ntmps187 Tryz.results187 Tryz.ntmps188 Tryz.results188 Tryz.ntmps189 Tryz.results189 Tryz.ntmps190 Tryz.results190 Tryz.ntmps191 Tryz.results191 Tryz.ntmps192 Tryz.results192 Tryz.ntmps193 Tryz.results193 Tryz.ntmps194 Tryz.results194 Tryz.ntmps195 Tryz.results195 Tryz.ntmps196 Tryz.results196 Tryz.ntmps197 Tryz.results197 Tryz.ntmps198 Tryz.results198 Tryz.ntmps199 Tryz.results199 Tryz.ntmps200 Tryz.results200 Tryz.ntmps201 Tryz.results201 Tryz.ntmps202 Tryz.results202 Tryz.ntmps203 Tryz.results203 Tryz.ntmps204 Tryz.results204 Tryz.ntmps205 Tryz.results205 Tryz.ntmps206 Tryz.results206 Tryz.ntmps207 Tryz.results207 Tryz.ntmps208 Tryz.results208 Tryz.ntmps209 Tryz.results209 Tryz.ntmps210 Tryz.results210 Tryz.ntmps211 Tryz.results211 Tryz.ntmps212 Tryz.results212 Tryz.ntmps213 Tryz.results213 Tryz.ntmps214 Tryz.results214 Tryz.ntmps215 Tryz.results215 Tryz.ntmps216 Tryz.results216 Tryz.ntmps217 Tryz.results217 Tryz.ntmps218 Tryz.results218 Tryz.ntmps219 Tryz.results219 Tryz.ntmps220 Tryz.results220 Tryz.ntmps221 Tryz.results221 Tryz.ntmps222 Tryz.results222 Tryz.ntmps223 Tryz.results223 Tryz.ntmps224 Tryz.results224 Tryz.ntmps225 Tryz.results225 Tryz.ntmps226 Tryz.results226 Tryz.ntmps227 Tryz.results227 Tryz.ntmps228 Tryz.results228 Tryz.ntmps229 Tryz.results229 Tryz.ntmps230 Tryz.results230 Tryz.ntmps231 Tryz.results231 Tryz.ntmps232 Tryz.results232 Tryz.ntmps233 Tryz.results233 Tryz.ntmps234 Tryz.results234 Tryz.ntmps235 Tryz.results235 Tryz.ntmps236 Tryz.results236 Tryz.ntmps237 Tryz.results237 Tryz.ntmps238 Tryz.results238 Tryz.ntmps239 Tryz.results239 Tryz.ntmps240 Tryz.results240 Tryz.ntmps241 Tryz.results241 Tryz.ntmps242 Tryz.results242 Tryz.ntmps243 Tryz.results243 Tryz.ntmps244 Tryz.results244 Tryz.ntmps245 Tryz.results245 Tryz.ntmps246 Tryz.results246 Tryz.ntmps247 Tryz.results247 Tryz.ntmps248 Tryz.results248 Tryz.ntmps249 Tryz.results249 Tryz.ntmps250 Tryz.results250 Tryz.ntmps251 Tryz.results251 Tryz.ntmps252 Tryz.results252 Tryz.ntmps253 Tryz.results253 Tryz.ntmps254 Tryz.results254 Tryz.ntmps255 Tryz.results255 Tryz.ntmps256 Tryz.results256 Tryz.ntmps257 Tryz.results257 Tryz.ntmps258 Tryz.results258 Tryz.ntmps259 Tryz.results259 Tryz.ntmps260 Tryz.results260 Tryz.ntmps261 Tryz.results261 Tryz.ntmps262 Tryz.results262 Tryz.ntmps263 Tryz.results263 Tryz.ntmps264 Tryz.results264 Tryz.ntmps265 Tryz.results265 Tryz.ntmps266 Tryz.results266 Tryz.ntmps267 Tryz.results267 Tryz.ntmps268 Tryz.results268 Tryz.ntmps269 Tryz.results269 Tryz.ntmps270 Tryz.results270 Tryz.ntmps271 Tryz.results271 Tryz.ntmps272 Tryz.results272 Tryz.ntmps273 Tryz.results273 Tryz.ntmps274 Tryz.results274 Tryz.ntmps275 Tryz.results275 Tryz.ntmps276 Tryz.results276 Tryz.ntmps277 Tryz.results277 Tryz.ntmps278 Tryz.results278 Tryz.ntmps279 Tryz.results279 Tryz.ntmps280 Tryz.results280 Tryz.ntmps281 Tryz.results281 Tryz.ntmps282 Tryz.results282 Tryz.ntmps283 Tryz.results283 Tryz.ntmps284 Tryz.results284 Tryz.ntmps285 Tryz.results285 Tryz.ntmps286 Tryz.results286 Tryz.ntmps287 Tryz.results287 Tryz.ntmps288 Tryz.results288 Tryz.ntmps289 Tryz.results289 Tryz.ntmps290 Tryz.results290 Tryz.ntmps291 Tryz.results291 Tryz.ntmps292 Tryz.results292 Tryz.ntmps293 Tryz.results293 Tryz.ntmps294 Tryz.results294 Tryz.ntmps295 Tryz.results295 Tryz.ntmps296 Tryz.results296 Tryz.ntmps297 Tryz.results297 Tryz.ntmps298 Tryz.results298 Tryz.ntmps299 Tryz.results299 Tryz.ntmps300 Tryz.results300 Tryz.ntmps301 Tryz.results301 Tryz.ntmps302 Tryz.results302 Tryz.ntmps303 Tryz.results303 Tryz.ntmps304 Tryz.results304 Tryz.ntmps305 Tryz.results305 Tryz.ntmps306 Tryz.results306 Tryz.ntmps307 Tryz.results307 Tryz.ntmps308 Tryz.results308 Tryz.ntmps309 Tryz.results309 Tryz.ntmps310 Tryz.results310 Tryz.ntmps311 Tryz.results311 Tryz.ntmps312 Tryz.results312 Tryz.ntmps313 Tryz.results313 Tryz.ntmps314 Tryz.results314 Tryz.ntmps315 Tryz.results315 Tryz.ntmps316 Tryz.results316 Tryz.ntmps317 Tryz.results317 Tryz.ntmps318 Tryz.results318 Tryz.ntmps319 Tryz.results319 Tryz.ntmps320 Tryz.results320 Tryz.ntmps321 Tryz.results321 Tryz.ntmps322 Tryz.results322 Tryz.ntmps323 Tryz.results323 Tryz.ntmps324 Tryz.results324 Tryz.ntmps325 Tryz.results325 Tryz.ntmps326 Tryz.results326 Tryz.ntmps327 Tryz.results327 Tryz.ntmps328 Tryz.results328 Tryz.ntmps329 Tryz.results329 Tryz.ntmps330 Tryz.results330 Tryz.ntmps331 Tryz.results331 Tryz.ntmps332 Tryz.results332 Tryz.ntmps333 Tryz.results333 Tryz.ntmps334 Tryz.results334 Tryz.ntmps335 Tryz.results335 Tryz.ntmps336 Tryz.results336 Tryz.ntmps337 Tryz.results337 Tryz.ntmps338 Tryz.results338 Tryz.ntmps339 Tryz.results339 Tryz.ntmps340 Tryz.results340 Tryz.ntmps341 Tryz.results341 Tryz.ntmps342 Tryz.results342 Tryz.ntmps343 Tryz.results343 Tryz.ntmps344 Tryz.results344 Tryz.ntmps345 Tryz.results345 Tryz.ntmps346 Tryz.results346 Tryz.ntmps347 Tryz.results347 Tryz.ntmps348 Tryz.results348 Tryz.ntmps349 Tryz.results349 Tryz.ntmps350 Tryz.results350 Tryz.ntmps351 Tryz.results351 Tryz.ntmps352 Tryz.results352 Tryz.ntmps353 Tryz.results353 Tryz.ntmps354 Tryz.results354 Tryz.ntmps355 Tryz.results355 Tryz.ntmps356 Tryz.results356 Tryz.ntmps357 Tryz.results357 Tryz.ntmps358 Tryz.results358 Tryz.ntmps359 Tryz.results359 Tryz.ntmps360 Tryz.results360 Tryz.ntmps361 Tryz.results361 Tryz.ntmps362 Tryz.results362 Tryz.ntmps363 Tryz.results363 Tryz.ntmps364 Tryz.results364 Tryz.ntmps365 Tryz.results365 Tryz.ntmps366 Tryz.results366 Tryz.ntmps367 Tryz.results367 Tryz.ntmps368 Tryz.results368 Tryz.ntmps369 Tryz.results369 Tryz.ntmps370 Tryz.results370 Tryz.ntmps371 Tryz.results371 Tryz.ntmps372 Tryz.results372 Tryz.ntmps373 Tryz.results373 Tryz.ntmps374 Tryz.results374 Tryz.ntmps375 Tryz.results375 Tryz.ntmps376 Tryz.results376 Tryz.ntmps377 Tryz.results377 Tryz.ntmps378 Tryz.results378 Tryz.ntmps379 Tryz.results379 Tryz.ntmps380 Tryz.results380 Tryz.ntmps381 Tryz.results381 Tryz.ntmps382 Tryz.results382 Tryz.ntmps383 Tryz.results383 Tryz.ntmps384 Tryz.results384 Tryz.ntmps385 Tryz.results385 Tryz.ntmps386 Tryz.results386 Tryz.ntmps387 Tryz.results387 Tryz.ntmps388 Tryz.results388 Tryz.ntmps389 Tryz.results389 Tryz.ntmps390 Tryz.results390 Tryz.ntmps391 Tryz.results391 Tryz.ntmps392 Tryz.results392 Tryz.ntmps393 Tryz.results393 Tryz.ntmps394 Tryz.results394 Tryz.ntmps395 Tryz.results395 Tryz.ntmps396 Tryz.results396 Tryz.ntmps397 Tryz.results397 Tryz.ntmps398 Tryz.results398 Tryz.ntmps399 Tryz.results399 Tryz.ntmps400 Tryz.results400 Tryz.ntmps401 Tryz.results401 Tryz.ntmps402 Tryz.results402
attribute [go_sem] Nat.reduceEqDiff Nat.reduceLT Nat.reduceAdd Nat.reduceMul Nat.reduceLeDiff Nat.reduceSub Nat.reduceBEq Int.reduceEq Int.reduceLT Int.reduceLE Int.reduceToNat Int.reduceAdd Int.reduceSub Int.reduceNeg UInt8.reduceToNat
attribute [go_sem ↓] reduceIte
variable {t : TypeId} {fz : Nat × Nat}
def smZ (n : Int) : Bool := (decide (97 ≤ n) && decide (n ≤ 122)) || decide (n = 95)
def grZ (n : Int) : Bool := decide (65 ≤ n) && decide (n ≤ 90)
def diZ (n : Int) : Bool := decide (48 ≤ n) && decide (n ≤ 57)
def sm (c : UInt8) : Bool := smZ c.toNat
def gr (c : UInt8) : Bool := grZ c.toNat
def mo (c : UInt8) : Bool := sm c || gr c || diZ c.toNat
def u8 (c : UInt8) : D := .int .u8 (c.toNat : Nat)
theorem f226_ok {G} (c : UInt8) : HP Tryz.prog G 226 [u8 c] (fun r => r = .d (.bool (sm c))) := by
  refine funP_ok Tryz.func226 rfl (by decide +kernel) (by simp [Tryz.ntmps226]) (veil fun E => ?_)
  unfold u8
  simp only [go_sem]
  refine e_gifd E (fun h1 => ?_) (fun h1 => ?_) <;> simp only [go_sem]
  · refine e_gifd E (fun h2 => ?_) (fun h2 => ?_) <;> simp only [go_sem]
    · simp [sm, smZ, h1, h2]
    · simp [sm, smZ, h1, h2]
  · simp [sm, smZ, h1]
theorem f228_ok {G} (c : UInt8) : HP Tryz.prog G 228 [u8 c] (fun r => r = .d (.bool (gr c))) := by
  refine funP_ok Tryz.func228 rfl (by decide +kernel) (by simp [Tryz.ntmps228]) (veil fun E => ?_)
  unfold u8
  simp only [go_sem]
  refine e_gifd E (fun h1 => ?_) (fun h1 => ?_) <;> simp only [go_sem]
  · simp [gr, grZ, h1]
  · simp [gr, grZ, h1]
theorem f266_ok {G} (c : UInt8) : HP Tryz.prog G 266 [u8 c] (fun r => r = .d (.bool (mo c))) := by
  refine funP_ok Tryz.func266 rfl (by decide +kernel) (by simp [Tryz.ntmps266]) (veil fun E => ?_)
  unfold u8
  simp only [go_sem]
  refine e_call E (f226_ok c) rfl rfl (by simp) ?_
  rintro _ rfl
  simp only [go_sem]
  refine e_gif E (fun h1 => ?_) (fun h1 => ?_) <;> simp only [go_sem]
  · simp [mo, h1]
  refine e_call E (f228_ok c) rfl rfl (by simp) ?_
  rintro _ rfl
  simp only [go_sem]
  refine e_gif E (fun h2 => ?_) (fun h2 => ?_) <;> simp only [go_sem]
  · simp [mo, h2]
  refine e_gifd E (fun h3 => ?_) (fun h3 => ?_) <;> simp only [go_sem]
  · simp [mo, h1, h2, diZ, h3]
  · simp [mo, h1, h2, diZ, h3]
def wlen : List UInt8 → Nat
  | [] => 0
  | c :: r => if mo c then wlen r + 1 else 0
def wordN (l : List UInt8) : Nat := match l with
  | [] => 0
  | c :: r => if sm c || gr c then wlen r + 1 else 0
theorem wlen_drop {l : List UInt8} {i : Nat} (h : i < l.length) : wlen (l.drop i) = if mo (l.getD i 0) then wlen (l.drop (i + 1)) + 1 else 0 := by
  have e : l.getD i 0 = l[i] := by simp [h]
  rw [List.drop_eq_getElem_cons h, wlen, e]
theorem wlen_end {l : List UInt8} : wlen (l.drop l.length) = 0 := by rw [List.drop_length]; rfl
theorem wlen_le : ∀ l : List UInt8, wlen l ≤ l.length
  | [] => Nat.le_refl _
  | c :: r => by
    unfold wlen
    have := wlen_le r
    split <;> simp <;> omega
theorem wordN_cons {l : List UInt8} (h : 1 ≤ l.length) : wordN l = if sm (l.getD 0 0) || gr (l.getD 0 0) then wlen (l.drop 1) + 1 else 0 := by
  cases l with
  | nil => simp at h
  | cons c r => rfl
theorem f215_ok {G} (l : List UInt8) (hl : l.length ≤ 9223372036854775807) : HP Tryz.prog G 215 [.str l] (fun r => r = .d (i64 (wordN l))) := by
  refine funP_ok Tryz.func215 rfl (by decide +kernel) (by simp [Tryz.ntmps215]) (veil fun E => ?_)
  simp only [go_sem]
  refine e_gif E (fun h0 => ?_) (fun h0 => ?_) <;> simp only [go_sem]
  · have : l = [] := by simpa using h0
    subst this; rfl
  have h0 : 1 ≤ l.length := by
    cases l with
    | nil => simp at h0
    | cons c r => simp
  refine ⟨by omega, ?_⟩
  refine e_call E (f226_ok (l.getD 0 0)) rfl rfl (by simp) ?_
  rintro _ rfl
  simp only [go_sem]
  refine e_gif E (fun h1 => ?_) (fun h1 => ?_) <;> simp only [go_sem]
  · have h1 : sm (l.getD 0 0) = false := by simpa using h1
    refine ⟨by omega, ?_⟩
    refine e_call E (f228_ok (l.getD 0 0)) rfl rfl (by simp) ?_
    rintro _ rfl
    simp only [go_sem]
    refine e_if E (fun h2 => ?_) (fun h2 => ?_) <;> simp only [go_sem]
    · have h2 : gr (l.getD 0 0) = false := by simpa using h2
      rw [wordN_cons h0, h1, h2]; rfl
    · have h2 : gr (l.getD 0 0) = true := by simpa using h2
      have hsg : (sm (l.getD 0 0) || gr (l.getD 0 0)) = true := by rw [h2, Bool.or_true]
      refine loopP_e E (X := { i : Nat // i ≤ l.length ∧ i + wlen (l.drop i) = wlen (l.drop 1) + 1 }) (fun x => [(0, .d (.str l)), (3, .d (i64 x.1))]) (fun x => l.length - x.1) rfl ⟨1, h0, by omega⟩ ?_ ?_
      · simp only [go_sem]
        all_goals rfl
      rintro ⟨i, hi, hw⟩ E'
      simp only [go_sem]
      have hn : wordN l = wlen (l.drop 1) + 1 := by rw [wordN_cons h0, hsg, if_pos rfl]
      refine e_gifd E' (fun h3 => ?_) (fun h3 => ?_) <;> simp only [go_sem]
      · have hi' : i < l.length := by omega
        have hwd := wlen_drop hi'
        refine ⟨⟨by omega, by omega⟩, ?_⟩
        refine e_call E' (f266_ok (l.getD i 0)) rfl rfl (by simp) ?_
        rintro _ rfl
        simp only [go_sem]
        refine e_if E' (fun h4 => ?_) (fun h4 => ?_) <;> simp only [go_sem]
        · rw [h4, if_pos rfl] at hwd
          refine ⟨⟨i + 1, by omega, by omega⟩, by show l.length - (i + 1) < _; omega, ?_⟩
          rw [w64_in ⟨by omega, by omega⟩]; rfl
        · rw [h4, if_neg (by simp)] at hwd
          rw [hn]
          exact congrArg (fun n : Nat => AV.d (i64 (n : Int))) (by omega)
      · have hil : i = l.length := by omega
        subst hil
        rw [wlen_end] at hw
        rw [hn]
        exact congrArg (fun n : Nat => AV.d (i64 (n : Int))) (by omega)
  · have h1 : sm (l.getD 0 0) = true := by simpa using h1
    have hsg : (sm (l.getD 0 0) || gr (l.getD 0 0)) = true := by rw [h1, Bool.true_or]
    refine loopP_e E (X := { i : Nat // i ≤ l.length ∧ i + wlen (l.drop i) = wlen (l.drop 1) + 1 }) (fun x => [(0, .d (.str l)), (3, .d (i64 x.1))]) (fun x => l.length - x.1) rfl ⟨1, h0, by omega⟩ ?_ ?_
    · simp only [go_sem]
      all_goals rfl
    rintro ⟨i, hi, hw⟩ E'
    simp only [go_sem]
    have hn : wordN l = wlen (l.drop 1) + 1 := by rw [wordN_cons h0, hsg, if_pos rfl]
    refine e_gifd E' (fun h3 => ?_) (fun h3 => ?_) <;> simp only [go_sem]
    · have hi' : i < l.length := by omega
      have hwd := wlen_drop hi'
      refine ⟨⟨by omega, by omega⟩, ?_⟩
      refine e_call E' (f266_ok (l.getD i 0)) rfl rfl (by simp) ?_
      rintro _ rfl
      simp only [go_sem]
      refine e_if E' (fun h4 => ?_) (fun h4 => ?_) <;> simp only [go_sem]
      · rw [h4, if_pos rfl] at hwd
        refine ⟨⟨i + 1, by omega, by omega⟩, by show l.length - (i + 1) < _; omega, ?_⟩
        rw [w64_in ⟨by omega, by omega⟩]; rfl
      · rw [h4, if_neg (by simp)] at hwd
        rw [hn]
        exact congrArg (fun n : Nat => AV.d (i64 (n : Int))) (by omega)
    · have hil : i = l.length := by omega
      subst hil
      rw [wlen_end] at hw
      rw [hn]
      exact congrArg (fun n : Nat => AV.d (i64 (n : Int))) (by omega)
variable {t : TypeId} {fz : Nat × Nat}
theorem mixed : Tryz.prog.follows .mixedOrders = true := by kernel_rfl
def kwB : List (List UInt8) := [[102, 117, 110], [108, 101, 116], [114, 101, 99], [105, 110], [105, 102], [116, 104, 101, 110], [101, 108, 115, 101], [99, 97, 115, 101], [111, 102], [101, 110, 100], [116, 114, 117, 101], [102, 97, 108, 115, 101], [99, 104, 101, 99, 107], [97, 115, 107], [116, 111, 112], [98, 111, 116], [105, 110, 116], [98, 111, 111, 108], [115, 116, 114, 105, 110, 103], [109, 117]]
def strs (l : List (List UInt8)) : D := .sl none (l.map .str)
theorem f273_ok {G} : HP Tryz.prog G 273 [] (fun r => r = .d (strs kwB)) := by
  refine funZ_ok Tryz.func273 rfl (by decide +kernel) (by simp [Tryz.ntmps273]) (veil fun E => ?_)
  simp only [go_sem]
  refine ⟨[([1], none, kwB.map .str)], ?_⟩
  simp only [go_sem]
  refine ⟨rfl, ?_⟩
  rfl
theorem strs_get {l : List (List UInt8)} {i : Nat} (h : i < l.length) : (l.map D.str).getD i .nilp = .str (l.getD i []) := by
  simp [h]
theorem take_mem {l : List (List UInt8)} {i : Nat} {s : List UInt8} (hi : i < l.length) (h : s ∉ l.take i) (h2 : l.getD i [] ≠ s) : s ∉ l.take (i + 1) := by
  rw [List.take_succ_eq_append_getElem hi]
  simp only [List.mem_append, List.mem_singleton, not_or]
  refine ⟨h, fun e => h2 ?_⟩
  simp [hi, e]
theorem f307_ok {G} (l : List (List UInt8)) (s : List UInt8) (hl : l.length ≤ 9223372036854775807) : HP Tryz.prog G 307 [strs l, .str s] (fun r => ∃ n, r = .d (i64 n) ∧ (0 ≤ n ↔ s ∈ l)) := by
  refine funP_ok Tryz.func307 rfl (by decide +kernel) (by simp [Tryz.ntmps307]) (veil fun E => ?_)
  unfold strs
  simp only [go_sem]
  refine loopP_e E (X := { i : Nat // i ≤ l.length ∧ s ∉ l.take i }) (fun x => [(0, .d (.sl none (l.map .str))), (1, .d (.str s)), (7, .d (i64 l.length)), (8, .d (i64 x.1))]) (fun x => l.length - x.1) rfl ⟨0, by simp, by simp⟩ ?_ ?_
  · simp only [go_sem]
    all_goals rfl
  rintro ⟨i, hi, hm⟩ E'
  simp only [go_sem]
  refine e_ifd E' (fun h6 => ?_) (fun h6 => ?_) <;> simp only [go_sem]
  · have hi' : i < l.length := by omega
    refine ⟨⟨by omega, by omega⟩, ?_⟩
    rw [strs_get hi']
    simp only [go_sem]
    refine e_if E' (fun h7 => ?_) (fun h7 => ?_) <;> simp only [go_sem]
    · have h7 : s = l.getD i [] := by simpa using h7
      have : s ∈ l := by
        rw [h7]
        simp [hi']
      exact ⟨_, rfl, fun _ => this, fun _ => by omega⟩
    · have h7 : l.getD i [] ≠ s := by
        intro e
        rw [e] at h7
        simp at h7
      refine ⟨⟨i + 1, by omega, take_mem hi' hm h7⟩, by show l.length - (i + 1) < _; omega, ?_⟩
      rw [w64_in ⟨by omega, by omega⟩]; rfl
  · have hil : i = l.length := by omega
    subst hil
    rw [List.take_length] at hm
    exact ⟨-1, rfl, fun h => absurd h (by decide), fun h => absurd h hm⟩
theorem f272_ok {G} (l : List (List UInt8)) (s : List UInt8) (hl : l.length ≤ 9223372036854775807) : HP Tryz.prog G 272 [strs l, .str s] (fun r => r = .d (.bool (decide (s ∈ l)))) := by
  refine funP_ok Tryz.func272 rfl (by decide +kernel) (by simp [Tryz.ntmps272]) (veil fun E => ?_)
  simp only [go_sem]
  refine e_call E (f307_ok l s hl) rfl rfl (by simp) ?_
  rintro _ ⟨n, rfl, hn⟩
  simp only [go_sem]
  have : decide (0 ≤ n) = decide (s ∈ l) := by rw [Bool.eq_iff_iff]; simpa using hn
  rw [this]
def isKw (s : List UInt8) : Bool := decide (s ∈ kwB)
theorem kwLen : kwB.length ≤ 9223372036854775807 := by decide
theorem f227_ok {G} (s : List UInt8) : HP Tryz.prog G 227 [.str s] (fun r => r = .d (.bool (isKw s))) := by
  refine funP_ok Tryz.func227 rfl (by decide +kernel) (by simp [Tryz.ntmps227]) (veil fun E => ?_)
  simp only [go_sem]
  refine e_call E f273_ok rfl rfl (by simp) ?_
  rintro _ rfl
  simp only [go_sem]
  refine e_call E (f272_ok kwB s kwLen) rfl rfl (by simp) ?_
  rintro _ rfl
  simp only [go_sem]
  rfl
def wholeB (s : List UInt8) : Bool := !s.isEmpty && decide (s.length ≤ 20) && decide (wordN s = s.length)
def nameB (s : List UInt8) : Bool := wholeB s && sm (s.getD 0 0) && !isKw s
def tagB (s : List UInt8) : Bool := wholeB s && gr (s.getD 0 0)
theorem i64_nat (a b : Nat) : decide (((a : Nat) : Int) = ((b : Nat) : Int)) = decide (a = b) := by rw [Bool.eq_iff_iff]; simp; omega
variable {t : TypeId} {fz : Nat × Nat}
theorem f225_ok {G} (s : List UInt8) (hl : s.length ≤ 9223372036854775807) : HP Tryz.prog G 225 [.str s] (fun r => r = .d (.bool (wholeB s))) := by
  refine funP_ok Tryz.func225 rfl (by decide +kernel) (by simp [Tryz.ntmps225]) (veil fun E => ?_)
  simp only [go_sem]
  refine e_gif E (fun h0 => ?_) (fun h0 => ?_) <;> simp only [go_sem]
  · refine e_gifd E (fun h1 => ?_) (fun h1 => ?_) <;> simp only [go_sem]
    · refine e_call E (f215_ok s hl) rfl rfl (by simp) ?_
      rintro _ rfl
      simp only [go_sem]
      have h0 : s.isEmpty = false := by simpa using h0
      simp only [wholeB, h0, i64_nat]
      rw [decide_eq_true (p := s.length ≤ 20) (by omega)]
      rfl
    · have : ¬ s.length ≤ 20 := by omega
      simp only [wholeB]
      rw [decide_eq_false this, Bool.and_false, Bool.false_and]
  · have h0 : s.isEmpty = true := by simpa using h0
    simp only [wholeB, h0]
    rfl
theorem whole_ne {s : List UInt8} (h : wholeB s = true) : 1 ≤ s.length := by
  cases s with
  | nil => simp [wholeB] at h
  | cons c r => simp
theorem f157_ok {G} (s : List UInt8) (hl : s.length ≤ 9223372036854775807) : HP Tryz.prog G 157 [.str s] (fun r => r = .d (.bool (nameB s))) := by
  refine funP_ok Tryz.func157 rfl (by decide +kernel) (by simp [Tryz.ntmps157]) (veil fun E => ?_)
  simp only [go_sem]
  refine e_call E (f225_ok s hl) rfl rfl (by simp) ?_
  rintro _ rfl
  simp only [go_sem]
  refine e_gif E (fun h1 => ?_) (fun h1 => ?_) <;> simp only [go_sem]
  · have := whole_ne h1
    refine ⟨by omega, ?_⟩
    refine e_call E (f226_ok (s.getD 0 0)) rfl rfl (by simp) ?_
    rintro _ rfl
    simp only [go_sem]
    refine e_gif E (fun h2 => ?_) (fun h2 => ?_) <;> simp only [go_sem]
    · refine e_call E (f227_ok s) rfl rfl (by simp) ?_
      rintro _ rfl
      simp only [go_sem]
      simp only [nameB, h1, h2, Bool.true_and]
    · simp only [nameB, h1, h2, Bool.true_and, Bool.false_and]
  · simp only [nameB, h1, Bool.false_and]
theorem f158_ok {G} (s : List UInt8) (hl : s.length ≤ 9223372036854775807) : HP Tryz.prog G 158 [.str s] (fun r => r = .d (.bool (tagB s))) := by
  refine funP_ok Tryz.func158 rfl (by decide +kernel) (by simp [Tryz.ntmps158]) (veil fun E => ?_)
  simp only [go_sem]
  refine e_call E (f225_ok s hl) rfl rfl (by simp) ?_
  rintro _ rfl
  simp only [go_sem]
  refine e_gif E (fun h1 => ?_) (fun h1 => ?_) <;> simp only [go_sem]
  · have := whole_ne h1
    refine ⟨by omega, ?_⟩
    refine e_call E (f228_ok (s.getD 0 0)) rfl rfl (by simp) ?_
    rintro _ rfl
    simp only [go_sem]
    simp only [tagB, h1, Bool.true_and]
  · simp only [tagB, h1, Bool.false_and]
end Go.Proofs.YtejpnabbmgpmaaaGreat
