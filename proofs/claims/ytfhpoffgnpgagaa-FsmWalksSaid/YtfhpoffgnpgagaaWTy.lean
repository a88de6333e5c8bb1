/- What the types of this program are to the calculus. Laid by program. No condition. -/
import Derived.Test.YtfhpoffgnpgagaaAbsWm
import Derived.Test.YtfhpoffgnpgagaaRows
set_option linter.unusedSimpArgs false
set_option linter.unusedVariables false
namespace Go.Proofs.Ytfhpoffgnpgagaa
open Go Go.Proofs Go.Abs
set_option linter.unusedVariables false
set_option maxRecDepth 100000
theorem follows_any : Try.prog.follows .mixedOrders = true := by kernel_rfl
theorem fi_65_2 : fieldT Try.prog 65 2 = some (2, 1, 63) := by kernel_rfl
theorem ty_63 : tyT Try.prog 63 = some (false, 1) := by kernel_rfl
theorem sl_63 : isSl Try.prog 63 = true := by kernel_rfl
theorem fi_65_0 : fieldT Try.prog 65 0 = some (0, 1, 3) := by kernel_rfl
theorem ty_3 : tyT Try.prog 3 = some (false, 1) := by kernel_rfl
theorem fi_65_1 : fieldT Try.prog 65 1 = some (1, 1, 9) := by kernel_rfl
theorem ty_9 : tyT Try.prog 9 = some (false, 1) := by kernel_rfl
theorem st_9 : isStr Try.prog 9 = true := by kernel_rfl
theorem el_26 : elemT Try.prog 26 = some 61 := by kernel_rfl
theorem sz_61 : szOf Try.prog 61 = 4 := by kernel_rfl
theorem fi_61_2 : fieldT Try.prog 61 2 = some (2, 1, 3) := by kernel_rfl
theorem ty_65 : tyT Try.prog 65 = some (true, 3) := by kernel_rfl
theorem enter_51 : enterOK Try.prog 51 = true := by kernel_rfl
theorem fi_61_3 : fieldT Try.prog 61 3 = some (3, 1, 3) := by kernel_rfl
theorem sl_26 : isSl Try.prog 26 = true := by kernel_rfl
theorem el_22 : elemT Try.prog 22 = some 3 := by kernel_rfl
theorem sz_3 : szOf Try.prog 3 = 1 := by kernel_rfl
theorem el_63 : elemT Try.prog 63 = some 28 := by kernel_rfl
theorem sz_28 : szOf Try.prog 28 = 1 := by kernel_rfl
theorem ty_28 : tyT Try.prog 28 = some (false, 1) := by kernel_rfl
theorem fi_61_1 : fieldT Try.prog 61 1 = some (1, 1, 3) := by kernel_rfl
theorem sl_28 : isSl Try.prog 28 = true := by kernel_rfl
theorem el_28 : elemT Try.prog 28 = some 65 := by kernel_rfl
theorem sz_65 : szOf Try.prog 65 = 3 := by kernel_rfl
theorem enter_34 : enterOK Try.prog 34 = true := by kernel_rfl
theorem sl_22 : isSl Try.prog 22 = true := by kernel_rfl
theorem ze_3 : zeroT Try.prog 3 = some (([.int .i64 0] : List PD).map (PV.d true)) := by kernel_rfl
theorem by_3 : bytesT Try.prog 3 = 8 := by kernel_rfl
theorem enter_48 : enterOK Try.prog 48 = true := by kernel_rfl
theorem enter_32 : enterOK Try.prog 32 = true := by kernel_rfl
theorem el_73 : elemT Try.prog 73 = some 78 := by kernel_rfl
theorem ze_78 : zeroT Try.prog 78 = some (([.int .i64 0, .int .i64 0, .int .i64 0, .int .i64 0] : List PD).map (PV.d true)) := by kernel_rfl
theorem sz_78 : szOf Try.prog 78 = 4 := by kernel_rfl
theorem by_78 : bytesT Try.prog 78 = 32 := by kernel_rfl
theorem sl_73 : isSl Try.prog 73 = true := by kernel_rfl
theorem ty_78 : tyT Try.prog 78 = some (true, 4) := by kernel_rfl
theorem eq_78 : eqT Try.prog 78 = some [(0, 0), (1, 0), (2, 0), (3, 0)] := by kernel_rfl
theorem enter_54 : enterOK Try.prog 54 = true := by kernel_rfl
theorem ty_22 : tyT Try.prog 22 = some (false, 1) := by kernel_rfl
theorem ty_61 : tyT Try.prog 61 = some (true, 4) := by kernel_rfl
theorem ze_61 : zeroT Try.prog 61 = some (([.str [], .int .i64 0, .int .i64 0, .int .i64 0] : List PD).map (PV.d true)) := by kernel_rfl
theorem sl_124 : isSl Try.prog 124 = true := by kernel_rfl
theorem el_124 : elemT Try.prog 124 = some 126 := by kernel_rfl
theorem sz_126 : szOf Try.prog 126 = 2 := by kernel_rfl
theorem fi_126_1 : fieldT Try.prog 126 1 = some (1, 1, 3) := by kernel_rfl
theorem fi_126_0 : fieldT Try.prog 126 0 = some (0, 1, 3) := by kernel_rfl
theorem enter_53 : enterOK Try.prog 53 = true := by kernel_rfl
theorem ze_126 : zeroT Try.prog 126 = some (([.int .i64 0, .int .i64 0] : List PD).map (PV.d true)) := by kernel_rfl
theorem sr_126 : structT Try.prog 126 = some [(0, 1), (1, 1)] := by kernel_rfl
theorem by_126 : bytesT Try.prog 126 = 16 := by kernel_rfl
theorem ty_126 : tyT Try.prog 126 = some (true, 2) := by kernel_rfl
theorem ze_22 : zeroT Try.prog 22 = some (([.nil] : List PD).map (PV.d true)) := by kernel_rfl
theorem enter_52 : enterOK Try.prog 52 = true := by kernel_rfl
theorem enter_25 : enterOK Try.prog 25 = true := by kernel_rfl
theorem enter_37 : enterOK Try.prog 37 = true := by kernel_rfl
theorem sr_78 : structT Try.prog 78 = some [(0, 1), (1, 1), (2, 1), (3, 1)] := by kernel_rfl
theorem fi_78_1 : fieldT Try.prog 78 1 = some (1, 1, 3) := by kernel_rfl
theorem fi_78_2 : fieldT Try.prog 78 2 = some (2, 1, 3) := by kernel_rfl
theorem enter_38 : enterOK Try.prog 38 = true := by kernel_rfl
theorem enter_19 : enterOK Try.prog 19 = true := by kernel_rfl
theorem fi_78_0 : fieldT Try.prog 78 0 = some (0, 1, 3) := by kernel_rfl
theorem enter_39 : enterOK Try.prog 39 = true := by kernel_rfl
theorem enter_40 : enterOK Try.prog 40 = true := by kernel_rfl
theorem ty_26 : tyT Try.prog 26 = some (false, 1) := by kernel_rfl
theorem ty_73 : tyT Try.prog 73 = some (false, 1) := by kernel_rfl
theorem enter_24 : enterOK Try.prog 24 = true := by kernel_rfl
theorem enter_21 : enterOK Try.prog 21 = true := by kernel_rfl
theorem enter_23 : enterOK Try.prog 23 = true := by kernel_rfl
theorem enter_22 : enterOK Try.prog 22 = true := by kernel_rfl
theorem ze_73 : zeroT Try.prog 73 = some (([.nil] : List PD).map (PV.d true)) := by kernel_rfl
theorem el_23 : elemT Try.prog 23 = some 22 := by kernel_rfl
theorem sz_22 : szOf Try.prog 22 = 1 := by kernel_rfl
theorem by_22 : bytesT Try.prog 22 = 24 := by kernel_rfl
theorem enter_20 : enterOK Try.prog 20 = true := by kernel_rfl
theorem sr_61 : structT Try.prog 61 = some [(0, 1), (1, 1), (2, 1), (3, 1)] := by kernel_rfl
theorem enter_9 : enterOK Try.prog 9 = true := by kernel_rfl
theorem sl_23 : isSl Try.prog 23 = true := by kernel_rfl
theorem enter_14 : enterOK Try.prog 14 = true := by kernel_rfl
theorem in_5 : intT Try.prog 5 = some .u8 := by kernel_rfl
theorem ha_3 : hasT Try.prog 3 = true := by kernel_rfl
theorem el_62 : elemT Try.prog 62 = some 5 := by kernel_rfl
theorem ze_5 : zeroT Try.prog 5 = some (([.int .u8 0] : List PD).map (PV.d true)) := by kernel_rfl
theorem sz_5 : szOf Try.prog 5 = 1 := by kernel_rfl
theorem u8_62 : isU8 Try.prog 62 = true := by kernel_rfl
theorem by_61 : bytesT Try.prog 61 = 40 := by kernel_rfl
theorem fi_92_3 : fieldT Try.prog 92 3 = some (3, 1, 3) := by kernel_rfl
theorem fi_92_2 : fieldT Try.prog 92 2 = some (2, 1, 22) := by kernel_rfl
theorem ze_65 : zeroT Try.prog 65 = some (([.int .i64 0, .str [], .nil] : List PD).map (PV.d true)) := by kernel_rfl
theorem enter_49 : enterOK Try.prog 49 = true := by kernel_rfl
theorem fi_92_0 : fieldT Try.prog 92 0 = some (0, 1, 26) := by kernel_rfl
theorem enter_50 : enterOK Try.prog 50 = true := by kernel_rfl
theorem sr_65 : structT Try.prog 65 = some [(0, 1), (1, 1), (2, 1)] := by kernel_rfl
theorem fi_92_1 : fieldT Try.prog 92 1 = some (1, 1, 22) := by kernel_rfl
theorem enter_33 : enterOK Try.prog 33 = true := by kernel_rfl
theorem by_65 : bytesT Try.prog 65 = 48 := by kernel_rfl
theorem ze_28 : zeroT Try.prog 28 = some (([.nil] : List PD).map (PV.d true)) := by kernel_rfl
theorem by_28 : bytesT Try.prog 28 = 24 := by kernel_rfl
theorem ze_92 : zeroT Try.prog 92 = some (([.nil, .nil, .nil, .int .i64 0] : List PD).map (PV.d true)) := by kernel_rfl
theorem sr_92 : structT Try.prog 92 = some [(0, 1), (1, 1), (2, 1), (3, 1)] := by kernel_rfl
theorem enter_15 : enterOK Try.prog 15 = true := by kernel_rfl
theorem fi_72_4 : fieldT Try.prog 72 4 = some (4, 1, 30) := by kernel_rfl
theorem ty_30 : tyT Try.prog 30 = some (false, 1) := by kernel_rfl
theorem fi_72_2 : fieldT Try.prog 72 2 = some (2, 1, 22) := by kernel_rfl
theorem el_30 : elemT Try.prog 30 = some 36 := by kernel_rfl
theorem sz_36 : szOf Try.prog 36 = 3 := by kernel_rfl
theorem ty_36 : tyT Try.prog 36 = some (true, 3) := by kernel_rfl
theorem ze_36 : zeroT Try.prog 36 = some (([.nil, .nil, .nil] : List PD).map (PV.d true)) := by kernel_rfl
theorem fi_36_0 : fieldT Try.prog 36 0 = some (0, 1, 22) := by kernel_rfl
theorem fi_36_1 : fieldT Try.prog 36 1 = some (1, 1, 22) := by kernel_rfl
theorem fi_36_2 : fieldT Try.prog 36 2 = some (2, 1, 34) := by kernel_rfl
theorem ty_34 : tyT Try.prog 34 = some (false, 1) := by kernel_rfl
theorem ty_51 : tyT Try.prog 51 = some (true, 2) := by kernel_rfl
theorem el_34 : elemT Try.prog 34 = some 51 := by kernel_rfl
theorem ze_51 : zeroT Try.prog 51 = some (([.int .i64 0, .str []] : List PD).map (PV.d true)) := by kernel_rfl
theorem sz_51 : szOf Try.prog 51 = 2 := by kernel_rfl
theorem by_51 : bytesT Try.prog 51 = 24 := by kernel_rfl
theorem fi_72_0 : fieldT Try.prog 72 0 = some (0, 1, 26) := by kernel_rfl
theorem sr_51 : structT Try.prog 51 = some [(0, 1), (1, 1)] := by kernel_rfl
theorem enter_35 : enterOK Try.prog 35 = true := by kernel_rfl
theorem fi_72_1 : fieldT Try.prog 72 1 = some (1, 1, 22) := by kernel_rfl
theorem enter_36 : enterOK Try.prog 36 = true := by kernel_rfl
theorem enter_18 : enterOK Try.prog 18 = true := by kernel_rfl
theorem fi_72_3 : fieldT Try.prog 72 3 = some (3, 1, 22) := by kernel_rfl
theorem ze_72 : zeroT Try.prog 72 = some (([.nil, .nil, .nil, .nil, .nil] : List PD).map (PV.d true)) := by kernel_rfl
theorem sr_72 : structT Try.prog 72 = some [(0, 1), (1, 1), (2, 1), (3, 1), (4, 1)] := by kernel_rfl
theorem sr_36 : structT Try.prog 36 = some [(0, 1), (1, 1), (2, 1)] := by kernel_rfl
theorem by_36 : bytesT Try.prog 36 = 72 := by kernel_rfl
theorem enter_16 : enterOK Try.prog 16 = true := by kernel_rfl
theorem enter_17 : enterOK Try.prog 17 = true := by kernel_rfl
theorem sl_30 : isSl Try.prog 30 = true := by kernel_rfl
theorem enter_5 : enterOK Try.prog 5 = true := by kernel_rfl
theorem enter_6 : enterOK Try.prog 6 = true := by kernel_rfl
theorem enter_7 : enterOK Try.prog 7 = true := by kernel_rfl
theorem enter_8 : enterOK Try.prog 8 = true := by kernel_rfl
end Go.Proofs.Ytfhpoffgnpgagaa
