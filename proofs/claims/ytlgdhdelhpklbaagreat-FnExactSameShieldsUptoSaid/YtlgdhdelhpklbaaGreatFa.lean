/- Table facts (printed by facts.py). -/
import Derived.Test.YtlgdhdelhpklbaaGreatProg
import Derived.Test.YtlgdhdelhpklbaaGreatLa
set_option linter.unusedSimpArgs false
set_option linter.unusedVariables false
namespace Go.Proofs.YtlgdhdelhpklbaaGreat.EV
open Go.RowKit
theorem follows_mixed : Tryz.prog.follows .mixedOrders = true := by kernel_rfl
theorem fi24_0 : fieldA Tryz.prog 24 0 = some (2, 0) := by kernel_rfl
theorem fi24_1 : fieldA Tryz.prog 24 1 = some (2, 1) := by kernel_rfl
theorem fi24_2 : fieldA Tryz.prog 24 2 = some (2, 2) := by kernel_rfl
theorem fi26_0 : fieldA Tryz.prog 26 0 = some (2, 0) := by kernel_rfl
theorem fi26_1 : fieldA Tryz.prog 26 1 = some (2, 1) := by kernel_rfl
theorem fi26_2 : fieldA Tryz.prog 26 2 = some (2, 2) := by kernel_rfl
theorem fi26_3 : fieldA Tryz.prog 26 3 = some (2, 3) := by kernel_rfl
theorem fi26_4 : fieldA Tryz.prog 26 4 = some (2, 4) := by kernel_rfl
theorem fi28_0 : fieldA Tryz.prog 28 0 = some (2, 0) := by kernel_rfl
theorem fi28_1 : fieldA Tryz.prog 28 1 = some (2, 1) := by kernel_rfl
theorem fi28_2 : fieldA Tryz.prog 28 2 = some (2, 2) := by kernel_rfl
theorem fi28_3 : fieldA Tryz.prog 28 3 = some (2, 3) := by kernel_rfl
theorem fi28_4 : fieldA Tryz.prog 28 4 = some (2, 4) := by kernel_rfl
theorem fi28_5 : fieldA Tryz.prog 28 5 = some (2, 5) := by kernel_rfl
theorem fi28_6 : fieldA Tryz.prog 28 6 = some (2, 6) := by kernel_rfl
theorem fi28_7 : fieldA Tryz.prog 28 7 = some (2, 7) := by kernel_rfl
theorem fi28_8 : fieldA Tryz.prog 28 8 = some (22, 8) := by kernel_rfl
theorem fi28_9 : fieldA Tryz.prog 28 9 = some (24, 9) := by kernel_rfl
theorem fi28_10 : fieldA Tryz.prog 28 10 = some (26, 12) := by kernel_rfl
theorem fi31_0 : fieldA Tryz.prog 31 0 = some (2, 0) := by kernel_rfl
theorem fi31_1 : fieldA Tryz.prog 31 1 = some (2, 1) := by kernel_rfl
theorem fi31_2 : fieldA Tryz.prog 31 2 = some (29, 2) := by kernel_rfl
theorem fi31_3 : fieldA Tryz.prog 31 3 = some (29, 3) := by kernel_rfl
theorem fi35_0 : fieldA Tryz.prog 35 0 = some (28, 0) := by kernel_rfl
theorem fi35_1 : fieldA Tryz.prog 35 1 = some (2, 17) := by kernel_rfl
theorem fi35_2 : fieldA Tryz.prog 35 2 = some (2, 18) := by kernel_rfl
theorem fi35_3 : fieldA Tryz.prog 35 3 = some (31, 19) := by kernel_rfl
theorem fi35_4 : fieldA Tryz.prog 35 4 = some (32, 23) := by kernel_rfl
theorem fi35_5 : fieldA Tryz.prog 35 5 = some (33, 24) := by kernel_rfl
theorem fi38_0 : fieldA Tryz.prog 38 0 = some (2, 0) := by kernel_rfl
theorem fi38_1 : fieldA Tryz.prog 38 1 = some (2, 1) := by kernel_rfl
theorem fi38_2 : fieldA Tryz.prog 38 2 = some (2, 2) := by kernel_rfl
theorem fi39_0 : fieldA Tryz.prog 39 0 = some (2, 0) := by kernel_rfl
theorem fi39_1 : fieldA Tryz.prog 39 1 = some (2, 1) := by kernel_rfl
theorem fi39_2 : fieldA Tryz.prog 39 2 = some (2, 2) := by kernel_rfl
theorem fi39_3 : fieldA Tryz.prog 39 3 = some (2, 3) := by kernel_rfl
theorem fi39_4 : fieldA Tryz.prog 39 4 = some (2, 4) := by kernel_rfl
theorem fi41_0 : fieldA Tryz.prog 41 0 = some (2, 0) := by kernel_rfl
theorem fi41_1 : fieldA Tryz.prog 41 1 = some (2, 1) := by kernel_rfl
theorem fi41_2 : fieldA Tryz.prog 41 2 = some (2, 2) := by kernel_rfl
theorem fi41_3 : fieldA Tryz.prog 41 3 = some (2, 3) := by kernel_rfl
theorem fi41_4 : fieldA Tryz.prog 41 4 = some (2, 4) := by kernel_rfl
theorem fi41_5 : fieldA Tryz.prog 41 5 = some (2, 5) := by kernel_rfl
theorem fi41_6 : fieldA Tryz.prog 41 6 = some (2, 6) := by kernel_rfl
theorem fi41_7 : fieldA Tryz.prog 41 7 = some (2, 7) := by kernel_rfl
theorem fi41_8 : fieldA Tryz.prog 41 8 = some (22, 8) := by kernel_rfl
theorem fi41_9 : fieldA Tryz.prog 41 9 = some (38, 9) := by kernel_rfl
theorem fi41_10 : fieldA Tryz.prog 41 10 = some (39, 12) := by kernel_rfl
theorem fi44_0 : fieldA Tryz.prog 44 0 = some (2, 0) := by kernel_rfl
theorem fi44_1 : fieldA Tryz.prog 44 1 = some (2, 1) := by kernel_rfl
theorem fi44_2 : fieldA Tryz.prog 44 2 = some (42, 2) := by kernel_rfl
theorem fi44_3 : fieldA Tryz.prog 44 3 = some (42, 3) := by kernel_rfl
theorem fi48_0 : fieldA Tryz.prog 48 0 = some (41, 0) := by kernel_rfl
theorem fi48_1 : fieldA Tryz.prog 48 1 = some (2, 17) := by kernel_rfl
theorem fi48_2 : fieldA Tryz.prog 48 2 = some (2, 18) := by kernel_rfl
theorem fi48_3 : fieldA Tryz.prog 48 3 = some (44, 19) := by kernel_rfl
theorem fi48_4 : fieldA Tryz.prog 48 4 = some (45, 23) := by kernel_rfl
theorem fi48_5 : fieldA Tryz.prog 48 5 = some (46, 24) := by kernel_rfl
theorem fi61_0 : fieldA Tryz.prog 61 0 = some (2, 0) := by kernel_rfl
theorem fi61_1 : fieldA Tryz.prog 61 1 = some (59, 1) := by kernel_rfl
theorem fi64_0 : fieldA Tryz.prog 64 0 = some (2, 0) := by kernel_rfl
theorem fi64_1 : fieldA Tryz.prog 64 1 = some (2, 1) := by kernel_rfl
theorem fi64_2 : fieldA Tryz.prog 64 2 = some (2, 2) := by kernel_rfl
theorem fi64_3 : fieldA Tryz.prog 64 3 = some (62, 3) := by kernel_rfl
theorem fi66_0 : fieldA Tryz.prog 66 0 = some (9, 0) := by kernel_rfl
theorem fi66_1 : fieldA Tryz.prog 66 1 = some (61, 1) := by kernel_rfl
theorem fi66_2 : fieldA Tryz.prog 66 2 = some (64, 3) := by kernel_rfl
theorem fi82_0 : fieldA Tryz.prog 82 0 = some (2, 0) := by kernel_rfl
theorem fi82_1 : fieldA Tryz.prog 82 1 = some (80, 1) := by kernel_rfl
theorem fi85_0 : fieldA Tryz.prog 85 0 = some (2, 0) := by kernel_rfl
theorem fi85_1 : fieldA Tryz.prog 85 1 = some (2, 1) := by kernel_rfl
theorem fi85_2 : fieldA Tryz.prog 85 2 = some (2, 2) := by kernel_rfl
theorem fi85_3 : fieldA Tryz.prog 85 3 = some (83, 3) := by kernel_rfl
theorem fi87_0 : fieldA Tryz.prog 87 0 = some (9, 0) := by kernel_rfl
theorem fi87_1 : fieldA Tryz.prog 87 1 = some (82, 1) := by kernel_rfl
theorem fi87_2 : fieldA Tryz.prog 87 2 = some (85, 3) := by kernel_rfl
theorem fi91_0 : fieldA Tryz.prog 91 0 = some (9, 0) := by kernel_rfl
theorem fi91_1 : fieldA Tryz.prog 91 1 = some (9, 1) := by kernel_rfl
theorem fi91_2 : fieldA Tryz.prog 91 2 = some (9, 2) := by kernel_rfl
theorem fi91_3 : fieldA Tryz.prog 91 3 = some (89, 3) := by kernel_rfl
theorem fi94_0 : fieldA Tryz.prog 94 0 = some (2, 0) := by kernel_rfl
theorem fi94_1 : fieldA Tryz.prog 94 1 = some (9, 1) := by kernel_rfl
theorem fi94_2 : fieldA Tryz.prog 94 2 = some (4, 2) := by kernel_rfl
theorem fi94_3 : fieldA Tryz.prog 94 3 = some (4, 3) := by kernel_rfl
theorem fi94_4 : fieldA Tryz.prog 94 4 = some (2, 4) := by kernel_rfl
theorem fi94_5 : fieldA Tryz.prog 94 5 = some (4, 5) := by kernel_rfl
theorem fi94_6 : fieldA Tryz.prog 94 6 = some (91, 6) := by kernel_rfl
theorem fi94_7 : fieldA Tryz.prog 94 7 = some (92, 10) := by kernel_rfl
theorem fi99_0 : fieldA Tryz.prog 99 0 = some (9, 0) := by kernel_rfl
theorem fi99_1 : fieldA Tryz.prog 99 1 = some (9, 1) := by kernel_rfl
theorem fi99_2 : fieldA Tryz.prog 99 2 = some (9, 2) := by kernel_rfl
theorem fi99_3 : fieldA Tryz.prog 99 3 = some (97, 3) := by kernel_rfl
theorem fi102_0 : fieldA Tryz.prog 102 0 = some (2, 0) := by kernel_rfl
theorem fi102_1 : fieldA Tryz.prog 102 1 = some (9, 1) := by kernel_rfl
theorem fi102_2 : fieldA Tryz.prog 102 2 = some (4, 2) := by kernel_rfl
theorem fi102_3 : fieldA Tryz.prog 102 3 = some (4, 3) := by kernel_rfl
theorem fi102_4 : fieldA Tryz.prog 102 4 = some (2, 4) := by kernel_rfl
theorem fi102_5 : fieldA Tryz.prog 102 5 = some (4, 5) := by kernel_rfl
theorem fi102_6 : fieldA Tryz.prog 102 6 = some (99, 6) := by kernel_rfl
theorem fi102_7 : fieldA Tryz.prog 102 7 = some (100, 10) := by kernel_rfl
theorem fi106_0 : fieldA Tryz.prog 106 0 = some (2, 0) := by kernel_rfl
theorem fi106_1 : fieldA Tryz.prog 106 1 = some (2, 1) := by kernel_rfl
theorem fi117_0 : fieldA Tryz.prog 117 0 = some (2, 0) := by kernel_rfl
theorem fi117_1 : fieldA Tryz.prog 117 1 = some (2, 1) := by kernel_rfl
theorem fi117_2 : fieldA Tryz.prog 117 2 = some (2, 2) := by kernel_rfl
theorem fi117_3 : fieldA Tryz.prog 117 3 = some (2, 3) := by kernel_rfl
theorem fi117_4 : fieldA Tryz.prog 117 4 = some (2, 4) := by kernel_rfl
theorem fi117_5 : fieldA Tryz.prog 117 5 = some (4, 5) := by kernel_rfl
theorem fi117_6 : fieldA Tryz.prog 117 6 = some (4, 6) := by kernel_rfl
theorem fi119_0 : fieldA Tryz.prog 119 0 = some (9, 0) := by kernel_rfl
theorem fi119_1 : fieldA Tryz.prog 119 1 = some (2, 1) := by kernel_rfl
theorem fi119_2 : fieldA Tryz.prog 119 2 = some (97, 2) := by kernel_rfl
theorem fi119_3 : fieldA Tryz.prog 119 3 = some (115, 3) := by kernel_rfl
theorem fi119_4 : fieldA Tryz.prog 119 4 = some (117, 4) := by kernel_rfl
theorem fi119_5 : fieldA Tryz.prog 119 5 = some (22, 11) := by kernel_rfl
theorem fi119_6 : fieldA Tryz.prog 119 6 = some (2, 12) := by kernel_rfl
theorem fi126_0 : fieldA Tryz.prog 126 0 = some (2, 0) := by kernel_rfl
theorem fi126_1 : fieldA Tryz.prog 126 1 = some (2, 1) := by kernel_rfl
theorem fi126_2 : fieldA Tryz.prog 126 2 = some (2, 2) := by kernel_rfl
theorem fi126_3 : fieldA Tryz.prog 126 3 = some (2, 3) := by kernel_rfl
theorem fi126_4 : fieldA Tryz.prog 126 4 = some (2, 4) := by kernel_rfl
theorem fi126_5 : fieldA Tryz.prog 126 5 = some (4, 5) := by kernel_rfl
theorem fi126_6 : fieldA Tryz.prog 126 6 = some (4, 6) := by kernel_rfl
theorem fi128_0 : fieldA Tryz.prog 128 0 = some (9, 0) := by kernel_rfl
theorem fi128_1 : fieldA Tryz.prog 128 1 = some (2, 1) := by kernel_rfl
theorem fi128_2 : fieldA Tryz.prog 128 2 = some (89, 2) := by kernel_rfl
theorem fi128_3 : fieldA Tryz.prog 128 3 = some (115, 3) := by kernel_rfl
theorem fi128_4 : fieldA Tryz.prog 128 4 = some (126, 4) := by kernel_rfl
theorem fi128_5 : fieldA Tryz.prog 128 5 = some (22, 11) := by kernel_rfl
theorem fi128_6 : fieldA Tryz.prog 128 6 = some (2, 12) := by kernel_rfl
theorem fi137_0 : fieldA Tryz.prog 137 0 = some (2, 0) := by kernel_rfl
theorem fi137_1 : fieldA Tryz.prog 137 1 = some (4, 1) := by kernel_rfl
theorem fi137_2 : fieldA Tryz.prog 137 2 = some (2, 2) := by kernel_rfl
theorem fi137_3 : fieldA Tryz.prog 137 3 = some (4, 3) := by kernel_rfl
theorem fi139_0 : fieldA Tryz.prog 139 0 = some (2, 0) := by kernel_rfl
theorem fi139_1 : fieldA Tryz.prog 139 1 = some (4, 1) := by kernel_rfl
theorem fi146_0 : fieldA Tryz.prog 146 0 = some (9, 0) := by kernel_rfl
theorem fi146_1 : fieldA Tryz.prog 146 1 = some (9, 1) := by kernel_rfl
theorem fi159_0 : fieldA Tryz.prog 159 0 = some (2, 0) := by kernel_rfl
theorem fi159_1 : fieldA Tryz.prog 159 1 = some (4, 1) := by kernel_rfl
theorem fi159_2 : fieldA Tryz.prog 159 2 = some (2, 2) := by kernel_rfl
theorem fi159_3 : fieldA Tryz.prog 159 3 = some (4, 3) := by kernel_rfl
theorem fi163_0 : fieldA Tryz.prog 163 0 = some (9, 0) := by kernel_rfl
theorem fi163_1 : fieldA Tryz.prog 163 1 = some (9, 1) := by kernel_rfl
theorem fi166_0 : fieldA Tryz.prog 166 0 = some (2, 0) := by kernel_rfl
theorem fi166_1 : fieldA Tryz.prog 166 1 = some (2, 1) := by kernel_rfl
theorem fi168_0 : fieldA Tryz.prog 168 0 = some (2, 0) := by kernel_rfl
theorem fi168_1 : fieldA Tryz.prog 168 1 = some (4, 1) := by kernel_rfl
theorem un2 : Tryz.prog.underlying 2 = some (.int .i64) := by kernel_rfl
theorem un3 : Tryz.prog.underlying 3 = some (.int .i64) := by kernel_rfl
theorem bbe4 (a b : Bool) : binA Tryz.prog .eql 4 (.lit (.bool a)) (.lit (.bool b)) = some (.lit (.bool (decide (a = b)))) := binA_beql (by kernel_rfl) a b
theorem bbn4 (a b : Bool) : binA Tryz.prog .neq 4 (.lit (.bool a)) (.lit (.bool b)) = some (.lit (.bool (!decide (a = b)))) := binA_bneq (by kernel_rfl) a b
theorem un4 : Tryz.prog.underlying 4 = some .bool := by kernel_rfl
theorem un5 : Tryz.prog.underlying 5 = some (.int .u8) := by kernel_rfl
theorem un9 : Tryz.prog.underlying 9 = some .string := by kernel_rfl
theorem un22 : Tryz.prog.underlying 22 = some (.slice 9) := by kernel_rfl
theorem el22 : elemA Tryz.prog 22 = some 9 := by kernel_rfl
theorem un29 : Tryz.prog.underlying 29 = some (.slice 128) := by kernel_rfl
theorem el29 : elemA Tryz.prog 29 = some 128 := by kernel_rfl
theorem un32 : Tryz.prog.underlying 32 = some (.slice 87) := by kernel_rfl
theorem el32 : elemA Tryz.prog 32 = some 87 := by kernel_rfl
theorem un33 : Tryz.prog.underlying 33 = some (.slice 94) := by kernel_rfl
theorem el33 : elemA Tryz.prog 33 = some 94 := by kernel_rfl
theorem un42 : Tryz.prog.underlying 42 = some (.slice 119) := by kernel_rfl
theorem el42 : elemA Tryz.prog 42 = some 119 := by kernel_rfl
theorem un45 : Tryz.prog.underlying 45 = some (.slice 66) := by kernel_rfl
theorem el45 : elemA Tryz.prog 45 = some 66 := by kernel_rfl
theorem un46 : Tryz.prog.underlying 46 = some (.slice 102) := by kernel_rfl
theorem el46 : elemA Tryz.prog 46 = some 102 := by kernel_rfl
theorem un59 : Tryz.prog.underlying 59 = some (.slice 106) := by kernel_rfl
theorem el59 : elemA Tryz.prog 59 = some 106 := by kernel_rfl
theorem un62 : Tryz.prog.underlying 62 = some (.slice 139) := by kernel_rfl
theorem el62 : elemA Tryz.prog 62 = some 139 := by kernel_rfl
theorem un80 : Tryz.prog.underlying 80 = some (.slice 166) := by kernel_rfl
theorem el80 : elemA Tryz.prog 80 = some 166 := by kernel_rfl
theorem un83 : Tryz.prog.underlying 83 = some (.slice 168) := by kernel_rfl
theorem el83 : elemA Tryz.prog 83 = some 168 := by kernel_rfl
theorem un89 : Tryz.prog.underlying 89 = some (.slice 163) := by kernel_rfl
theorem el89 : elemA Tryz.prog 89 = some 163 := by kernel_rfl
theorem un92 : Tryz.prog.underlying 92 = some (.slice 159) := by kernel_rfl
theorem el92 : elemA Tryz.prog 92 = some 159 := by kernel_rfl
theorem un97 : Tryz.prog.underlying 97 = some (.slice 146) := by kernel_rfl
theorem el97 : elemA Tryz.prog 97 = some 146 := by kernel_rfl
theorem un100 : Tryz.prog.underlying 100 = some (.slice 137) := by kernel_rfl
theorem el100 : elemA Tryz.prog 100 = some 137 := by kernel_rfl
theorem un115 : Tryz.prog.underlying 115 = some (.slice 5) := by kernel_rfl
theorem el115 : elemA Tryz.prog 115 = some 5 := by kernel_rfl
theorem z5 : zeroA Tryz.prog 5 = some [.lit (.int .u8 0)] := by kernel_rfl
theorem zl5 : zlenA Tryz.prog 5 = some 1 := by kernel_rfl
theorem by5 : bytesA Tryz.prog 5 = some 1 := by kernel_rfl
theorem z9 : zeroA Tryz.prog 9 = some [.lit (.string { data := #[] })] := by kernel_rfl
theorem zl9 : zlenA Tryz.prog 9 = some 1 := by kernel_rfl
theorem by9 : bytesA Tryz.prog 9 = some 16 := by kernel_rfl
theorem z38 : zeroA Tryz.prog 38 = some [.lit (.int .i64 0), .lit (.int .i64 0), .lit (.int .i64 0)] := by kernel_rfl
theorem zl38 : zlenA Tryz.prog 38 = some 3 := by kernel_rfl
theorem by38 : bytesA Tryz.prog 38 = some 24 := by kernel_rfl
theorem z39 : zeroA Tryz.prog 39 = some [.lit (.int .i64 0), .lit (.int .i64 0), .lit (.int .i64 0), .lit (.int .i64 0), .lit (.int .i64 0)] := by kernel_rfl
theorem zl39 : zlenA Tryz.prog 39 = some 5 := by kernel_rfl
theorem by39 : bytesA Tryz.prog 39 = some 40 := by kernel_rfl
theorem z41 : zeroA Tryz.prog 41 = some [.lit (.int .i64 0), .lit (.int .i64 0), .lit (.int .i64 0), .lit (.int .i64 0), .lit (.int .i64 0), .lit (.int .i64 0), .lit (.int .i64 0), .lit (.int .i64 0), .sl .ex [], .lit (.int .i64 0), .lit (.int .i64 0), .lit (.int .i64 0), .lit (.int .i64 0), .lit (.int .i64 0), .lit (.int .i64 0), .lit (.int .i64 0), .lit (.int .i64 0)] := by kernel_rfl
theorem zl41 : zlenA Tryz.prog 41 = some 17 := by kernel_rfl
theorem by41 : bytesA Tryz.prog 41 = some 152 := by kernel_rfl
theorem z44 : zeroA Tryz.prog 44 = some [.lit (.int .i64 0), .lit (.int .i64 0), .sl .ex [], .sl .ex []] := by kernel_rfl
theorem zl44 : zlenA Tryz.prog 44 = some 4 := by kernel_rfl
theorem by44 : bytesA Tryz.prog 44 = some 64 := by kernel_rfl
theorem z48 : zeroA Tryz.prog 48 = some [.lit (.int .i64 0), .lit (.int .i64 0), .lit (.int .i64 0), .lit (.int .i64 0), .lit (.int .i64 0), .lit (.int .i64 0), .lit (.int .i64 0), .lit (.int .i64 0), .sl .ex [], .lit (.int .i64 0), .lit (.int .i64 0), .lit (.int .i64 0), .lit (.int .i64 0), .lit (.int .i64 0), .lit (.int .i64 0), .lit (.int .i64 0), .lit (.int .i64 0), .lit (.int .i64 0), .lit (.int .i64 0), .lit (.int .i64 0), .lit (.int .i64 0), .sl .ex [], .sl .ex [], .sl .ex [], .sl .ex []] := by kernel_rfl
theorem zl48 : zlenA Tryz.prog 48 = some 25 := by kernel_rfl
theorem by48 : bytesA Tryz.prog 48 = some 280 := by kernel_rfl
theorem z61 : zeroA Tryz.prog 61 = some [.lit (.int .i64 0), .sl .ex []] := by kernel_rfl
theorem zl61 : zlenA Tryz.prog 61 = some 2 := by kernel_rfl
theorem by61 : bytesA Tryz.prog 61 = some 32 := by kernel_rfl
theorem z64 : zeroA Tryz.prog 64 = some [.lit (.int .i64 0), .lit (.int .i64 0), .lit (.int .i64 0), .sl .ex []] := by kernel_rfl
theorem zl64 : zlenA Tryz.prog 64 = some 4 := by kernel_rfl
theorem by64 : bytesA Tryz.prog 64 = some 48 := by kernel_rfl
theorem z66 : zeroA Tryz.prog 66 = some [.lit (.string { data := #[] }), .lit (.int .i64 0), .sl .ex [], .lit (.int .i64 0), .lit (.int .i64 0), .lit (.int .i64 0), .sl .ex []] := by kernel_rfl
theorem zl66 : zlenA Tryz.prog 66 = some 7 := by kernel_rfl
theorem by66 : bytesA Tryz.prog 66 = some 96 := by kernel_rfl
theorem z99 : zeroA Tryz.prog 99 = some [.lit (.string { data := #[] }), .lit (.string { data := #[] }), .lit (.string { data := #[] }), .sl .ex []] := by kernel_rfl
theorem zl99 : zlenA Tryz.prog 99 = some 4 := by kernel_rfl
theorem by99 : bytesA Tryz.prog 99 = some 72 := by kernel_rfl
theorem z102 : zeroA Tryz.prog 102 = some [.lit (.int .i64 0), .lit (.string { data := #[] }), .lit (.bool false), .lit (.bool false), .lit (.int .i64 0), .lit (.bool false), .lit (.string { data := #[] }), .lit (.string { data := #[] }), .lit (.string { data := #[] }), .sl .ex [], .sl .ex []] := by kernel_rfl
theorem zl102 : zlenA Tryz.prog 102 = some 11 := by kernel_rfl
theorem by102 : bytesA Tryz.prog 102 = some 144 := by kernel_rfl
theorem z106 : zeroA Tryz.prog 106 = some [.lit (.int .i64 0), .lit (.int .i64 0)] := by kernel_rfl
theorem zl106 : zlenA Tryz.prog 106 = some 2 := by kernel_rfl
theorem by106 : bytesA Tryz.prog 106 = some 16 := by kernel_rfl
theorem z117 : zeroA Tryz.prog 117 = some [.lit (.int .i64 0), .lit (.int .i64 0), .lit (.int .i64 0), .lit (.int .i64 0), .lit (.int .i64 0), .lit (.bool false), .lit (.bool false)] := by kernel_rfl
theorem zl117 : zlenA Tryz.prog 117 = some 7 := by kernel_rfl
theorem by117 : bytesA Tryz.prog 117 = some 48 := by kernel_rfl
theorem z119 : zeroA Tryz.prog 119 = some [.lit (.string { data := #[] }), .lit (.int .i64 0), .sl .ex [], .sl .ex [], .lit (.int .i64 0), .lit (.int .i64 0), .lit (.int .i64 0), .lit (.int .i64 0), .lit (.int .i64 0), .lit (.bool false), .lit (.bool false), .sl .ex [], .lit (.int .i64 0)] := by kernel_rfl
theorem zl119 : zlenA Tryz.prog 119 = some 13 := by kernel_rfl
theorem by119 : bytesA Tryz.prog 119 = some 152 := by kernel_rfl
theorem z137 : zeroA Tryz.prog 137 = some [.lit (.int .i64 0), .lit (.bool false), .lit (.int .i64 0), .lit (.bool false)] := by kernel_rfl
theorem zl137 : zlenA Tryz.prog 137 = some 4 := by kernel_rfl
theorem by137 : bytesA Tryz.prog 137 = some 32 := by kernel_rfl
theorem z139 : zeroA Tryz.prog 139 = some [.lit (.int .i64 0), .lit (.bool false)] := by kernel_rfl
theorem zl139 : zlenA Tryz.prog 139 = some 2 := by kernel_rfl
theorem by139 : bytesA Tryz.prog 139 = some 16 := by kernel_rfl
theorem z146 : zeroA Tryz.prog 146 = some [.lit (.string { data := #[] }), .lit (.string { data := #[] })] := by kernel_rfl
theorem zl146 : zlenA Tryz.prog 146 = some 2 := by kernel_rfl
theorem by146 : bytesA Tryz.prog 146 = some 32 := by kernel_rfl
theorem sz2 : sizeA Tryz.prog 2 = some 1 := by kernel_rfl
theorem sz4 : sizeA Tryz.prog 4 = some 1 := by kernel_rfl
theorem sz5 : sizeA Tryz.prog 5 = some 1 := by kernel_rfl
theorem sz9 : sizeA Tryz.prog 9 = some 1 := by kernel_rfl
theorem sz22 : sizeA Tryz.prog 22 = some 1 := by kernel_rfl
theorem sz24 : sizeA Tryz.prog 24 = some 3 := by kernel_rfl
theorem sz26 : sizeA Tryz.prog 26 = some 5 := by kernel_rfl
theorem sz28 : sizeA Tryz.prog 28 = some 17 := by kernel_rfl
theorem sz29 : sizeA Tryz.prog 29 = some 1 := by kernel_rfl
theorem sz31 : sizeA Tryz.prog 31 = some 4 := by kernel_rfl
theorem sz32 : sizeA Tryz.prog 32 = some 1 := by kernel_rfl
theorem sz33 : sizeA Tryz.prog 33 = some 1 := by kernel_rfl
theorem sz35 : sizeA Tryz.prog 35 = some 25 := by kernel_rfl
theorem sz38 : sizeA Tryz.prog 38 = some 3 := by kernel_rfl
theorem sz39 : sizeA Tryz.prog 39 = some 5 := by kernel_rfl
theorem sz41 : sizeA Tryz.prog 41 = some 17 := by kernel_rfl
theorem sz42 : sizeA Tryz.prog 42 = some 1 := by kernel_rfl
theorem sz44 : sizeA Tryz.prog 44 = some 4 := by kernel_rfl
theorem sz45 : sizeA Tryz.prog 45 = some 1 := by kernel_rfl
theorem sz46 : sizeA Tryz.prog 46 = some 1 := by kernel_rfl
theorem sz48 : sizeA Tryz.prog 48 = some 25 := by kernel_rfl
theorem sz59 : sizeA Tryz.prog 59 = some 1 := by kernel_rfl
theorem sz61 : sizeA Tryz.prog 61 = some 2 := by kernel_rfl
theorem sz62 : sizeA Tryz.prog 62 = some 1 := by kernel_rfl
theorem sz64 : sizeA Tryz.prog 64 = some 4 := by kernel_rfl
theorem sz66 : sizeA Tryz.prog 66 = some 7 := by kernel_rfl
theorem sz80 : sizeA Tryz.prog 80 = some 1 := by kernel_rfl
theorem sz82 : sizeA Tryz.prog 82 = some 2 := by kernel_rfl
theorem sz83 : sizeA Tryz.prog 83 = some 1 := by kernel_rfl
theorem sz85 : sizeA Tryz.prog 85 = some 4 := by kernel_rfl
theorem sz87 : sizeA Tryz.prog 87 = some 7 := by kernel_rfl
theorem sz89 : sizeA Tryz.prog 89 = some 1 := by kernel_rfl
theorem sz91 : sizeA Tryz.prog 91 = some 4 := by kernel_rfl
theorem sz92 : sizeA Tryz.prog 92 = some 1 := by kernel_rfl
theorem sz94 : sizeA Tryz.prog 94 = some 11 := by kernel_rfl
theorem sz97 : sizeA Tryz.prog 97 = some 1 := by kernel_rfl
theorem sz99 : sizeA Tryz.prog 99 = some 4 := by kernel_rfl
theorem sz100 : sizeA Tryz.prog 100 = some 1 := by kernel_rfl
theorem sz102 : sizeA Tryz.prog 102 = some 11 := by kernel_rfl
theorem sz106 : sizeA Tryz.prog 106 = some 2 := by kernel_rfl
theorem sz115 : sizeA Tryz.prog 115 = some 1 := by kernel_rfl
theorem sz117 : sizeA Tryz.prog 117 = some 7 := by kernel_rfl
theorem sz119 : sizeA Tryz.prog 119 = some 13 := by kernel_rfl
theorem sz126 : sizeA Tryz.prog 126 = some 7 := by kernel_rfl
theorem sz128 : sizeA Tryz.prog 128 = some 13 := by kernel_rfl
theorem sz137 : sizeA Tryz.prog 137 = some 4 := by kernel_rfl
theorem sz139 : sizeA Tryz.prog 139 = some 2 := by kernel_rfl
theorem sz146 : sizeA Tryz.prog 146 = some 2 := by kernel_rfl
theorem sz159 : sizeA Tryz.prog 159 = some 4 := by kernel_rfl
theorem sz163 : sizeA Tryz.prog 163 = some 2 := by kernel_rfl
theorem sz166 : sizeA Tryz.prog 166 = some 2 := by kernel_rfl
theorem sz168 : sizeA Tryz.prog 168 = some 2 := by kernel_rfl
theorem ag2 : isAggA Tryz.prog 2 = some false := by kernel_rfl
theorem ag4 : isAggA Tryz.prog 4 = some false := by kernel_rfl
theorem ag5 : isAggA Tryz.prog 5 = some false := by kernel_rfl
theorem ag9 : isAggA Tryz.prog 9 = some false := by kernel_rfl
theorem ag22 : isAggA Tryz.prog 22 = some false := by kernel_rfl
theorem ag24 : isAggA Tryz.prog 24 = some true := by kernel_rfl
theorem ag26 : isAggA Tryz.prog 26 = some true := by kernel_rfl
theorem ag28 : isAggA Tryz.prog 28 = some true := by kernel_rfl
theorem ag29 : isAggA Tryz.prog 29 = some false := by kernel_rfl
theorem ag31 : isAggA Tryz.prog 31 = some true := by kernel_rfl
theorem ag32 : isAggA Tryz.prog 32 = some false := by kernel_rfl
theorem ag33 : isAggA Tryz.prog 33 = some false := by kernel_rfl
theorem ag35 : isAggA Tryz.prog 35 = some true := by kernel_rfl
theorem ag38 : isAggA Tryz.prog 38 = some true := by kernel_rfl
theorem ag39 : isAggA Tryz.prog 39 = some true := by kernel_rfl
theorem ag41 : isAggA Tryz.prog 41 = some true := by kernel_rfl
theorem ag42 : isAggA Tryz.prog 42 = some false := by kernel_rfl
theorem ag44 : isAggA Tryz.prog 44 = some true := by kernel_rfl
theorem ag45 : isAggA Tryz.prog 45 = some false := by kernel_rfl
theorem ag46 : isAggA Tryz.prog 46 = some false := by kernel_rfl
theorem ag48 : isAggA Tryz.prog 48 = some true := by kernel_rfl
theorem ag59 : isAggA Tryz.prog 59 = some false := by kernel_rfl
theorem ag61 : isAggA Tryz.prog 61 = some true := by kernel_rfl
theorem ag62 : isAggA Tryz.prog 62 = some false := by kernel_rfl
theorem ag64 : isAggA Tryz.prog 64 = some true := by kernel_rfl
theorem ag66 : isAggA Tryz.prog 66 = some true := by kernel_rfl
theorem ag80 : isAggA Tryz.prog 80 = some false := by kernel_rfl
theorem ag82 : isAggA Tryz.prog 82 = some true := by kernel_rfl
theorem ag83 : isAggA Tryz.prog 83 = some false := by kernel_rfl
theorem ag85 : isAggA Tryz.prog 85 = some true := by kernel_rfl
theorem ag87 : isAggA Tryz.prog 87 = some true := by kernel_rfl
theorem ag89 : isAggA Tryz.prog 89 = some false := by kernel_rfl
theorem ag91 : isAggA Tryz.prog 91 = some true := by kernel_rfl
theorem ag92 : isAggA Tryz.prog 92 = some false := by kernel_rfl
theorem ag94 : isAggA Tryz.prog 94 = some true := by kernel_rfl
theorem ag97 : isAggA Tryz.prog 97 = some false := by kernel_rfl
theorem ag99 : isAggA Tryz.prog 99 = some true := by kernel_rfl
theorem ag100 : isAggA Tryz.prog 100 = some false := by kernel_rfl
theorem ag102 : isAggA Tryz.prog 102 = some true := by kernel_rfl
theorem ag106 : isAggA Tryz.prog 106 = some true := by kernel_rfl
theorem ag115 : isAggA Tryz.prog 115 = some false := by kernel_rfl
theorem ag117 : isAggA Tryz.prog 117 = some true := by kernel_rfl
theorem ag119 : isAggA Tryz.prog 119 = some true := by kernel_rfl
theorem ag126 : isAggA Tryz.prog 126 = some true := by kernel_rfl
theorem ag128 : isAggA Tryz.prog 128 = some true := by kernel_rfl
theorem ag137 : isAggA Tryz.prog 137 = some true := by kernel_rfl
theorem ag139 : isAggA Tryz.prog 139 = some true := by kernel_rfl
theorem ag146 : isAggA Tryz.prog 146 = some true := by kernel_rfl
theorem ag159 : isAggA Tryz.prog 159 = some true := by kernel_rfl
theorem ag163 : isAggA Tryz.prog 163 = some true := by kernel_rfl
theorem ag166 : isAggA Tryz.prog 166 = some true := by kernel_rfl
theorem ag168 : isAggA Tryz.prog 168 = some true := by kernel_rfl
theorem en4 : entersA Tryz.prog 4 = true := by kernel_rfl
theorem en5 : entersA Tryz.prog 5 = true := by kernel_rfl
theorem en6 : entersA Tryz.prog 6 = true := by kernel_rfl
theorem en7 : entersA Tryz.prog 7 = true := by kernel_rfl
theorem en8 : entersA Tryz.prog 8 = true := by kernel_rfl
theorem en9 : entersA Tryz.prog 9 = true := by kernel_rfl
theorem en10 : entersA Tryz.prog 10 = true := by kernel_rfl
theorem en11 : entersA Tryz.prog 11 = true := by kernel_rfl
theorem en12 : entersA Tryz.prog 12 = true := by kernel_rfl
theorem en13 : entersA Tryz.prog 13 = true := by kernel_rfl
theorem en14 : entersA Tryz.prog 14 = true := by kernel_rfl
theorem en15 : entersA Tryz.prog 15 = true := by kernel_rfl
theorem en16 : entersA Tryz.prog 16 = true := by kernel_rfl
theorem en17 : entersA Tryz.prog 17 = true := by kernel_rfl
theorem en18 : entersA Tryz.prog 18 = true := by kernel_rfl
theorem en19 : entersA Tryz.prog 19 = true := by kernel_rfl
theorem en20 : entersA Tryz.prog 20 = true := by kernel_rfl
theorem en21 : entersA Tryz.prog 21 = true := by kernel_rfl
theorem en22 : entersA Tryz.prog 22 = true := by kernel_rfl
theorem en23 : entersA Tryz.prog 23 = true := by kernel_rfl
theorem en24 : entersA Tryz.prog 24 = true := by kernel_rfl
theorem en26 : entersA Tryz.prog 26 = true := by kernel_rfl
theorem en27 : entersA Tryz.prog 27 = true := by kernel_rfl
theorem en28 : entersA Tryz.prog 28 = true := by kernel_rfl
theorem en29 : entersA Tryz.prog 29 = true := by kernel_rfl
theorem en30 : entersA Tryz.prog 30 = true := by kernel_rfl
theorem en31 : entersA Tryz.prog 31 = true := by kernel_rfl
theorem en32 : entersA Tryz.prog 32 = true := by kernel_rfl
theorem en33 : entersA Tryz.prog 33 = true := by kernel_rfl
theorem en34 : entersA Tryz.prog 34 = true := by kernel_rfl
theorem en35 : entersA Tryz.prog 35 = true := by kernel_rfl
theorem en36 : entersA Tryz.prog 36 = true := by kernel_rfl
theorem en37 : entersA Tryz.prog 37 = true := by kernel_rfl
theorem en38 : entersA Tryz.prog 38 = true := by kernel_rfl
theorem en39 : entersA Tryz.prog 39 = true := by kernel_rfl
theorem en40 : entersA Tryz.prog 40 = true := by kernel_rfl
theorem en41 : entersA Tryz.prog 41 = true := by kernel_rfl
theorem en42 : entersA Tryz.prog 42 = true := by kernel_rfl
theorem en43 : entersA Tryz.prog 43 = true := by kernel_rfl
theorem en44 : entersA Tryz.prog 44 = true := by kernel_rfl
theorem en45 : entersA Tryz.prog 45 = true := by kernel_rfl
theorem en46 : entersA Tryz.prog 46 = true := by kernel_rfl
theorem en47 : entersA Tryz.prog 47 = true := by kernel_rfl
theorem en49 : entersA Tryz.prog 49 = true := by kernel_rfl
theorem en50 : entersA Tryz.prog 50 = true := by kernel_rfl
theorem en51 : entersA Tryz.prog 51 = true := by kernel_rfl
theorem en53 : entersA Tryz.prog 53 = true := by kernel_rfl
theorem en54 : entersA Tryz.prog 54 = true := by kernel_rfl
theorem en55 : entersA Tryz.prog 55 = true := by kernel_rfl
theorem en56 : entersA Tryz.prog 56 = true := by kernel_rfl
theorem en57 : entersA Tryz.prog 57 = true := by kernel_rfl
theorem en58 : entersA Tryz.prog 58 = true := by kernel_rfl
theorem en59 : entersA Tryz.prog 59 = true := by kernel_rfl
theorem en60 : entersA Tryz.prog 60 = true := by kernel_rfl
theorem en61 : entersA Tryz.prog 61 = true := by kernel_rfl
theorem en62 : entersA Tryz.prog 62 = true := by kernel_rfl
theorem en63 : entersA Tryz.prog 63 = true := by kernel_rfl
theorem en64 : entersA Tryz.prog 64 = true := by kernel_rfl
theorem en65 : entersA Tryz.prog 65 = true := by kernel_rfl
theorem en66 : entersA Tryz.prog 66 = true := by kernel_rfl
theorem en67 : entersA Tryz.prog 67 = true := by kernel_rfl
theorem en68 : entersA Tryz.prog 68 = true := by kernel_rfl
theorem en69 : entersA Tryz.prog 69 = true := by kernel_rfl
theorem en70 : entersA Tryz.prog 70 = true := by kernel_rfl
theorem en71 : entersA Tryz.prog 71 = true := by kernel_rfl
theorem en72 : entersA Tryz.prog 72 = true := by kernel_rfl
theorem en73 : entersA Tryz.prog 73 = true := by kernel_rfl
theorem en74 : entersA Tryz.prog 74 = true := by kernel_rfl
theorem en75 : entersA Tryz.prog 75 = true := by kernel_rfl
theorem en76 : entersA Tryz.prog 76 = true := by kernel_rfl
theorem en77 : entersA Tryz.prog 77 = true := by kernel_rfl
theorem en78 : entersA Tryz.prog 78 = true := by kernel_rfl
theorem en79 : entersA Tryz.prog 79 = true := by kernel_rfl
theorem en80 : entersA Tryz.prog 80 = true := by kernel_rfl
theorem en81 : entersA Tryz.prog 81 = true := by kernel_rfl
theorem en82 : entersA Tryz.prog 82 = true := by kernel_rfl
theorem en83 : entersA Tryz.prog 83 = true := by kernel_rfl
theorem en84 : entersA Tryz.prog 84 = true := by kernel_rfl
theorem en85 : entersA Tryz.prog 85 = true := by kernel_rfl
theorem en86 : entersA Tryz.prog 86 = true := by kernel_rfl
theorem en87 : entersA Tryz.prog 87 = true := by kernel_rfl
theorem en88 : entersA Tryz.prog 88 = true := by kernel_rfl
theorem en89 : entersA Tryz.prog 89 = true := by kernel_rfl
theorem en90 : entersA Tryz.prog 90 = true := by kernel_rfl
theorem en91 : entersA Tryz.prog 91 = true := by kernel_rfl
theorem en92 : entersA Tryz.prog 92 = true := by kernel_rfl
theorem en93 : entersA Tryz.prog 93 = true := by kernel_rfl
theorem en94 : entersA Tryz.prog 94 = true := by kernel_rfl
theorem en95 : entersA Tryz.prog 95 = true := by kernel_rfl
theorem en96 : entersA Tryz.prog 96 = true := by kernel_rfl
theorem en97 : entersA Tryz.prog 97 = true := by kernel_rfl
theorem en98 : entersA Tryz.prog 98 = true := by kernel_rfl
theorem en99 : entersA Tryz.prog 99 = true := by kernel_rfl
theorem en100 : entersA Tryz.prog 100 = true := by kernel_rfl
theorem en101 : entersA Tryz.prog 101 = true := by kernel_rfl
theorem en102 : entersA Tryz.prog 102 = true := by kernel_rfl
theorem en103 : entersA Tryz.prog 103 = true := by kernel_rfl
theorem en104 : entersA Tryz.prog 104 = true := by kernel_rfl
attribute [simp] fi24_0 fi24_1 fi24_2 fi26_0 fi26_1 fi26_2 fi26_3 fi26_4 fi28_0 fi28_1 fi28_2 fi28_3
attribute [simp] fi28_4 fi28_5 fi28_6 fi28_7 fi28_8 fi28_9 fi28_10 fi31_0 fi31_1 fi31_2 fi31_3 fi35_0
attribute [simp] fi35_1 fi35_2 fi35_3 fi35_4 fi35_5 fi38_0 fi38_1 fi38_2 fi39_0 fi39_1 fi39_2 fi39_3
attribute [simp] fi39_4 fi41_0 fi41_1 fi41_2 fi41_3 fi41_4 fi41_5 fi41_6 fi41_7 fi41_8 fi41_9 fi41_10
attribute [simp] fi44_0 fi44_1 fi44_2 fi44_3 fi48_0 fi48_1 fi48_2 fi48_3 fi48_4 fi48_5 fi61_0 fi61_1
attribute [simp] fi64_0 fi64_1 fi64_2 fi64_3 fi66_0 fi66_1 fi66_2 fi82_0 fi82_1 fi85_0 fi85_1 fi85_2
attribute [simp] fi85_3 fi87_0 fi87_1 fi87_2 fi91_0 fi91_1 fi91_2 fi91_3 fi94_0 fi94_1 fi94_2 fi94_3
attribute [simp] fi94_4 fi94_5 fi94_6 fi94_7 fi99_0 fi99_1 fi99_2 fi99_3 fi102_0 fi102_1 fi102_2 fi102_3
attribute [simp] fi102_4 fi102_5 fi102_6 fi102_7 fi106_0 fi106_1 fi117_0 fi117_1 fi117_2 fi117_3 fi117_4 fi117_5
attribute [simp] fi117_6 fi119_0 fi119_1 fi119_2 fi119_3 fi119_4 fi119_5 fi119_6 fi126_0 fi126_1 fi126_2 fi126_3
attribute [simp] fi126_4 fi126_5 fi126_6 fi128_0 fi128_1 fi128_2 fi128_3 fi128_4 fi128_5 fi128_6 fi137_0 fi137_1
attribute [simp] fi137_2 fi137_3 fi139_0 fi139_1 fi146_0 fi146_1 fi159_0 fi159_1 fi159_2 fi159_3 fi163_0 fi163_1
attribute [simp] fi166_0 fi166_1 fi168_0 fi168_1 un2 un3 bbe4 bbn4 un4 un5 un9 un22
attribute [simp] el22 un29 el29 un32 el32 un33 el33 un42 el42 un45 el45 un46
attribute [simp] el46 un59 el59 un62 el62 un80 el80 un83 el83 un89 el89 un92
attribute [simp] el92 un97 el97 un100 el100 un115 el115 z5 zl5 by5 z9 zl9
attribute [simp] by9 z38 zl38 by38 z39 zl39 by39 z41 zl41 by41 z44 zl44
attribute [simp] by44 z48 zl48 by48 z61 zl61 by61 z64 zl64 by64 z66 zl66
attribute [simp] by66 z99 zl99 by99 z102 zl102 by102 z106 zl106 by106 z117 zl117
attribute [simp] by117 z119 zl119 by119 z137 zl137 by137 z139 zl139 by139 z146 zl146
attribute [simp] by146 sz2 sz4 sz5 sz9 sz22 sz24 sz26 sz28 sz29 sz31 sz32
attribute [simp] sz33 sz35 sz38 sz39 sz41 sz42 sz44 sz45 sz46 sz48 sz59 sz61
attribute [simp] sz62 sz64 sz66 sz80 sz82 sz83 sz85 sz87 sz89 sz91 sz92 sz94
attribute [simp] sz97 sz99 sz100 sz102 sz106 sz115 sz117 sz119 sz126 sz128 sz137 sz139
attribute [simp] sz146 sz159 sz163 sz166 sz168 ag2 ag4 ag5 ag9 ag22 ag24 ag26
attribute [simp] ag28 ag29 ag31 ag32 ag33 ag35 ag38 ag39 ag41 ag42 ag44 ag45
attribute [simp] ag46 ag48 ag59 ag61 ag62 ag64 ag66 ag80 ag82 ag83 ag85 ag87
attribute [simp] ag89 ag91 ag92 ag94 ag97 ag99 ag100 ag102 ag106 ag115 ag117 ag119
attribute [simp] ag126 ag128 ag137 ag139 ag146 ag159 ag163 ag166 ag168 en4 en5 en6
attribute [simp] en7 en8 en9 en10 en11 en12 en13 en14 en15 en16 en17 en18
attribute [simp] en19 en20 en21 en22 en23 en24 en26 en27 en28 en29 en30 en31
attribute [simp] en32 en33 en34 en35 en36 en37 en38 en39 en40 en41 en42 en43
attribute [simp] en44 en45 en46 en47 en49 en50 en51 en53 en54 en55 en56 en57
attribute [simp] en58 en59 en60 en61 en62 en63 en64 en65 en66 en67 en68 en69
attribute [simp] en70 en71 en72 en73 en74 en75 en76 en77 en78 en79 en80 en81
attribute [simp] en82 en83 en84 en85 en86 en87 en88 en89 en90 en91 en92 en93
attribute [simp] en94 en95 en96 en97 en98 en99 en100 en101 en102 en103 en104
end Go.Proofs.YtlgdhdelhpklbaaGreat.EV
