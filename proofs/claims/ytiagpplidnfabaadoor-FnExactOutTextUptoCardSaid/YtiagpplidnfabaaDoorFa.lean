/- Table facts (printed by facts.py). -/
import Derived.Test.YtiagpplidnfabaaDoorProg
import Derived.Test.YtiagpplidnfabaaDoorLa
set_option linter.unusedSimpArgs false
set_option linter.unusedVariables false
namespace Go.Proofs.YtiagpplidnfabaaDoor.EV
open Go.RowKit
theorem follows_mixed : Tryd.prog.follows .mixedOrders = true := by kernel_rfl
theorem fi25_0 : fieldA Tryd.prog 25 0 = some (2, 0) := by kernel_rfl
theorem fi25_1 : fieldA Tryd.prog 25 1 = some (22, 1) := by kernel_rfl
theorem fi25_2 : fieldA Tryd.prog 25 2 = some (23, 2) := by kernel_rfl
theorem fi27_0 : fieldA Tryd.prog 27 0 = some (9, 0) := by kernel_rfl
theorem fi27_1 : fieldA Tryd.prog 27 1 = some (9, 1) := by kernel_rfl
theorem fi27_2 : fieldA Tryd.prog 27 2 = some (9, 2) := by kernel_rfl
theorem fi27_3 : fieldA Tryd.prog 27 3 = some (22, 3) := by kernel_rfl
theorem fi29_0 : fieldA Tryd.prog 29 0 = some (2, 0) := by kernel_rfl
theorem fi29_1 : fieldA Tryd.prog 29 1 = some (2, 1) := by kernel_rfl
theorem fi29_2 : fieldA Tryd.prog 29 2 = some (9, 2) := by kernel_rfl
theorem fi29_3 : fieldA Tryd.prog 29 3 = some (25, 3) := by kernel_rfl
theorem fi29_4 : fieldA Tryd.prog 29 4 = some (27, 6) := by kernel_rfl
theorem fi32_0 : fieldA Tryd.prog 32 0 = some (2, 0) := by kernel_rfl
theorem fi32_1 : fieldA Tryd.prog 32 1 = some (9, 1) := by kernel_rfl
theorem fi36_0 : fieldA Tryd.prog 36 0 = some (2, 0) := by kernel_rfl
theorem fi36_1 : fieldA Tryd.prog 36 1 = some (34, 1) := by kernel_rfl
theorem fi36_2 : fieldA Tryd.prog 36 2 = some (23, 2) := by kernel_rfl
theorem fi38_0 : fieldA Tryd.prog 38 0 = some (9, 0) := by kernel_rfl
theorem fi38_1 : fieldA Tryd.prog 38 1 = some (9, 1) := by kernel_rfl
theorem fi38_2 : fieldA Tryd.prog 38 2 = some (9, 2) := by kernel_rfl
theorem fi38_3 : fieldA Tryd.prog 38 3 = some (34, 3) := by kernel_rfl
theorem fi40_0 : fieldA Tryd.prog 40 0 = some (2, 0) := by kernel_rfl
theorem fi40_1 : fieldA Tryd.prog 40 1 = some (2, 1) := by kernel_rfl
theorem fi40_2 : fieldA Tryd.prog 40 2 = some (9, 2) := by kernel_rfl
theorem fi40_3 : fieldA Tryd.prog 40 3 = some (36, 3) := by kernel_rfl
theorem fi40_4 : fieldA Tryd.prog 40 4 = some (38, 6) := by kernel_rfl
theorem fi69_0 : fieldA Tryd.prog 69 0 = some (9, 0) := by kernel_rfl
theorem fi69_1 : fieldA Tryd.prog 69 1 = some (9, 1) := by kernel_rfl
theorem fi71_0 : fieldA Tryd.prog 71 0 = some (9, 0) := by kernel_rfl
theorem fi71_1 : fieldA Tryd.prog 71 1 = some (9, 1) := by kernel_rfl
theorem un2 : Tryd.prog.underlying 2 = some (.int .i64) := by kernel_rfl
theorem un3 : Tryd.prog.underlying 3 = some (.int .i64) := by kernel_rfl
theorem un5 : Tryd.prog.underlying 5 = some (.int .u8) := by kernel_rfl
theorem un9 : Tryd.prog.underlying 9 = some .string := by kernel_rfl
theorem un22 : Tryd.prog.underlying 22 = some (.slice 69) := by kernel_rfl
theorem el22 : elemA Tryd.prog 22 = some 69 := by kernel_rfl
theorem un23 : Tryd.prog.underlying 23 = some (.slice 5) := by kernel_rfl
theorem el23 : elemA Tryd.prog 23 = some 5 := by kernel_rfl
theorem un34 : Tryd.prog.underlying 34 = some (.slice 71) := by kernel_rfl
theorem el34 : elemA Tryd.prog 34 = some 71 := by kernel_rfl
theorem un63 : Tryd.prog.underlying 63 = some (.slice 9) := by kernel_rfl
theorem el63 : elemA Tryd.prog 63 = some 9 := by kernel_rfl
theorem z5 : zeroA Tryd.prog 5 = some [.lit (.int .u8 0)] := by kernel_rfl
theorem zl5 : zlenA Tryd.prog 5 = some 1 := by kernel_rfl
theorem by5 : bytesA Tryd.prog 5 = some 1 := by kernel_rfl
theorem z9 : zeroA Tryd.prog 9 = some [.lit (.string { data := #[] })] := by kernel_rfl
theorem zl9 : zlenA Tryd.prog 9 = some 1 := by kernel_rfl
theorem by9 : bytesA Tryd.prog 9 = some 16 := by kernel_rfl
theorem z32 : zeroA Tryd.prog 32 = some [.lit (.int .i64 0), .lit (.string { data := #[] })] := by kernel_rfl
theorem zl32 : zlenA Tryd.prog 32 = some 2 := by kernel_rfl
theorem by32 : bytesA Tryd.prog 32 = some 24 := by kernel_rfl
theorem z36 : zeroA Tryd.prog 36 = some [.lit (.int .i64 0), .sl .ex [], .sl .ex []] := by kernel_rfl
theorem zl36 : zlenA Tryd.prog 36 = some 3 := by kernel_rfl
theorem by36 : bytesA Tryd.prog 36 = some 56 := by kernel_rfl
theorem z38 : zeroA Tryd.prog 38 = some [.lit (.string { data := #[] }), .lit (.string { data := #[] }), .lit (.string { data := #[] }), .sl .ex []] := by kernel_rfl
theorem zl38 : zlenA Tryd.prog 38 = some 4 := by kernel_rfl
theorem by38 : bytesA Tryd.prog 38 = some 72 := by kernel_rfl
theorem z40 : zeroA Tryd.prog 40 = some [.lit (.int .i64 0), .lit (.int .i64 0), .lit (.string { data := #[] }), .lit (.int .i64 0), .sl .ex [], .sl .ex [], .lit (.string { data := #[] }), .lit (.string { data := #[] }), .lit (.string { data := #[] }), .sl .ex []] := by kernel_rfl
theorem zl40 : zlenA Tryd.prog 40 = some 10 := by kernel_rfl
theorem by40 : bytesA Tryd.prog 40 = some 160 := by kernel_rfl
theorem z71 : zeroA Tryd.prog 71 = some [.lit (.string { data := #[] }), .lit (.string { data := #[] })] := by kernel_rfl
theorem zl71 : zlenA Tryd.prog 71 = some 2 := by kernel_rfl
theorem by71 : bytesA Tryd.prog 71 = some 32 := by kernel_rfl
theorem pl32 : placesA Tryd.prog 32 = some [(0, 1), (1, 1)] := by kernel_rfl
theorem sz2 : sizeA Tryd.prog 2 = some 1 := by kernel_rfl
theorem sz5 : sizeA Tryd.prog 5 = some 1 := by kernel_rfl
theorem sz9 : sizeA Tryd.prog 9 = some 1 := by kernel_rfl
theorem sz22 : sizeA Tryd.prog 22 = some 1 := by kernel_rfl
theorem sz23 : sizeA Tryd.prog 23 = some 1 := by kernel_rfl
theorem sz25 : sizeA Tryd.prog 25 = some 3 := by kernel_rfl
theorem sz27 : sizeA Tryd.prog 27 = some 4 := by kernel_rfl
theorem sz29 : sizeA Tryd.prog 29 = some 10 := by kernel_rfl
theorem sz32 : sizeA Tryd.prog 32 = some 2 := by kernel_rfl
theorem sz34 : sizeA Tryd.prog 34 = some 1 := by kernel_rfl
theorem sz36 : sizeA Tryd.prog 36 = some 3 := by kernel_rfl
theorem sz38 : sizeA Tryd.prog 38 = some 4 := by kernel_rfl
theorem sz40 : sizeA Tryd.prog 40 = some 10 := by kernel_rfl
theorem sz69 : sizeA Tryd.prog 69 = some 2 := by kernel_rfl
theorem sz71 : sizeA Tryd.prog 71 = some 2 := by kernel_rfl
theorem ag2 : isAggA Tryd.prog 2 = some false := by kernel_rfl
theorem ag5 : isAggA Tryd.prog 5 = some false := by kernel_rfl
theorem ag9 : isAggA Tryd.prog 9 = some false := by kernel_rfl
theorem ag22 : isAggA Tryd.prog 22 = some false := by kernel_rfl
theorem ag23 : isAggA Tryd.prog 23 = some false := by kernel_rfl
theorem ag25 : isAggA Tryd.prog 25 = some true := by kernel_rfl
theorem ag27 : isAggA Tryd.prog 27 = some true := by kernel_rfl
theorem ag29 : isAggA Tryd.prog 29 = some true := by kernel_rfl
theorem ag32 : isAggA Tryd.prog 32 = some true := by kernel_rfl
theorem ag34 : isAggA Tryd.prog 34 = some false := by kernel_rfl
theorem ag36 : isAggA Tryd.prog 36 = some true := by kernel_rfl
theorem ag38 : isAggA Tryd.prog 38 = some true := by kernel_rfl
theorem ag40 : isAggA Tryd.prog 40 = some true := by kernel_rfl
theorem ag69 : isAggA Tryd.prog 69 = some true := by kernel_rfl
theorem ag71 : isAggA Tryd.prog 71 = some true := by kernel_rfl
theorem en4 : entersA Tryd.prog 4 = true := by kernel_rfl
theorem en5 : entersA Tryd.prog 5 = true := by kernel_rfl
theorem en6 : entersA Tryd.prog 6 = true := by kernel_rfl
theorem en7 : entersA Tryd.prog 7 = true := by kernel_rfl
theorem en8 : entersA Tryd.prog 8 = true := by kernel_rfl
theorem en9 : entersA Tryd.prog 9 = true := by kernel_rfl
theorem en10 : entersA Tryd.prog 10 = true := by kernel_rfl
theorem en11 : entersA Tryd.prog 11 = true := by kernel_rfl
theorem en12 : entersA Tryd.prog 12 = true := by kernel_rfl
theorem en13 : entersA Tryd.prog 13 = true := by kernel_rfl
theorem en14 : entersA Tryd.prog 14 = true := by kernel_rfl
theorem en15 : entersA Tryd.prog 15 = true := by kernel_rfl
theorem en16 : entersA Tryd.prog 16 = true := by kernel_rfl
theorem en17 : entersA Tryd.prog 17 = true := by kernel_rfl
theorem en18 : entersA Tryd.prog 18 = true := by kernel_rfl
theorem en19 : entersA Tryd.prog 19 = true := by kernel_rfl
theorem en20 : entersA Tryd.prog 20 = true := by kernel_rfl
theorem en21 : entersA Tryd.prog 21 = true := by kernel_rfl
theorem en22 : entersA Tryd.prog 22 = true := by kernel_rfl
theorem en23 : entersA Tryd.prog 23 = true := by kernel_rfl
theorem en24 : entersA Tryd.prog 24 = true := by kernel_rfl
theorem en25 : entersA Tryd.prog 25 = true := by kernel_rfl
theorem en26 : entersA Tryd.prog 26 = true := by kernel_rfl
theorem en27 : entersA Tryd.prog 27 = true := by kernel_rfl
theorem en28 : entersA Tryd.prog 28 = true := by kernel_rfl
theorem en29 : entersA Tryd.prog 29 = true := by kernel_rfl
theorem en30 : entersA Tryd.prog 30 = true := by kernel_rfl
theorem en31 : entersA Tryd.prog 31 = true := by kernel_rfl
theorem en32 : entersA Tryd.prog 32 = true := by kernel_rfl
theorem en33 : entersA Tryd.prog 33 = true := by kernel_rfl
theorem en34 : entersA Tryd.prog 34 = true := by kernel_rfl
theorem en35 : entersA Tryd.prog 35 = true := by kernel_rfl
theorem en37 : entersA Tryd.prog 37 = true := by kernel_rfl
theorem en38 : entersA Tryd.prog 38 = true := by kernel_rfl
theorem en39 : entersA Tryd.prog 39 = true := by kernel_rfl
theorem en44 : entersA Tryd.prog 44 = true := by kernel_rfl
attribute [simp] fi25_0 fi25_1 fi25_2 fi27_0 fi27_1 fi27_2 fi27_3 fi29_0 fi29_1 fi29_2 fi29_3 fi29_4
attribute [simp] fi32_0 fi32_1 fi36_0 fi36_1 fi36_2 fi38_0 fi38_1 fi38_2 fi38_3 fi40_0 fi40_1 fi40_2
attribute [simp] fi40_3 fi40_4 fi69_0 fi69_1 fi71_0 fi71_1 un2 un3 un5 un9 un22 el22
attribute [simp] un23 el23 un34 el34 un63 el63 z5 zl5 by5 z9 zl9 by9
attribute [simp] z32 zl32 by32 z36 zl36 by36 z38 zl38 by38 z40 zl40 by40
attribute [simp] z71 zl71 by71 pl32 sz2 sz5 sz9 sz22 sz23 sz25 sz27 sz29
attribute [simp] sz32 sz34 sz36 sz38 sz40 sz69 sz71 ag2 ag5 ag9 ag22 ag23
attribute [simp] ag25 ag27 ag29 ag32 ag34 ag36 ag38 ag40 ag69 ag71 en4 en5
attribute [simp] en6 en7 en8 en9 en10 en11 en12 en13 en14 en15 en16 en17
attribute [simp] en18 en19 en20 en21 en22 en23 en24 en25 en26 en27 en28 en29
attribute [simp] en30 en31 en32 en33 en34 en35 en37 en38 en39 en44
end Go.Proofs.YtiagpplidnfabaaDoor.EV
