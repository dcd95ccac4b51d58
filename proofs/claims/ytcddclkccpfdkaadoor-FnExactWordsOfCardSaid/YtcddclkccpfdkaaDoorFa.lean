/- Table facts (printed by facts.py). -/
import Derived.Test.YtcddclkccpfdkaaDoorProg
import Derived.Test.YtcddclkccpfdkaaDoorLa
set_option linter.unusedSimpArgs false
set_option linter.unusedVariables false
namespace Go.Proofs.YtcddclkccpfdkaaDoor.EV
open Go.RowKit
theorem follows_mixed : Tryd.prog.follows .mixedOrders = true := by kernel_rfl
theorem fi24_0 : fieldA Tryd.prog 24 0 = some (2, 0) := by kernel_rfl
theorem fi24_1 : fieldA Tryd.prog 24 1 = some (22, 1) := by kernel_rfl
theorem un2 : Tryd.prog.underlying 2 = some (.int .i64) := by kernel_rfl
theorem un3 : Tryd.prog.underlying 3 = some (.int .i64) := by kernel_rfl
theorem un5 : Tryd.prog.underlying 5 = some (.int .u8) := by kernel_rfl
theorem un9 : Tryd.prog.underlying 9 = some .string := by kernel_rfl
theorem un22 : Tryd.prog.underlying 22 = some (.slice 9) := by kernel_rfl
theorem el22 : elemA Tryd.prog 22 = some 9 := by kernel_rfl
theorem un38 : Tryd.prog.underlying 38 = some (.slice 5) := by kernel_rfl
theorem el38 : elemA Tryd.prog 38 = some 5 := by kernel_rfl
theorem z5 : zeroA Tryd.prog 5 = some [.lit (.int .u8 0)] := by kernel_rfl
theorem zl5 : zlenA Tryd.prog 5 = some 1 := by kernel_rfl
theorem by5 : bytesA Tryd.prog 5 = some 1 := by kernel_rfl
theorem z9 : zeroA Tryd.prog 9 = some [.lit (.string { data := #[] })] := by kernel_rfl
theorem zl9 : zlenA Tryd.prog 9 = some 1 := by kernel_rfl
theorem by9 : bytesA Tryd.prog 9 = some 16 := by kernel_rfl
theorem z24 : zeroA Tryd.prog 24 = some [.lit (.int .i64 0), .sl .ex []] := by kernel_rfl
theorem zl24 : zlenA Tryd.prog 24 = some 2 := by kernel_rfl
theorem by24 : bytesA Tryd.prog 24 = some 32 := by kernel_rfl
theorem pl24 : placesA Tryd.prog 24 = some [(0, 1), (1, 1)] := by kernel_rfl
theorem sz2 : sizeA Tryd.prog 2 = some 1 := by kernel_rfl
theorem sz5 : sizeA Tryd.prog 5 = some 1 := by kernel_rfl
theorem sz9 : sizeA Tryd.prog 9 = some 1 := by kernel_rfl
theorem sz22 : sizeA Tryd.prog 22 = some 1 := by kernel_rfl
theorem sz24 : sizeA Tryd.prog 24 = some 2 := by kernel_rfl
theorem ag2 : isAggA Tryd.prog 2 = some false := by kernel_rfl
theorem ag5 : isAggA Tryd.prog 5 = some false := by kernel_rfl
theorem ag9 : isAggA Tryd.prog 9 = some false := by kernel_rfl
theorem ag22 : isAggA Tryd.prog 22 = some false := by kernel_rfl
theorem ag24 : isAggA Tryd.prog 24 = some true := by kernel_rfl
theorem en4 : entersA Tryd.prog 4 = true := by kernel_rfl
theorem en5 : entersA Tryd.prog 5 = true := by kernel_rfl
theorem en6 : entersA Tryd.prog 6 = true := by kernel_rfl
theorem en7 : entersA Tryd.prog 7 = true := by kernel_rfl
theorem en8 : entersA Tryd.prog 8 = true := by kernel_rfl
theorem en9 : entersA Tryd.prog 9 = true := by kernel_rfl
theorem en10 : entersA Tryd.prog 10 = true := by kernel_rfl
theorem en11 : entersA Tryd.prog 11 = true := by kernel_rfl
theorem en12 : entersA Tryd.prog 12 = true := by kernel_rfl
theorem en13 : entersA Tryd.prog 13 = true := by kernel_rfl
theorem en14 : entersA Tryd.prog 14 = true := by kernel_rfl
theorem en15 : entersA Tryd.prog 15 = true := by kernel_rfl
theorem en16 : entersA Tryd.prog 16 = true := by kernel_rfl
theorem en18 : entersA Tryd.prog 18 = true := by kernel_rfl
theorem en19 : entersA Tryd.prog 19 = true := by kernel_rfl
attribute [simp] fi24_0 fi24_1 un2 un3 un5 un9 un22 el22 un38 el38 z5 zl5
attribute [simp] by5 z9 zl9 by9 z24 zl24 by24 pl24 sz2 sz5 sz9 sz22
attribute [simp] sz24 ag2 ag5 ag9 ag22 ag24 en4 en5 en6 en7 en8 en9
attribute [simp] en10 en11 en12 en13 en14 en15 en16 en18 en19
end Go.Proofs.YtcddclkccpfdkaaDoor.EV
