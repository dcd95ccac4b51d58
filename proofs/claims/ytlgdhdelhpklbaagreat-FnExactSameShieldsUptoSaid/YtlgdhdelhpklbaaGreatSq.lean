/- Structs held against each other (printed by seq.py). -/
import Derived.Test.YtlgdhdelhpklbaaGreatFa
set_option linter.unusedSimpArgs false
set_option linter.unusedVariables false
namespace Go.Proofs.YtlgdhdelhpklbaaGreat.EV
open Go.RowKit
open Classical
theorem uns38 : Tryz.prog.underlying 38 = some (.struct #[{ name := "Slots", type := 2, offset := 0, embedded := false, tag := "", pkgPath := "", byteOffset := 0 }, { name := "Cap", type := 2, offset := 1, embedded := false, tag := "", pkgPath := "", byteOffset := 8 }, { name := "Time", type := 2, offset := 2, embedded := false, tag := "", pkgPath := "", byteOffset := 16 }]) := by kernel_rfl
theorem egt38 : Tryz.prog.eqGuardType Tryz.prog.depth 38 = false := by kernel_rfl
theorem sih38 : Tryz.prog.stoodInHeld 38 = false := by kernel_rfl
theorem fu38_2 : Tryz.prog.underlying 2 = some (.int .i64) := by kernel_rfl
theorem fu38_2_a : isAggA Tryz.prog 2 = some false := by kernel_rfl
theorem fu38_2_s : sizeA Tryz.prog 2 = some 1 := by kernel_rfl
theorem seq38 {x y : List AV} (hx : OkL lay38 x) (hy : OkL lay38 y) : binA Tryz.prog .eql 38 (.agg x) (.agg y) = some (.lit (.bool (decide (x = y)))) := by
  obtain ⟨c, r, rfl, hc, tx0⟩ := hx.cons_inv
  obtain ⟨x0, rfl, wx0⟩ := hc.int_inv
  obtain ⟨c, r, rfl, hc, tx1⟩ := tx0.cons_inv
  obtain ⟨x1, rfl, wx1⟩ := hc.int_inv
  obtain ⟨c, r, rfl, hc, tx2⟩ := tx1.cons_inv
  obtain ⟨x2, rfl, wx2⟩ := hc.int_inv
  have := tx2.nil_inv; subst this
  obtain ⟨c, r, rfl, hc, ty0⟩ := hy.cons_inv
  obtain ⟨y0, rfl, wy0⟩ := hc.int_inv
  obtain ⟨c, r, rfl, hc, ty1⟩ := ty0.cons_inv
  obtain ⟨y1, rfl, wy1⟩ := hc.int_inv
  obtain ⟨c, r, rfl, hc, ty2⟩ := ty1.cons_inv
  obtain ⟨y2, rfl, wy2⟩ := hc.int_inv
  have := ty2.nil_inv; subst this
  simp [binA, egt38, eqA, uns38, sih38, eqF, partA, AV.one, Value.oneCell', bytes_eqd, bytes_inj, fu38_2, fu38_2_a, fu38_2_s]
  all_goals (repeat' split)
  all_goals simp_all
theorem sne38 {x y : List AV} (hx : OkL lay38 x) (hy : OkL lay38 y) : binA Tryz.prog .neq 38 (.agg x) (.agg y) = some (.lit (.bool (!decide (x = y)))) := by
  obtain ⟨c, r, rfl, hc, tx0⟩ := hx.cons_inv
  obtain ⟨x0, rfl, wx0⟩ := hc.int_inv
  obtain ⟨c, r, rfl, hc, tx1⟩ := tx0.cons_inv
  obtain ⟨x1, rfl, wx1⟩ := hc.int_inv
  obtain ⟨c, r, rfl, hc, tx2⟩ := tx1.cons_inv
  obtain ⟨x2, rfl, wx2⟩ := hc.int_inv
  have := tx2.nil_inv; subst this
  obtain ⟨c, r, rfl, hc, ty0⟩ := hy.cons_inv
  obtain ⟨y0, rfl, wy0⟩ := hc.int_inv
  obtain ⟨c, r, rfl, hc, ty1⟩ := ty0.cons_inv
  obtain ⟨y1, rfl, wy1⟩ := hc.int_inv
  obtain ⟨c, r, rfl, hc, ty2⟩ := ty1.cons_inv
  obtain ⟨y2, rfl, wy2⟩ := hc.int_inv
  have := ty2.nil_inv; subst this
  simp [binA, egt38, eqA, uns38, sih38, eqF, partA, AV.one, Value.oneCell', bytes_eqd, bytes_inj, fu38_2, fu38_2_a, fu38_2_s]
  all_goals (repeat' split)
  all_goals simp_all
attribute [simp] seq38 sne38
theorem uns39 : Tryz.prog.underlying 39 = some (.struct #[{ name := "Window", type := 2, offset := 0, embedded := false, tag := "", pkgPath := "", byteOffset := 0 }, { name := "Min", type := 2, offset := 1, embedded := false, tag := "", pkgPath := "", byteOffset := 8 }, { name := "Ratio", type := 2, offset := 2, embedded := false, tag := "", pkgPath := "", byteOffset := 16 }, { name := "Cool", type := 2, offset := 3, embedded := false, tag := "", pkgPath := "", byteOffset := 24 }, { name := "Quota", type := 2, offset := 4, embedded := false, tag := "", pkgPath := "", byteOffset := 32 }]) := by kernel_rfl
theorem egt39 : Tryz.prog.eqGuardType Tryz.prog.depth 39 = false := by kernel_rfl
theorem sih39 : Tryz.prog.stoodInHeld 39 = false := by kernel_rfl
theorem fu39_2 : Tryz.prog.underlying 2 = some (.int .i64) := by kernel_rfl
theorem fu39_2_a : isAggA Tryz.prog 2 = some false := by kernel_rfl
theorem fu39_2_s : sizeA Tryz.prog 2 = some 1 := by kernel_rfl
theorem seq39 {x y : List AV} (hx : OkL lay39 x) (hy : OkL lay39 y) : binA Tryz.prog .eql 39 (.agg x) (.agg y) = some (.lit (.bool (decide (x = y)))) := by
  obtain ⟨c, r, rfl, hc, tx0⟩ := hx.cons_inv
  obtain ⟨x0, rfl, wx0⟩ := hc.int_inv
  obtain ⟨c, r, rfl, hc, tx1⟩ := tx0.cons_inv
  obtain ⟨x1, rfl, wx1⟩ := hc.int_inv
  obtain ⟨c, r, rfl, hc, tx2⟩ := tx1.cons_inv
  obtain ⟨x2, rfl, wx2⟩ := hc.int_inv
  obtain ⟨c, r, rfl, hc, tx3⟩ := tx2.cons_inv
  obtain ⟨x3, rfl, wx3⟩ := hc.int_inv
  obtain ⟨c, r, rfl, hc, tx4⟩ := tx3.cons_inv
  obtain ⟨x4, rfl, wx4⟩ := hc.int_inv
  have := tx4.nil_inv; subst this
  obtain ⟨c, r, rfl, hc, ty0⟩ := hy.cons_inv
  obtain ⟨y0, rfl, wy0⟩ := hc.int_inv
  obtain ⟨c, r, rfl, hc, ty1⟩ := ty0.cons_inv
  obtain ⟨y1, rfl, wy1⟩ := hc.int_inv
  obtain ⟨c, r, rfl, hc, ty2⟩ := ty1.cons_inv
  obtain ⟨y2, rfl, wy2⟩ := hc.int_inv
  obtain ⟨c, r, rfl, hc, ty3⟩ := ty2.cons_inv
  obtain ⟨y3, rfl, wy3⟩ := hc.int_inv
  obtain ⟨c, r, rfl, hc, ty4⟩ := ty3.cons_inv
  obtain ⟨y4, rfl, wy4⟩ := hc.int_inv
  have := ty4.nil_inv; subst this
  simp [binA, egt39, eqA, uns39, sih39, eqF, partA, AV.one, Value.oneCell', bytes_eqd, bytes_inj, fu39_2, fu39_2_a, fu39_2_s]
  all_goals (repeat' split)
  all_goals simp_all
theorem sne39 {x y : List AV} (hx : OkL lay39 x) (hy : OkL lay39 y) : binA Tryz.prog .neq 39 (.agg x) (.agg y) = some (.lit (.bool (!decide (x = y)))) := by
  obtain ⟨c, r, rfl, hc, tx0⟩ := hx.cons_inv
  obtain ⟨x0, rfl, wx0⟩ := hc.int_inv
  obtain ⟨c, r, rfl, hc, tx1⟩ := tx0.cons_inv
  obtain ⟨x1, rfl, wx1⟩ := hc.int_inv
  obtain ⟨c, r, rfl, hc, tx2⟩ := tx1.cons_inv
  obtain ⟨x2, rfl, wx2⟩ := hc.int_inv
  obtain ⟨c, r, rfl, hc, tx3⟩ := tx2.cons_inv
  obtain ⟨x3, rfl, wx3⟩ := hc.int_inv
  obtain ⟨c, r, rfl, hc, tx4⟩ := tx3.cons_inv
  obtain ⟨x4, rfl, wx4⟩ := hc.int_inv
  have := tx4.nil_inv; subst this
  obtain ⟨c, r, rfl, hc, ty0⟩ := hy.cons_inv
  obtain ⟨y0, rfl, wy0⟩ := hc.int_inv
  obtain ⟨c, r, rfl, hc, ty1⟩ := ty0.cons_inv
  obtain ⟨y1, rfl, wy1⟩ := hc.int_inv
  obtain ⟨c, r, rfl, hc, ty2⟩ := ty1.cons_inv
  obtain ⟨y2, rfl, wy2⟩ := hc.int_inv
  obtain ⟨c, r, rfl, hc, ty3⟩ := ty2.cons_inv
  obtain ⟨y3, rfl, wy3⟩ := hc.int_inv
  obtain ⟨c, r, rfl, hc, ty4⟩ := ty3.cons_inv
  obtain ⟨y4, rfl, wy4⟩ := hc.int_inv
  have := ty4.nil_inv; subst this
  simp [binA, egt39, eqA, uns39, sih39, eqF, partA, AV.one, Value.oneCell', bytes_eqd, bytes_inj, fu39_2, fu39_2_a, fu39_2_s]
  all_goals (repeat' split)
  all_goals simp_all
attribute [simp] seq39 sne39
theorem uns106 : Tryz.prog.underlying 106 = some (.struct #[{ name := "Id", type := 2, offset := 0, embedded := false, tag := "", pkgPath := "", byteOffset := 0 }, { name := "Due", type := 2, offset := 1, embedded := false, tag := "", pkgPath := "", byteOffset := 8 }]) := by kernel_rfl
theorem egt106 : Tryz.prog.eqGuardType Tryz.prog.depth 106 = false := by kernel_rfl
theorem sih106 : Tryz.prog.stoodInHeld 106 = false := by kernel_rfl
theorem fu106_2 : Tryz.prog.underlying 2 = some (.int .i64) := by kernel_rfl
theorem fu106_2_a : isAggA Tryz.prog 2 = some false := by kernel_rfl
theorem fu106_2_s : sizeA Tryz.prog 2 = some 1 := by kernel_rfl
theorem seq106 {x y : List AV} (hx : OkL lay106 x) (hy : OkL lay106 y) : binA Tryz.prog .eql 106 (.agg x) (.agg y) = some (.lit (.bool (decide (x = y)))) := by
  obtain ⟨c, r, rfl, hc, tx0⟩ := hx.cons_inv
  obtain ⟨x0, rfl, wx0⟩ := hc.int_inv
  obtain ⟨c, r, rfl, hc, tx1⟩ := tx0.cons_inv
  obtain ⟨x1, rfl, wx1⟩ := hc.int_inv
  have := tx1.nil_inv; subst this
  obtain ⟨c, r, rfl, hc, ty0⟩ := hy.cons_inv
  obtain ⟨y0, rfl, wy0⟩ := hc.int_inv
  obtain ⟨c, r, rfl, hc, ty1⟩ := ty0.cons_inv
  obtain ⟨y1, rfl, wy1⟩ := hc.int_inv
  have := ty1.nil_inv; subst this
  simp [binA, egt106, eqA, uns106, sih106, eqF, partA, AV.one, Value.oneCell', bytes_eqd, bytes_inj, fu106_2, fu106_2_a, fu106_2_s]
  all_goals (repeat' split)
  all_goals simp_all
theorem sne106 {x y : List AV} (hx : OkL lay106 x) (hy : OkL lay106 y) : binA Tryz.prog .neq 106 (.agg x) (.agg y) = some (.lit (.bool (!decide (x = y)))) := by
  obtain ⟨c, r, rfl, hc, tx0⟩ := hx.cons_inv
  obtain ⟨x0, rfl, wx0⟩ := hc.int_inv
  obtain ⟨c, r, rfl, hc, tx1⟩ := tx0.cons_inv
  obtain ⟨x1, rfl, wx1⟩ := hc.int_inv
  have := tx1.nil_inv; subst this
  obtain ⟨c, r, rfl, hc, ty0⟩ := hy.cons_inv
  obtain ⟨y0, rfl, wy0⟩ := hc.int_inv
  obtain ⟨c, r, rfl, hc, ty1⟩ := ty0.cons_inv
  obtain ⟨y1, rfl, wy1⟩ := hc.int_inv
  have := ty1.nil_inv; subst this
  simp [binA, egt106, eqA, uns106, sih106, eqF, partA, AV.one, Value.oneCell', bytes_eqd, bytes_inj, fu106_2, fu106_2_a, fu106_2_s]
  all_goals (repeat' split)
  all_goals simp_all
attribute [simp] seq106 sne106
theorem uns117 : Tryz.prog.underlying 117 = some (.struct #[{ name := "At", type := 2, offset := 0, embedded := false, tag := "", pkgPath := "", byteOffset := 0 }, { name := "Age", type := 2, offset := 1, embedded := false, tag := "", pkgPath := "", byteOffset := 8 }, { name := "Life", type := 2, offset := 2, embedded := false, tag := "", pkgPath := "", byteOffset := 16 }, { name := "Swr", type := 2, offset := 3, embedded := false, tag := "", pkgPath := "", byteOffset := 24 }, { name := "Sie", type := 2, offset := 4, embedded := false, tag := "", pkgPath := "", byteOffset := 32 }, { name := "Soft", type := 4, offset := 5, embedded := false, tag := "", pkgPath := "", byteOffset := 40 }, { name := "NoCache", type := 4, offset := 6, embedded := false, tag := "", pkgPath := "", byteOffset := 41 }]) := by kernel_rfl
theorem egt117 : Tryz.prog.eqGuardType Tryz.prog.depth 117 = false := by kernel_rfl
theorem sih117 : Tryz.prog.stoodInHeld 117 = false := by kernel_rfl
theorem fu117_2 : Tryz.prog.underlying 2 = some (.int .i64) := by kernel_rfl
theorem fu117_2_a : isAggA Tryz.prog 2 = some false := by kernel_rfl
theorem fu117_2_s : sizeA Tryz.prog 2 = some 1 := by kernel_rfl
theorem fu117_4 : Tryz.prog.underlying 4 = some (.bool) := by kernel_rfl
theorem fu117_4_a : isAggA Tryz.prog 4 = some false := by kernel_rfl
theorem fu117_4_s : sizeA Tryz.prog 4 = some 1 := by kernel_rfl
theorem seq117 {x y : List AV} (hx : OkL lay117 x) (hy : OkL lay117 y) : binA Tryz.prog .eql 117 (.agg x) (.agg y) = some (.lit (.bool (decide (x = y)))) := by
  obtain ⟨c, r, rfl, hc, tx0⟩ := hx.cons_inv
  obtain ⟨x0, rfl, wx0⟩ := hc.int_inv
  obtain ⟨c, r, rfl, hc, tx1⟩ := tx0.cons_inv
  obtain ⟨x1, rfl, wx1⟩ := hc.int_inv
  obtain ⟨c, r, rfl, hc, tx2⟩ := tx1.cons_inv
  obtain ⟨x2, rfl, wx2⟩ := hc.int_inv
  obtain ⟨c, r, rfl, hc, tx3⟩ := tx2.cons_inv
  obtain ⟨x3, rfl, wx3⟩ := hc.int_inv
  obtain ⟨c, r, rfl, hc, tx4⟩ := tx3.cons_inv
  obtain ⟨x4, rfl, wx4⟩ := hc.int_inv
  obtain ⟨c, r, rfl, hc, tx5⟩ := tx4.cons_inv
  obtain ⟨x5, rfl⟩ := hc.bool_inv
  obtain ⟨c, r, rfl, hc, tx6⟩ := tx5.cons_inv
  obtain ⟨x6, rfl⟩ := hc.bool_inv
  have := tx6.nil_inv; subst this
  obtain ⟨c, r, rfl, hc, ty0⟩ := hy.cons_inv
  obtain ⟨y0, rfl, wy0⟩ := hc.int_inv
  obtain ⟨c, r, rfl, hc, ty1⟩ := ty0.cons_inv
  obtain ⟨y1, rfl, wy1⟩ := hc.int_inv
  obtain ⟨c, r, rfl, hc, ty2⟩ := ty1.cons_inv
  obtain ⟨y2, rfl, wy2⟩ := hc.int_inv
  obtain ⟨c, r, rfl, hc, ty3⟩ := ty2.cons_inv
  obtain ⟨y3, rfl, wy3⟩ := hc.int_inv
  obtain ⟨c, r, rfl, hc, ty4⟩ := ty3.cons_inv
  obtain ⟨y4, rfl, wy4⟩ := hc.int_inv
  obtain ⟨c, r, rfl, hc, ty5⟩ := ty4.cons_inv
  obtain ⟨y5, rfl⟩ := hc.bool_inv
  obtain ⟨c, r, rfl, hc, ty6⟩ := ty5.cons_inv
  obtain ⟨y6, rfl⟩ := hc.bool_inv
  have := ty6.nil_inv; subst this
  simp [binA, egt117, eqA, uns117, sih117, eqF, partA, AV.one, Value.oneCell', bytes_eqd, bytes_inj, fu117_2, fu117_2_a, fu117_2_s, fu117_4, fu117_4_a, fu117_4_s]
  all_goals (repeat' split)
  all_goals simp_all
theorem sne117 {x y : List AV} (hx : OkL lay117 x) (hy : OkL lay117 y) : binA Tryz.prog .neq 117 (.agg x) (.agg y) = some (.lit (.bool (!decide (x = y)))) := by
  obtain ⟨c, r, rfl, hc, tx0⟩ := hx.cons_inv
  obtain ⟨x0, rfl, wx0⟩ := hc.int_inv
  obtain ⟨c, r, rfl, hc, tx1⟩ := tx0.cons_inv
  obtain ⟨x1, rfl, wx1⟩ := hc.int_inv
  obtain ⟨c, r, rfl, hc, tx2⟩ := tx1.cons_inv
  obtain ⟨x2, rfl, wx2⟩ := hc.int_inv
  obtain ⟨c, r, rfl, hc, tx3⟩ := tx2.cons_inv
  obtain ⟨x3, rfl, wx3⟩ := hc.int_inv
  obtain ⟨c, r, rfl, hc, tx4⟩ := tx3.cons_inv
  obtain ⟨x4, rfl, wx4⟩ := hc.int_inv
  obtain ⟨c, r, rfl, hc, tx5⟩ := tx4.cons_inv
  obtain ⟨x5, rfl⟩ := hc.bool_inv
  obtain ⟨c, r, rfl, hc, tx6⟩ := tx5.cons_inv
  obtain ⟨x6, rfl⟩ := hc.bool_inv
  have := tx6.nil_inv; subst this
  obtain ⟨c, r, rfl, hc, ty0⟩ := hy.cons_inv
  obtain ⟨y0, rfl, wy0⟩ := hc.int_inv
  obtain ⟨c, r, rfl, hc, ty1⟩ := ty0.cons_inv
  obtain ⟨y1, rfl, wy1⟩ := hc.int_inv
  obtain ⟨c, r, rfl, hc, ty2⟩ := ty1.cons_inv
  obtain ⟨y2, rfl, wy2⟩ := hc.int_inv
  obtain ⟨c, r, rfl, hc, ty3⟩ := ty2.cons_inv
  obtain ⟨y3, rfl, wy3⟩ := hc.int_inv
  obtain ⟨c, r, rfl, hc, ty4⟩ := ty3.cons_inv
  obtain ⟨y4, rfl, wy4⟩ := hc.int_inv
  obtain ⟨c, r, rfl, hc, ty5⟩ := ty4.cons_inv
  obtain ⟨y5, rfl⟩ := hc.bool_inv
  obtain ⟨c, r, rfl, hc, ty6⟩ := ty5.cons_inv
  obtain ⟨y6, rfl⟩ := hc.bool_inv
  have := ty6.nil_inv; subst this
  simp [binA, egt117, eqA, uns117, sih117, eqF, partA, AV.one, Value.oneCell', bytes_eqd, bytes_inj, fu117_2, fu117_2_a, fu117_2_s, fu117_4, fu117_4_a, fu117_4_s]
  all_goals (repeat' split)
  all_goals simp_all
attribute [simp] seq117 sne117
theorem uns137 : Tryz.prog.underlying 137 = some (.struct #[{ name := "Req", type := 2, offset := 0, embedded := false, tag := "", pkgPath := "", byteOffset := 0 }, { name := "Head", type := 4, offset := 1, embedded := false, tag := "", pkgPath := "", byteOffset := 8 }, { name := "Due", type := 2, offset := 2, embedded := false, tag := "", pkgPath := "", byteOffset := 16 }, { name := "Late", type := 4, offset := 3, embedded := false, tag := "", pkgPath := "", byteOffset := 24 }]) := by kernel_rfl
theorem egt137 : Tryz.prog.eqGuardType Tryz.prog.depth 137 = false := by kernel_rfl
theorem sih137 : Tryz.prog.stoodInHeld 137 = false := by kernel_rfl
theorem fu137_2 : Tryz.prog.underlying 2 = some (.int .i64) := by kernel_rfl
theorem fu137_2_a : isAggA Tryz.prog 2 = some false := by kernel_rfl
theorem fu137_2_s : sizeA Tryz.prog 2 = some 1 := by kernel_rfl
theorem fu137_4 : Tryz.prog.underlying 4 = some (.bool) := by kernel_rfl
theorem fu137_4_a : isAggA Tryz.prog 4 = some false := by kernel_rfl
theorem fu137_4_s : sizeA Tryz.prog 4 = some 1 := by kernel_rfl
theorem seq137 {x y : List AV} (hx : OkL lay137 x) (hy : OkL lay137 y) : binA Tryz.prog .eql 137 (.agg x) (.agg y) = some (.lit (.bool (decide (x = y)))) := by
  obtain ⟨c, r, rfl, hc, tx0⟩ := hx.cons_inv
  obtain ⟨x0, rfl, wx0⟩ := hc.int_inv
  obtain ⟨c, r, rfl, hc, tx1⟩ := tx0.cons_inv
  obtain ⟨x1, rfl⟩ := hc.bool_inv
  obtain ⟨c, r, rfl, hc, tx2⟩ := tx1.cons_inv
  obtain ⟨x2, rfl, wx2⟩ := hc.int_inv
  obtain ⟨c, r, rfl, hc, tx3⟩ := tx2.cons_inv
  obtain ⟨x3, rfl⟩ := hc.bool_inv
  have := tx3.nil_inv; subst this
  obtain ⟨c, r, rfl, hc, ty0⟩ := hy.cons_inv
  obtain ⟨y0, rfl, wy0⟩ := hc.int_inv
  obtain ⟨c, r, rfl, hc, ty1⟩ := ty0.cons_inv
  obtain ⟨y1, rfl⟩ := hc.bool_inv
  obtain ⟨c, r, rfl, hc, ty2⟩ := ty1.cons_inv
  obtain ⟨y2, rfl, wy2⟩ := hc.int_inv
  obtain ⟨c, r, rfl, hc, ty3⟩ := ty2.cons_inv
  obtain ⟨y3, rfl⟩ := hc.bool_inv
  have := ty3.nil_inv; subst this
  simp [binA, egt137, eqA, uns137, sih137, eqF, partA, AV.one, Value.oneCell', bytes_eqd, bytes_inj, fu137_2, fu137_2_a, fu137_2_s, fu137_4, fu137_4_a, fu137_4_s]
  all_goals (repeat' split)
  all_goals simp_all
theorem sne137 {x y : List AV} (hx : OkL lay137 x) (hy : OkL lay137 y) : binA Tryz.prog .neq 137 (.agg x) (.agg y) = some (.lit (.bool (!decide (x = y)))) := by
  obtain ⟨c, r, rfl, hc, tx0⟩ := hx.cons_inv
  obtain ⟨x0, rfl, wx0⟩ := hc.int_inv
  obtain ⟨c, r, rfl, hc, tx1⟩ := tx0.cons_inv
  obtain ⟨x1, rfl⟩ := hc.bool_inv
  obtain ⟨c, r, rfl, hc, tx2⟩ := tx1.cons_inv
  obtain ⟨x2, rfl, wx2⟩ := hc.int_inv
  obtain ⟨c, r, rfl, hc, tx3⟩ := tx2.cons_inv
  obtain ⟨x3, rfl⟩ := hc.bool_inv
  have := tx3.nil_inv; subst this
  obtain ⟨c, r, rfl, hc, ty0⟩ := hy.cons_inv
  obtain ⟨y0, rfl, wy0⟩ := hc.int_inv
  obtain ⟨c, r, rfl, hc, ty1⟩ := ty0.cons_inv
  obtain ⟨y1, rfl⟩ := hc.bool_inv
  obtain ⟨c, r, rfl, hc, ty2⟩ := ty1.cons_inv
  obtain ⟨y2, rfl, wy2⟩ := hc.int_inv
  obtain ⟨c, r, rfl, hc, ty3⟩ := ty2.cons_inv
  obtain ⟨y3, rfl⟩ := hc.bool_inv
  have := ty3.nil_inv; subst this
  simp [binA, egt137, eqA, uns137, sih137, eqF, partA, AV.one, Value.oneCell', bytes_eqd, bytes_inj, fu137_2, fu137_2_a, fu137_2_s, fu137_4, fu137_4_a, fu137_4_s]
  all_goals (repeat' split)
  all_goals simp_all
attribute [simp] seq137 sne137
theorem uns139 : Tryz.prog.underlying 139 = some (.struct #[{ name := "At", type := 2, offset := 0, embedded := false, tag := "", pkgPath := "", byteOffset := 0 }, { name := "Good", type := 4, offset := 1, embedded := false, tag := "", pkgPath := "", byteOffset := 8 }]) := by kernel_rfl
theorem egt139 : Tryz.prog.eqGuardType Tryz.prog.depth 139 = false := by kernel_rfl
theorem sih139 : Tryz.prog.stoodInHeld 139 = false := by kernel_rfl
theorem fu139_2 : Tryz.prog.underlying 2 = some (.int .i64) := by kernel_rfl
theorem fu139_2_a : isAggA Tryz.prog 2 = some false := by kernel_rfl
theorem fu139_2_s : sizeA Tryz.prog 2 = some 1 := by kernel_rfl
theorem fu139_4 : Tryz.prog.underlying 4 = some (.bool) := by kernel_rfl
theorem fu139_4_a : isAggA Tryz.prog 4 = some false := by kernel_rfl
theorem fu139_4_s : sizeA Tryz.prog 4 = some 1 := by kernel_rfl
theorem seq139 {x y : List AV} (hx : OkL lay139 x) (hy : OkL lay139 y) : binA Tryz.prog .eql 139 (.agg x) (.agg y) = some (.lit (.bool (decide (x = y)))) := by
  obtain ⟨c, r, rfl, hc, tx0⟩ := hx.cons_inv
  obtain ⟨x0, rfl, wx0⟩ := hc.int_inv
  obtain ⟨c, r, rfl, hc, tx1⟩ := tx0.cons_inv
  obtain ⟨x1, rfl⟩ := hc.bool_inv
  have := tx1.nil_inv; subst this
  obtain ⟨c, r, rfl, hc, ty0⟩ := hy.cons_inv
  obtain ⟨y0, rfl, wy0⟩ := hc.int_inv
  obtain ⟨c, r, rfl, hc, ty1⟩ := ty0.cons_inv
  obtain ⟨y1, rfl⟩ := hc.bool_inv
  have := ty1.nil_inv; subst this
  simp [binA, egt139, eqA, uns139, sih139, eqF, partA, AV.one, Value.oneCell', bytes_eqd, bytes_inj, fu139_2, fu139_2_a, fu139_2_s, fu139_4, fu139_4_a, fu139_4_s]
  all_goals (repeat' split)
  all_goals simp_all
theorem sne139 {x y : List AV} (hx : OkL lay139 x) (hy : OkL lay139 y) : binA Tryz.prog .neq 139 (.agg x) (.agg y) = some (.lit (.bool (!decide (x = y)))) := by
  obtain ⟨c, r, rfl, hc, tx0⟩ := hx.cons_inv
  obtain ⟨x0, rfl, wx0⟩ := hc.int_inv
  obtain ⟨c, r, rfl, hc, tx1⟩ := tx0.cons_inv
  obtain ⟨x1, rfl⟩ := hc.bool_inv
  have := tx1.nil_inv; subst this
  obtain ⟨c, r, rfl, hc, ty0⟩ := hy.cons_inv
  obtain ⟨y0, rfl, wy0⟩ := hc.int_inv
  obtain ⟨c, r, rfl, hc, ty1⟩ := ty0.cons_inv
  obtain ⟨y1, rfl⟩ := hc.bool_inv
  have := ty1.nil_inv; subst this
  simp [binA, egt139, eqA, uns139, sih139, eqF, partA, AV.one, Value.oneCell', bytes_eqd, bytes_inj, fu139_2, fu139_2_a, fu139_2_s, fu139_4, fu139_4_a, fu139_4_s]
  all_goals (repeat' split)
  all_goals simp_all
attribute [simp] seq139 sne139
theorem uns146 : Tryz.prog.underlying 146 = some (.struct #[{ name := "Name", type := 9, offset := 0, embedded := false, tag := "", pkgPath := "", byteOffset := 0 }, { name := "Value", type := 9, offset := 1, embedded := false, tag := "", pkgPath := "", byteOffset := 16 }]) := by kernel_rfl
theorem egt146 : Tryz.prog.eqGuardType Tryz.prog.depth 146 = false := by kernel_rfl
theorem sih146 : Tryz.prog.stoodInHeld 146 = false := by kernel_rfl
theorem fu146_9 : Tryz.prog.underlying 9 = some (.string) := by kernel_rfl
theorem fu146_9_a : isAggA Tryz.prog 9 = some false := by kernel_rfl
theorem fu146_9_s : sizeA Tryz.prog 9 = some 1 := by kernel_rfl
theorem seq146 {x y : List AV} (hx : OkL lay146 x) (hy : OkL lay146 y) : binA Tryz.prog .eql 146 (.agg x) (.agg y) = some (.lit (.bool (decide (x = y)))) := by
  obtain ⟨c, r, rfl, hc, tx0⟩ := hx.cons_inv
  obtain ⟨x0, rfl, wx0⟩ := hc.str_inv
  obtain ⟨c, r, rfl, hc, tx1⟩ := tx0.cons_inv
  obtain ⟨x1, rfl, wx1⟩ := hc.str_inv
  have := tx1.nil_inv; subst this
  obtain ⟨c, r, rfl, hc, ty0⟩ := hy.cons_inv
  obtain ⟨y0, rfl, wy0⟩ := hc.str_inv
  obtain ⟨c, r, rfl, hc, ty1⟩ := ty0.cons_inv
  obtain ⟨y1, rfl, wy1⟩ := hc.str_inv
  have := ty1.nil_inv; subst this
  simp [binA, egt146, eqA, uns146, sih146, eqF, partA, AV.one, Value.oneCell', bytes_eqd, bytes_inj, fu146_9, fu146_9_a, fu146_9_s]
  all_goals (repeat' split)
  all_goals simp_all
theorem sne146 {x y : List AV} (hx : OkL lay146 x) (hy : OkL lay146 y) : binA Tryz.prog .neq 146 (.agg x) (.agg y) = some (.lit (.bool (!decide (x = y)))) := by
  obtain ⟨c, r, rfl, hc, tx0⟩ := hx.cons_inv
  obtain ⟨x0, rfl, wx0⟩ := hc.str_inv
  obtain ⟨c, r, rfl, hc, tx1⟩ := tx0.cons_inv
  obtain ⟨x1, rfl, wx1⟩ := hc.str_inv
  have := tx1.nil_inv; subst this
  obtain ⟨c, r, rfl, hc, ty0⟩ := hy.cons_inv
  obtain ⟨y0, rfl, wy0⟩ := hc.str_inv
  obtain ⟨c, r, rfl, hc, ty1⟩ := ty0.cons_inv
  obtain ⟨y1, rfl, wy1⟩ := hc.str_inv
  have := ty1.nil_inv; subst this
  simp [binA, egt146, eqA, uns146, sih146, eqF, partA, AV.one, Value.oneCell', bytes_eqd, bytes_inj, fu146_9, fu146_9_a, fu146_9_s]
  all_goals (repeat' split)
  all_goals simp_all
attribute [simp] seq146 sne146
end Go.Proofs.YtlgdhdelhpklbaaGreat.EV
