/- Contracts, by same.py. -/
import Derived.Test.YtlgdhdelhpklbaaGreatSq
set_option maxHeartbeats 4000000
set_option maxRecDepth 20000
set_option linter.unusedSimpArgs false
set_option linter.unusedVariables false
namespace Go.Proofs.YtlgdhdelhpklbaaGreat.EV
open Go.RowKit
open Classical
theorem same8 (call : FuncId → List AV → Option AV) (m : Nat)
    (hc27 : ∀ x y, OkL lay41 x → OkL lay41 y → call 27 [.agg x, .agg y] = some (.lit (.bool (decide (x = y)))))
    (hc28 : ∀ x y, OkL lay44 x → OkL lay44 y → call 28 [.agg x, .agg y] = some (.lit (.bool (decide (x = y)))))
    (hc29 : ∀ x y, OkR lay66 x → OkR lay66 y → call 29 [.sl .sh x, .sl .sh y] = some (.lit (.bool (decide (x = y)))))
    (hc30 : ∀ x y, OkR lay102 x → OkR lay102 y → call 30 [.sl .sh x, .sl .sh y] = some (.lit (.bool (decide (x = y)))))
    {x y : List AV} (hx : OkL lay48 x) (hy : OkL lay48 y) : evBody Tryz.prog call m Tryz.f8 [.agg x, .agg y] = some (.lit (.bool (decide (x = y)))) := by
  obtain ⟨c, r, rfl, hc, tx0⟩ := hx.cons_inv
  obtain ⟨x0, rfl, wx0⟩ := hc.int_inv
  obtain ⟨c, r, rfl, hc, tx1⟩ := tx0.cons_inv
  obtain ⟨x1, rfl, wx1⟩ := hc.int_inv
  obtain ⟨c, r, rfl, hc, tx2⟩ := tx1.cons_inv
  obtain ⟨x2, rfl, wx2⟩ := hc.int_inv
  obtain ⟨c, r, rfl, hc, tx3⟩ := tx2.cons_inv
  obtain ⟨x3, rfl, wx3⟩ := hc.int_inv
  obtain ⟨c, r, rfl, hc, tx4⟩ := tx3.cons_inv
  obtain ⟨x4, rfl, wx4⟩ := hc.int_inv
  obtain ⟨c, r, rfl, hc, tx5⟩ := tx4.cons_inv
  obtain ⟨x5, rfl, wx5⟩ := hc.int_inv
  obtain ⟨c, r, rfl, hc, tx6⟩ := tx5.cons_inv
  obtain ⟨x6, rfl, wx6⟩ := hc.int_inv
  obtain ⟨c, r, rfl, hc, tx7⟩ := tx6.cons_inv
  obtain ⟨x7, rfl, wx7⟩ := hc.int_inv
  obtain ⟨c, r, rfl, hc, tx8⟩ := tx7.cons_inv
  obtain ⟨x8, rfl, wx8⟩ := hc.sl_inv
  obtain ⟨c, r, rfl, hc, tx9⟩ := tx8.cons_inv
  obtain ⟨x9, rfl, wx9⟩ := hc.int_inv
  obtain ⟨c, r, rfl, hc, tx10⟩ := tx9.cons_inv
  obtain ⟨x10, rfl, wx10⟩ := hc.int_inv
  obtain ⟨c, r, rfl, hc, tx11⟩ := tx10.cons_inv
  obtain ⟨x11, rfl, wx11⟩ := hc.int_inv
  obtain ⟨c, r, rfl, hc, tx12⟩ := tx11.cons_inv
  obtain ⟨x12, rfl, wx12⟩ := hc.int_inv
  obtain ⟨c, r, rfl, hc, tx13⟩ := tx12.cons_inv
  obtain ⟨x13, rfl, wx13⟩ := hc.int_inv
  obtain ⟨c, r, rfl, hc, tx14⟩ := tx13.cons_inv
  obtain ⟨x14, rfl, wx14⟩ := hc.int_inv
  obtain ⟨c, r, rfl, hc, tx15⟩ := tx14.cons_inv
  obtain ⟨x15, rfl, wx15⟩ := hc.int_inv
  obtain ⟨c, r, rfl, hc, tx16⟩ := tx15.cons_inv
  obtain ⟨x16, rfl, wx16⟩ := hc.int_inv
  obtain ⟨c, r, rfl, hc, tx17⟩ := tx16.cons_inv
  obtain ⟨x17, rfl, wx17⟩ := hc.int_inv
  obtain ⟨c, r, rfl, hc, tx18⟩ := tx17.cons_inv
  obtain ⟨x18, rfl, wx18⟩ := hc.int_inv
  obtain ⟨c, r, rfl, hc, tx19⟩ := tx18.cons_inv
  obtain ⟨x19, rfl, wx19⟩ := hc.int_inv
  obtain ⟨c, r, rfl, hc, tx20⟩ := tx19.cons_inv
  obtain ⟨x20, rfl, wx20⟩ := hc.int_inv
  obtain ⟨c, r, rfl, hc, tx21⟩ := tx20.cons_inv
  obtain ⟨x21, rfl, wx21⟩ := hc.sl_inv
  obtain ⟨c, r, rfl, hc, tx22⟩ := tx21.cons_inv
  obtain ⟨x22, rfl, wx22⟩ := hc.sl_inv
  obtain ⟨c, r, rfl, hc, tx23⟩ := tx22.cons_inv
  obtain ⟨x23, rfl, wx23⟩ := hc.sl_inv
  obtain ⟨c, r, rfl, hc, tx24⟩ := tx23.cons_inv
  obtain ⟨x24, rfl, wx24⟩ := hc.sl_inv
  have := tx24.nil_inv; subst this
  obtain ⟨c, r, rfl, hc, ty0⟩ := hy.cons_inv
  obtain ⟨y0, rfl, wy0⟩ := hc.int_inv
  obtain ⟨c, r, rfl, hc, ty1⟩ := ty0.cons_inv
  obtain ⟨y1, rfl, wy1⟩ := hc.int_inv
  obtain ⟨c, r, rfl, hc, ty2⟩ := ty1.cons_inv
  obtain ⟨y2, rfl, wy2⟩ := hc.int_inv
  obtain ⟨c, r, rfl, hc, ty3⟩ := ty2.cons_inv
  obtain ⟨y3, rfl, wy3⟩ := hc.int_inv
  obtain ⟨c, r, rfl, hc, ty4⟩ := ty3.cons_inv
  obtain ⟨y4, rfl, wy4⟩ := hc.int_inv
  obtain ⟨c, r, rfl, hc, ty5⟩ := ty4.cons_inv
  obtain ⟨y5, rfl, wy5⟩ := hc.int_inv
  obtain ⟨c, r, rfl, hc, ty6⟩ := ty5.cons_inv
  obtain ⟨y6, rfl, wy6⟩ := hc.int_inv
  obtain ⟨c, r, rfl, hc, ty7⟩ := ty6.cons_inv
  obtain ⟨y7, rfl, wy7⟩ := hc.int_inv
  obtain ⟨c, r, rfl, hc, ty8⟩ := ty7.cons_inv
  obtain ⟨y8, rfl, wy8⟩ := hc.sl_inv
  obtain ⟨c, r, rfl, hc, ty9⟩ := ty8.cons_inv
  obtain ⟨y9, rfl, wy9⟩ := hc.int_inv
  obtain ⟨c, r, rfl, hc, ty10⟩ := ty9.cons_inv
  obtain ⟨y10, rfl, wy10⟩ := hc.int_inv
  obtain ⟨c, r, rfl, hc, ty11⟩ := ty10.cons_inv
  obtain ⟨y11, rfl, wy11⟩ := hc.int_inv
  obtain ⟨c, r, rfl, hc, ty12⟩ := ty11.cons_inv
  obtain ⟨y12, rfl, wy12⟩ := hc.int_inv
  obtain ⟨c, r, rfl, hc, ty13⟩ := ty12.cons_inv
  obtain ⟨y13, rfl, wy13⟩ := hc.int_inv
  obtain ⟨c, r, rfl, hc, ty14⟩ := ty13.cons_inv
  obtain ⟨y14, rfl, wy14⟩ := hc.int_inv
  obtain ⟨c, r, rfl, hc, ty15⟩ := ty14.cons_inv
  obtain ⟨y15, rfl, wy15⟩ := hc.int_inv
  obtain ⟨c, r, rfl, hc, ty16⟩ := ty15.cons_inv
  obtain ⟨y16, rfl, wy16⟩ := hc.int_inv
  obtain ⟨c, r, rfl, hc, ty17⟩ := ty16.cons_inv
  obtain ⟨y17, rfl, wy17⟩ := hc.int_inv
  obtain ⟨c, r, rfl, hc, ty18⟩ := ty17.cons_inv
  obtain ⟨y18, rfl, wy18⟩ := hc.int_inv
  obtain ⟨c, r, rfl, hc, ty19⟩ := ty18.cons_inv
  obtain ⟨y19, rfl, wy19⟩ := hc.int_inv
  obtain ⟨c, r, rfl, hc, ty20⟩ := ty19.cons_inv
  obtain ⟨y20, rfl, wy20⟩ := hc.int_inv
  obtain ⟨c, r, rfl, hc, ty21⟩ := ty20.cons_inv
  obtain ⟨y21, rfl, wy21⟩ := hc.sl_inv
  obtain ⟨c, r, rfl, hc, ty22⟩ := ty21.cons_inv
  obtain ⟨y22, rfl, wy22⟩ := hc.sl_inv
  obtain ⟨c, r, rfl, hc, ty23⟩ := ty22.cons_inv
  obtain ⟨y23, rfl, wy23⟩ := hc.sl_inv
  obtain ⟨c, r, rfl, hc, ty24⟩ := ty23.cons_inv
  obtain ⟨y24, rfl, wy24⟩ := hc.sl_inv
  have := ty24.nil_inv; subst this
  apply ends_eq
  rw [ev_body (c := _) rfl]
  rw [show entry Tryz.f8 [.agg [.lit (.int .i64 x0), .lit (.int .i64 x1), .lit (.int .i64 x2), .lit (.int .i64 x3), .lit (.int .i64 x4), .lit (.int .i64 x5), .lit (.int .i64 x6), .lit (.int .i64 x7), .sl .sh x8, .lit (.int .i64 x9), .lit (.int .i64 x10), .lit (.int .i64 x11), .lit (.int .i64 x12), .lit (.int .i64 x13), .lit (.int .i64 x14), .lit (.int .i64 x15), .lit (.int .i64 x16), .lit (.int .i64 x17), .lit (.int .i64 x18), .lit (.int .i64 x19), .lit (.int .i64 x20), .sl .sh x21, .sl .sh x22, .sl .sh x23, .sl .sh x24], .agg [.lit (.int .i64 y0), .lit (.int .i64 y1), .lit (.int .i64 y2), .lit (.int .i64 y3), .lit (.int .i64 y4), .lit (.int .i64 y5), .lit (.int .i64 y6), .lit (.int .i64 y7), .sl .sh y8, .lit (.int .i64 y9), .lit (.int .i64 y10), .lit (.int .i64 y11), .lit (.int .i64 y12), .lit (.int .i64 y13), .lit (.int .i64 y14), .lit (.int .i64 y15), .lit (.int .i64 y16), .lit (.int .i64 y17), .lit (.int .i64 y18), .lit (.int .i64 y19), .lit (.int .i64 y20), .sl .sh y21, .sl .sh y22, .sl .sh y23, .sl .sh y24]] = { s := [.agg [.lit (.int .i64 x0), .lit (.int .i64 x1), .lit (.int .i64 x2), .lit (.int .i64 x3), .lit (.int .i64 x4), .lit (.int .i64 x5), .lit (.int .i64 x6), .lit (.int .i64 x7), .sl .sh x8, .lit (.int .i64 x9), .lit (.int .i64 x10), .lit (.int .i64 x11), .lit (.int .i64 x12), .lit (.int .i64 x13), .lit (.int .i64 x14), .lit (.int .i64 x15), .lit (.int .i64 x16), .lit (.int .i64 x17), .lit (.int .i64 x18), .lit (.int .i64 x19), .lit (.int .i64 x20), .sl .sh x21, .sl .sh x22, .sl .sh x23, .sl .sh x24], .agg [.lit (.int .i64 y0), .lit (.int .i64 y1), .lit (.int .i64 y2), .lit (.int .i64 y3), .lit (.int .i64 y4), .lit (.int .i64 y5), .lit (.int .i64 y6), .lit (.int .i64 y7), .sl .sh y8, .lit (.int .i64 y9), .lit (.int .i64 y10), .lit (.int .i64 y11), .lit (.int .i64 y12), .lit (.int .i64 y13), .lit (.int .i64 y14), .lit (.int .i64 y15), .lit (.int .i64 y16), .lit (.int .i64 y17), .lit (.int .i64 y18), .lit (.int .i64 y19), .lit (.int .i64 y20), .sl .sh y21, .sl .sh y22, .sl .sh y23, .sl .sh y24], .undef, .undef, .undef, .undef, .undef, .undef, .undef, .undef, .undef, .undef, .undef, .undef, .undef, .undef, .undef, .undef, .undef, .undef, .undef, .undef, .undef, .undef, .undef, .undef, .undef, .undef, .undef, .undef, .undef, .undef, .undef, .undef, .undef, .undef, .undef, .undef, .undef], live := fun _ _ => none } from rfl]
  simp (config := {contextual := true, maxSteps := 3000000, dsimp := false}) [Tryz.f8, ↓br_dec, setCells, hc27, hc28, hc29, hc30, wx0, wy0, wx1, wy1, wx2, wy2, wx3, wy3, wx4, wy4, wx5, wy5, wx6, wy6, wx7, wy7, wx8, wy8, wx9, wy9, wx10, wy10, wx11, wy11, wx12, wy12, wx13, wy13, wx14, wy14, wx15, wy15, wx16, wy16, wx17, wy17, wx18, wy18, wx19, wy19, wx20, wy20, wx21, wy21, wx22, wy22, wx23, wy23, wx24, wy24]
  all_goals (try simp (config := {contextual := true}))
  all_goals grind
theorem same27 (call : FuncId → List AV → Option AV) (m : Nat)
    (hc53 : ∀ x y, OkR lay9 x → OkR lay9 y → call 53 [.sl .sh x, .sl .sh y] = some (.lit (.bool (decide (x = y)))))
    (hc54 : ∀ x y, OkL lay38 x → OkL lay38 y → call 54 [.agg x, .agg y] = some (.lit (.bool (decide (x = y)))))
    (hc55 : ∀ x y, OkL lay39 x → OkL lay39 y → call 55 [.agg x, .agg y] = some (.lit (.bool (decide (x = y)))))
    {x y : List AV} (hx : OkL lay41 x) (hy : OkL lay41 y) : evBody Tryz.prog call m Tryz.f27 [.agg x, .agg y] = some (.lit (.bool (decide (x = y)))) := by
  obtain ⟨c, r, rfl, hc, tx0⟩ := hx.cons_inv
  obtain ⟨x0, rfl, wx0⟩ := hc.int_inv
  obtain ⟨c, r, rfl, hc, tx1⟩ := tx0.cons_inv
  obtain ⟨x1, rfl, wx1⟩ := hc.int_inv
  obtain ⟨c, r, rfl, hc, tx2⟩ := tx1.cons_inv
  obtain ⟨x2, rfl, wx2⟩ := hc.int_inv
  obtain ⟨c, r, rfl, hc, tx3⟩ := tx2.cons_inv
  obtain ⟨x3, rfl, wx3⟩ := hc.int_inv
  obtain ⟨c, r, rfl, hc, tx4⟩ := tx3.cons_inv
  obtain ⟨x4, rfl, wx4⟩ := hc.int_inv
  obtain ⟨c, r, rfl, hc, tx5⟩ := tx4.cons_inv
  obtain ⟨x5, rfl, wx5⟩ := hc.int_inv
  obtain ⟨c, r, rfl, hc, tx6⟩ := tx5.cons_inv
  obtain ⟨x6, rfl, wx6⟩ := hc.int_inv
  obtain ⟨c, r, rfl, hc, tx7⟩ := tx6.cons_inv
  obtain ⟨x7, rfl, wx7⟩ := hc.int_inv
  obtain ⟨c, r, rfl, hc, tx8⟩ := tx7.cons_inv
  obtain ⟨x8, rfl, wx8⟩ := hc.sl_inv
  obtain ⟨c, r, rfl, hc, tx9⟩ := tx8.cons_inv
  obtain ⟨x9, rfl, wx9⟩ := hc.int_inv
  obtain ⟨c, r, rfl, hc, tx10⟩ := tx9.cons_inv
  obtain ⟨x10, rfl, wx10⟩ := hc.int_inv
  obtain ⟨c, r, rfl, hc, tx11⟩ := tx10.cons_inv
  obtain ⟨x11, rfl, wx11⟩ := hc.int_inv
  obtain ⟨c, r, rfl, hc, tx12⟩ := tx11.cons_inv
  obtain ⟨x12, rfl, wx12⟩ := hc.int_inv
  obtain ⟨c, r, rfl, hc, tx13⟩ := tx12.cons_inv
  obtain ⟨x13, rfl, wx13⟩ := hc.int_inv
  obtain ⟨c, r, rfl, hc, tx14⟩ := tx13.cons_inv
  obtain ⟨x14, rfl, wx14⟩ := hc.int_inv
  obtain ⟨c, r, rfl, hc, tx15⟩ := tx14.cons_inv
  obtain ⟨x15, rfl, wx15⟩ := hc.int_inv
  obtain ⟨c, r, rfl, hc, tx16⟩ := tx15.cons_inv
  obtain ⟨x16, rfl, wx16⟩ := hc.int_inv
  have := tx16.nil_inv; subst this
  obtain ⟨c, r, rfl, hc, ty0⟩ := hy.cons_inv
  obtain ⟨y0, rfl, wy0⟩ := hc.int_inv
  obtain ⟨c, r, rfl, hc, ty1⟩ := ty0.cons_inv
  obtain ⟨y1, rfl, wy1⟩ := hc.int_inv
  obtain ⟨c, r, rfl, hc, ty2⟩ := ty1.cons_inv
  obtain ⟨y2, rfl, wy2⟩ := hc.int_inv
  obtain ⟨c, r, rfl, hc, ty3⟩ := ty2.cons_inv
  obtain ⟨y3, rfl, wy3⟩ := hc.int_inv
  obtain ⟨c, r, rfl, hc, ty4⟩ := ty3.cons_inv
  obtain ⟨y4, rfl, wy4⟩ := hc.int_inv
  obtain ⟨c, r, rfl, hc, ty5⟩ := ty4.cons_inv
  obtain ⟨y5, rfl, wy5⟩ := hc.int_inv
  obtain ⟨c, r, rfl, hc, ty6⟩ := ty5.cons_inv
  obtain ⟨y6, rfl, wy6⟩ := hc.int_inv
  obtain ⟨c, r, rfl, hc, ty7⟩ := ty6.cons_inv
  obtain ⟨y7, rfl, wy7⟩ := hc.int_inv
  obtain ⟨c, r, rfl, hc, ty8⟩ := ty7.cons_inv
  obtain ⟨y8, rfl, wy8⟩ := hc.sl_inv
  obtain ⟨c, r, rfl, hc, ty9⟩ := ty8.cons_inv
  obtain ⟨y9, rfl, wy9⟩ := hc.int_inv
  obtain ⟨c, r, rfl, hc, ty10⟩ := ty9.cons_inv
  obtain ⟨y10, rfl, wy10⟩ := hc.int_inv
  obtain ⟨c, r, rfl, hc, ty11⟩ := ty10.cons_inv
  obtain ⟨y11, rfl, wy11⟩ := hc.int_inv
  obtain ⟨c, r, rfl, hc, ty12⟩ := ty11.cons_inv
  obtain ⟨y12, rfl, wy12⟩ := hc.int_inv
  obtain ⟨c, r, rfl, hc, ty13⟩ := ty12.cons_inv
  obtain ⟨y13, rfl, wy13⟩ := hc.int_inv
  obtain ⟨c, r, rfl, hc, ty14⟩ := ty13.cons_inv
  obtain ⟨y14, rfl, wy14⟩ := hc.int_inv
  obtain ⟨c, r, rfl, hc, ty15⟩ := ty14.cons_inv
  obtain ⟨y15, rfl, wy15⟩ := hc.int_inv
  obtain ⟨c, r, rfl, hc, ty16⟩ := ty15.cons_inv
  obtain ⟨y16, rfl, wy16⟩ := hc.int_inv
  have := ty16.nil_inv; subst this
  apply ends_eq
  rw [ev_body (c := _) rfl]
  rw [show entry Tryz.f27 [.agg [.lit (.int .i64 x0), .lit (.int .i64 x1), .lit (.int .i64 x2), .lit (.int .i64 x3), .lit (.int .i64 x4), .lit (.int .i64 x5), .lit (.int .i64 x6), .lit (.int .i64 x7), .sl .sh x8, .lit (.int .i64 x9), .lit (.int .i64 x10), .lit (.int .i64 x11), .lit (.int .i64 x12), .lit (.int .i64 x13), .lit (.int .i64 x14), .lit (.int .i64 x15), .lit (.int .i64 x16)], .agg [.lit (.int .i64 y0), .lit (.int .i64 y1), .lit (.int .i64 y2), .lit (.int .i64 y3), .lit (.int .i64 y4), .lit (.int .i64 y5), .lit (.int .i64 y6), .lit (.int .i64 y7), .sl .sh y8, .lit (.int .i64 y9), .lit (.int .i64 y10), .lit (.int .i64 y11), .lit (.int .i64 y12), .lit (.int .i64 y13), .lit (.int .i64 y14), .lit (.int .i64 y15), .lit (.int .i64 y16)]] = { s := [.agg [.lit (.int .i64 x0), .lit (.int .i64 x1), .lit (.int .i64 x2), .lit (.int .i64 x3), .lit (.int .i64 x4), .lit (.int .i64 x5), .lit (.int .i64 x6), .lit (.int .i64 x7), .sl .sh x8, .lit (.int .i64 x9), .lit (.int .i64 x10), .lit (.int .i64 x11), .lit (.int .i64 x12), .lit (.int .i64 x13), .lit (.int .i64 x14), .lit (.int .i64 x15), .lit (.int .i64 x16)], .agg [.lit (.int .i64 y0), .lit (.int .i64 y1), .lit (.int .i64 y2), .lit (.int .i64 y3), .lit (.int .i64 y4), .lit (.int .i64 y5), .lit (.int .i64 y6), .lit (.int .i64 y7), .sl .sh y8, .lit (.int .i64 y9), .lit (.int .i64 y10), .lit (.int .i64 y11), .lit (.int .i64 y12), .lit (.int .i64 y13), .lit (.int .i64 y14), .lit (.int .i64 y15), .lit (.int .i64 y16)], .undef, .undef, .undef, .undef, .undef, .undef, .undef, .undef, .undef, .undef, .undef, .undef, .undef, .undef, .undef, .undef, .undef, .undef, .undef, .undef, .undef, .undef, .undef, .undef, .undef, .undef, .undef, .undef, .undef, .undef, .undef, .undef, .undef, .undef, .undef, .undef, .undef, .undef, .undef, .undef, .undef, .undef, .undef, .undef, .undef, .undef, .undef, .undef, .undef, .undef, .undef, .undef, .undef, .undef, .undef, .undef, .undef, .undef, .undef, .undef, .undef], live := fun _ _ => none } from rfl]
  simp (config := {contextual := true, maxSteps := 3000000, dsimp := false}) [Tryz.f27, ↓br_dec, setCells, hc53, hc54, hc55, wx0, wy0, wx1, wy1, wx2, wy2, wx3, wy3, wx4, wy4, wx5, wy5, wx6, wy6, wx7, wy7, wx8, wy8, wx9, wy9, wx10, wy10, wx11, wy11, wx12, wy12, wx13, wy13, wx14, wy14, wx15, wy15, wx16, wy16]
  all_goals (try simp (config := {contextual := true}))
  all_goals grind
theorem same28 (call : FuncId → List AV → Option AV) (m : Nat)
    (hc56 : ∀ x y, OkR lay119 x → OkR lay119 y → call 56 [.sl .sh x, .sl .sh y] = some (.lit (.bool (decide (x = y)))))
    {x y : List AV} (hx : OkL lay44 x) (hy : OkL lay44 y) : evBody Tryz.prog call m Tryz.f28 [.agg x, .agg y] = some (.lit (.bool (decide (x = y)))) := by
  obtain ⟨c, r, rfl, hc, tx0⟩ := hx.cons_inv
  obtain ⟨x0, rfl, wx0⟩ := hc.int_inv
  obtain ⟨c, r, rfl, hc, tx1⟩ := tx0.cons_inv
  obtain ⟨x1, rfl, wx1⟩ := hc.int_inv
  obtain ⟨c, r, rfl, hc, tx2⟩ := tx1.cons_inv
  obtain ⟨x2, rfl, wx2⟩ := hc.sl_inv
  obtain ⟨c, r, rfl, hc, tx3⟩ := tx2.cons_inv
  obtain ⟨x3, rfl, wx3⟩ := hc.sl_inv
  have := tx3.nil_inv; subst this
  obtain ⟨c, r, rfl, hc, ty0⟩ := hy.cons_inv
  obtain ⟨y0, rfl, wy0⟩ := hc.int_inv
  obtain ⟨c, r, rfl, hc, ty1⟩ := ty0.cons_inv
  obtain ⟨y1, rfl, wy1⟩ := hc.int_inv
  obtain ⟨c, r, rfl, hc, ty2⟩ := ty1.cons_inv
  obtain ⟨y2, rfl, wy2⟩ := hc.sl_inv
  obtain ⟨c, r, rfl, hc, ty3⟩ := ty2.cons_inv
  obtain ⟨y3, rfl, wy3⟩ := hc.sl_inv
  have := ty3.nil_inv; subst this
  apply ends_eq
  rw [ev_body (c := _) rfl]
  rw [show entry Tryz.f28 [.agg [.lit (.int .i64 x0), .lit (.int .i64 x1), .sl .sh x2, .sl .sh x3], .agg [.lit (.int .i64 y0), .lit (.int .i64 y1), .sl .sh y2, .sl .sh y3]] = { s := [.agg [.lit (.int .i64 x0), .lit (.int .i64 x1), .sl .sh x2, .sl .sh x3], .agg [.lit (.int .i64 y0), .lit (.int .i64 y1), .sl .sh y2, .sl .sh y3], .undef, .undef, .undef, .undef, .undef, .undef, .undef, .undef, .undef, .undef, .undef, .undef, .undef, .undef, .undef, .undef, .undef, .undef, .undef, .undef, .undef, .undef, .undef, .undef, .undef], live := fun _ _ => none } from rfl]
  simp (config := {contextual := true, maxSteps := 3000000, dsimp := false}) [Tryz.f28, ↓br_dec, setCells, hc56, wx0, wy0, wx1, wy1, wx2, wy2, wx3, wy3]
  all_goals (try simp (config := {contextual := true}))
  all_goals grind
theorem dr29_0 : drawnA Tryz.prog (drawnIn Tryz.f29 0) = true := drawn_of (tab := [⟨some 17, [0], false, []⟩, ⟨some 18, [5], false, []⟩, ⟨some 19, [17, 18], false, [0, 1]⟩, ⟨some 20, [19], false, [2]⟩, ⟨some 21, [1], false, []⟩, ⟨some 22, [5], false, []⟩, ⟨some 23, [21, 22], false, [4, 5]⟩, ⟨some 24, [23], false, [6]⟩, ⟨some 25, [20, 24], false, [3, 7]⟩, ⟨some 26, [25], false, [8]⟩]) follows_mixed (by kernel_rfl) (by kernel_rfl)
theorem lp29 (call : FuncId → List AV → Option AV) (m : Nat)
    (hc57 : ∀ x y, OkL lay66 x → OkL lay66 y → call 57 [.agg x, .agg y] = some (.lit (.bool (decide (x = y))))) 
    {c : Code} (hcd : c = loopIn Tryz.f29 0) {es fs : List (List AV)} (he : OkR lay66 es) (hf : OkR lay66 fs) (hl : es.length = fs.length) {F : Ex × Env → Prop} (h1 : ∀ (lv : Nat → Nat → Option Nat) (ui u2 u3 u6 u7 u8 u9 u10 u11 u12 u13 u14 u15 u16 u17 u18 u19 u20 u21 u22 u23 u24 u25 u26 : AV), es = fs → F (.exit 0, { s := [.sl .sh es, .sl .sh fs, u2, u3, .lit (.bool false), ui, u6, u7, u8, u9, u10, u11, u12, u13, u14, u15, u16, u17, u18, u19, u20, u21, u22, u23, u24, u25, u26], live := lv })) (h2 : ∀ E', es ≠ fs → E'.s[4]? = some (.lit (.bool false)) → F (.ret, E')) :
    ∀ (k N i : Nat) (lv : Nat → Nat → Option Nat) (u2 u3 u6 u7 u8 u9 u10 u11 u12 u13 u14 u15 u16 u17 u18 u19 u20 u21 u22 u23 u24 u25 u26 : AV), k < N → k + i = es.length → es.take i = fs.take i →
      (∀ u ∈ [u17, u18, u19, u20, u21, u22, u23, u24, u25, u26], notCell u = true) →
      Ends (evLoop (evCode Tryz.prog call m c) N { s := [.sl .sh es, .sl .sh fs, u2, u3, .lit (.bool false), .lit (.int .i64 (i : Int)), u6, u7, u8, u9, u10, u11, u12, u13, u14, u15, u16, u17, u18, u19, u20, u21, u22, u23, u24, u25, u26], live := lv }) F := by
  intro k
  induction k with
  | zero =>
    intro N i lv u2 u3 u6 u7 u8 u9 u10 u11 u12 u13 u14 u15 u16 u17 u18 u19 u20 u21 u22 u23 u24 u25 u26 hN hk hp hu
    obtain ⟨N, rfl⟩ : ∃ N', N = N' + 1 := ⟨N - 1, by omega⟩
    have hi : i = es.length := by omega
    subst hi
    rw [List.take_of_length_le (Nat.le_refl _), List.take_of_length_le (by omega)] at hp
    rw [ev_turn hcd]
    simp -dsimp [Tryz.f29, ↓br_dec]
    exact h1 _ _ _ _ _ _ _ _ _ _ _ _ _ _ _ _ _ _ _ _ _ _ _ _ _ hp
  | succ k ih =>
    intro N i lv u2 u3 u6 u7 u8 u9 u10 u11 u12 u13 u14 u15 u16 u17 u18 u19 u20 u21 u22 u23 u24 u25 u26 hN hk hp hu
    obtain ⟨N, rfl⟩ : ∃ N', N = N' + 1 := ⟨N - 1, by omega⟩
    obtain ⟨x, hx, hxo, hxt⟩ := he.get (i := i) (by omega)
    obtain ⟨y, hy, hyo, hyt⟩ := hf.get (i := i) (by omega)
    have hlt : ((i : Int) < (es.length : Int)) := by omega
    have hbd : i < 9223372036854775807 := by have := he.1; omega
    simp only [List.mem_cons, List.not_mem_nil, or_false, forall_eq_or_imp, forall_eq] at hu
    have hxl : x.length = 7 := hxo.1
    have hyl : y.length = 7 := hyo.1
    have dr0 := dr29_0
    simp only [drawnIn, drawnsOf, Tryz.f29, List.getD_cons_succ, List.getD_cons_zero, List.nil_append, List.append_nil, List.cons_append] at dr0
    rw [ev_turn hcd]
    have ihh : x = y → ∀ (lv : Nat → Nat → Option Nat) (u2 u3 u6 u7 u8 u9 u10 u11 u12 u13 u14 u15 u16 u17 u18 u19 u20 u21 u22 u23 u24 u25 u26 : AV), notCell u17 = true → notCell u18 = true → notCell u19 = true → notCell u20 = true → notCell u21 = true → notCell u22 = true → notCell u23 = true → notCell u24 = true → notCell u25 = true → notCell u26 = true → Ends (evLoop (evCode Tryz.prog call m c) N { s := [.sl .sh es, .sl .sh fs, u2, u3, .lit (.bool false), .lit (.int .i64 ((i + 1 : Nat) : Int)), u6, u7, u8, u9, u10, u11, u12, u13, u14, u15, u16, u17, u18, u19, u20, u21, u22, u23, u24, u25, u26], live := lv }) F := fun hxy lv u2 u3 u6 u7 u8 u9 u10 u11 u12 u13 u14 u15 u16 u17 u18 u19 u20 u21 u22 u23 u24 u25 u26 nu17 nu18 nu19 nu20 nu21 nu22 nu23 nu24 nu25 nu26 => ih N (i + 1) lv u2 u3 u6 u7 u8 u9 u10 u11 u12 u13 u14 u15 u16 u17 u18 u19 u20 u21 u22 u23 u24 u25 u26 (by omega) (by omega) (by rw [hxt, hyt, hp, hxy]) (by simp [nu17, nu18, nu19, nu20, nu21, nu22, nu23, nu24, nu25, nu26])
    have h2h : ¬ (x = y) → ∀ E', E'.s[4]? = some (.lit (.bool false)) → F (.ret, E') := fun hxy E' => h2 E' (fun h => hxy (by have hy' := hy; rw [← h, hx] at hy'; exact Option.some.inj hy'))
    clear ih h2
    by_cases hxy : x = y
    · subst hxy; have ihh := ihh rfl
      simp -dsimp [Tryz.f29, ↓br_dec, ↓ev_drawn dr0, setCells, hlt, hx, hy, wrap_small hbd, hu, hxl, hyl, hxo.plain, hyo.plain, hxo, hyo, hc57]
      exact ihh _ _ _ _ _ _ _ _ _ _ _ _ _ _ _ _ _ _ _ _ _ _ _ _ rfl rfl rfl rfl rfl rfl rfl rfl rfl rfl
    · have h2h := h2h hxy
      skip
      simp (config := {contextual := true, maxSteps := 3000000, dsimp := false}) [Tryz.f29, ↓br_dec, ↓ev_drawn dr0, setCells, hlt, hx, hy, wrap_small hbd, hu, hxl, hyl, hxo.plain, hyo.plain, hxo, hyo, hc57, h2h, hxy]
      all_goals (try simp (config := {contextual := true}))
      all_goals grind
theorem same29 (call : FuncId → List AV → Option AV)
    (hc57 : ∀ x y, OkL lay66 x → OkL lay66 y → call 57 [.agg x, .agg y] = some (.lit (.bool (decide (x = y))))) 
    {es fs : List (List AV)} (he : OkR lay66 es) (hf : OkR lay66 fs) : ∃ m, evBody Tryz.prog call m Tryz.f29 [.sl .sh es, .sl .sh fs] = some (.lit (.bool (decide (es = fs)))) := by
  refine ⟨es.length + 1, ?_⟩
  apply ends_eq
  rw [ev_body (c := _) rfl]
  rw [show entry Tryz.f29 [.sl .sh es, .sl .sh fs] = { s := [.sl .sh es, .sl .sh fs, .undef, .undef, .undef, .undef, .undef, .undef, .undef, .undef, .undef, .undef, .undef, .undef, .undef, .undef, .undef, .undef, .undef, .undef, .undef, .undef, .undef, .undef, .undef, .undef, .undef], live := fun _ _ => none } from rfl]
  by_cases hl : es.length = fs.length
  · have hl' : ((es.length : Int) = (fs.length : Int)) := by omega
    simp -dsimp [Tryz.f29, ↓br_dec, hl']
    try simp only [← hl']
    refine lp29 call _ hc57 rfl he hf hl (fun lv ui u2 u3 u6 u7 u8 u9 u10 u11 u12 u13 u14 u15 u16 u17 u18 u19 u20 u21 u22 u23 u24 u25 u26 h => ?_) (fun E' h hn => ?_) es.length _ 0 _ _ _ _ _ _ _ _ _ _ _ _ _ _ _ _ _ _ _ _ _ _ _ _ (by omega) (by omega) rfl (by simp [nc_lit])
    · simp -dsimp [Tryz.f29, ↓br_dec, h]
    · simp -dsimp [Tryz.f29, ↓br_dec, hn, h]
  · have hl' : ¬ ((es.length : Int) = (fs.length : Int)) := by omega
    have : es ≠ fs := fun h => hl (by rw [h])
    simp -dsimp [Tryz.f29, ↓br_dec, hl', this]
theorem dr30_0 : drawnA Tryz.prog (drawnIn Tryz.f30 0) = true := drawn_of (tab := [⟨some 17, [0], false, []⟩, ⟨some 18, [5], false, []⟩, ⟨some 19, [17, 18], false, [0, 1]⟩, ⟨some 20, [19], false, [2]⟩, ⟨some 21, [1], false, []⟩, ⟨some 22, [5], false, []⟩, ⟨some 23, [21, 22], false, [4, 5]⟩, ⟨some 24, [23], false, [6]⟩, ⟨some 25, [20, 24], false, [3, 7]⟩, ⟨some 26, [25], false, [8]⟩]) follows_mixed (by kernel_rfl) (by kernel_rfl)
theorem lp30 (call : FuncId → List AV → Option AV) (m : Nat)
    (hc58 : ∀ x y, OkL lay102 x → OkL lay102 y → call 58 [.agg x, .agg y] = some (.lit (.bool (decide (x = y))))) 
    {c : Code} (hcd : c = loopIn Tryz.f30 0) {es fs : List (List AV)} (he : OkR lay102 es) (hf : OkR lay102 fs) (hl : es.length = fs.length) {F : Ex × Env → Prop} (h1 : ∀ (lv : Nat → Nat → Option Nat) (ui u2 u3 u6 u7 u8 u9 u10 u11 u12 u13 u14 u15 u16 u17 u18 u19 u20 u21 u22 u23 u24 u25 u26 : AV), es = fs → F (.exit 0, { s := [.sl .sh es, .sl .sh fs, u2, u3, .lit (.bool false), ui, u6, u7, u8, u9, u10, u11, u12, u13, u14, u15, u16, u17, u18, u19, u20, u21, u22, u23, u24, u25, u26], live := lv })) (h2 : ∀ E', es ≠ fs → E'.s[4]? = some (.lit (.bool false)) → F (.ret, E')) :
    ∀ (k N i : Nat) (lv : Nat → Nat → Option Nat) (u2 u3 u6 u7 u8 u9 u10 u11 u12 u13 u14 u15 u16 u17 u18 u19 u20 u21 u22 u23 u24 u25 u26 : AV), k < N → k + i = es.length → es.take i = fs.take i →
      (∀ u ∈ [u17, u18, u19, u20, u21, u22, u23, u24, u25, u26], notCell u = true) →
      Ends (evLoop (evCode Tryz.prog call m c) N { s := [.sl .sh es, .sl .sh fs, u2, u3, .lit (.bool false), .lit (.int .i64 (i : Int)), u6, u7, u8, u9, u10, u11, u12, u13, u14, u15, u16, u17, u18, u19, u20, u21, u22, u23, u24, u25, u26], live := lv }) F := by
  intro k
  induction k with
  | zero =>
    intro N i lv u2 u3 u6 u7 u8 u9 u10 u11 u12 u13 u14 u15 u16 u17 u18 u19 u20 u21 u22 u23 u24 u25 u26 hN hk hp hu
    obtain ⟨N, rfl⟩ : ∃ N', N = N' + 1 := ⟨N - 1, by omega⟩
    have hi : i = es.length := by omega
    subst hi
    rw [List.take_of_length_le (Nat.le_refl _), List.take_of_length_le (by omega)] at hp
    rw [ev_turn hcd]
    simp -dsimp [Tryz.f30, ↓br_dec]
    exact h1 _ _ _ _ _ _ _ _ _ _ _ _ _ _ _ _ _ _ _ _ _ _ _ _ _ hp
  | succ k ih =>
    intro N i lv u2 u3 u6 u7 u8 u9 u10 u11 u12 u13 u14 u15 u16 u17 u18 u19 u20 u21 u22 u23 u24 u25 u26 hN hk hp hu
    obtain ⟨N, rfl⟩ : ∃ N', N = N' + 1 := ⟨N - 1, by omega⟩
    obtain ⟨x, hx, hxo, hxt⟩ := he.get (i := i) (by omega)
    obtain ⟨y, hy, hyo, hyt⟩ := hf.get (i := i) (by omega)
    have hlt : ((i : Int) < (es.length : Int)) := by omega
    have hbd : i < 9223372036854775807 := by have := he.1; omega
    simp only [List.mem_cons, List.not_mem_nil, or_false, forall_eq_or_imp, forall_eq] at hu
    have hxl : x.length = 11 := hxo.1
    have hyl : y.length = 11 := hyo.1
    have dr0 := dr30_0
    simp only [drawnIn, drawnsOf, Tryz.f30, List.getD_cons_succ, List.getD_cons_zero, List.nil_append, List.append_nil, List.cons_append] at dr0
    rw [ev_turn hcd]
    have ihh : x = y → ∀ (lv : Nat → Nat → Option Nat) (u2 u3 u6 u7 u8 u9 u10 u11 u12 u13 u14 u15 u16 u17 u18 u19 u20 u21 u22 u23 u24 u25 u26 : AV), notCell u17 = true → notCell u18 = true → notCell u19 = true → notCell u20 = true → notCell u21 = true → notCell u22 = true → notCell u23 = true → notCell u24 = true → notCell u25 = true → notCell u26 = true → Ends (evLoop (evCode Tryz.prog call m c) N { s := [.sl .sh es, .sl .sh fs, u2, u3, .lit (.bool false), .lit (.int .i64 ((i + 1 : Nat) : Int)), u6, u7, u8, u9, u10, u11, u12, u13, u14, u15, u16, u17, u18, u19, u20, u21, u22, u23, u24, u25, u26], live := lv }) F := fun hxy lv u2 u3 u6 u7 u8 u9 u10 u11 u12 u13 u14 u15 u16 u17 u18 u19 u20 u21 u22 u23 u24 u25 u26 nu17 nu18 nu19 nu20 nu21 nu22 nu23 nu24 nu25 nu26 => ih N (i + 1) lv u2 u3 u6 u7 u8 u9 u10 u11 u12 u13 u14 u15 u16 u17 u18 u19 u20 u21 u22 u23 u24 u25 u26 (by omega) (by omega) (by rw [hxt, hyt, hp, hxy]) (by simp [nu17, nu18, nu19, nu20, nu21, nu22, nu23, nu24, nu25, nu26])
    have h2h : ¬ (x = y) → ∀ E', E'.s[4]? = some (.lit (.bool false)) → F (.ret, E') := fun hxy E' => h2 E' (fun h => hxy (by have hy' := hy; rw [← h, hx] at hy'; exact Option.some.inj hy'))
    clear ih h2
    by_cases hxy : x = y
    · subst hxy; have ihh := ihh rfl
      simp -dsimp [Tryz.f30, ↓br_dec, ↓ev_drawn dr0, setCells, hlt, hx, hy, wrap_small hbd, hu, hxl, hyl, hxo.plain, hyo.plain, hxo, hyo, hc58]
      exact ihh _ _ _ _ _ _ _ _ _ _ _ _ _ _ _ _ _ _ _ _ _ _ _ _ rfl rfl rfl rfl rfl rfl rfl rfl rfl rfl
    · have h2h := h2h hxy
      skip
      simp (config := {contextual := true, maxSteps := 3000000, dsimp := false}) [Tryz.f30, ↓br_dec, ↓ev_drawn dr0, setCells, hlt, hx, hy, wrap_small hbd, hu, hxl, hyl, hxo.plain, hyo.plain, hxo, hyo, hc58, h2h, hxy]
      all_goals (try simp (config := {contextual := true}))
      all_goals grind
theorem same30 (call : FuncId → List AV → Option AV)
    (hc58 : ∀ x y, OkL lay102 x → OkL lay102 y → call 58 [.agg x, .agg y] = some (.lit (.bool (decide (x = y))))) 
    {es fs : List (List AV)} (he : OkR lay102 es) (hf : OkR lay102 fs) : ∃ m, evBody Tryz.prog call m Tryz.f30 [.sl .sh es, .sl .sh fs] = some (.lit (.bool (decide (es = fs)))) := by
  refine ⟨es.length + 1, ?_⟩
  apply ends_eq
  rw [ev_body (c := _) rfl]
  rw [show entry Tryz.f30 [.sl .sh es, .sl .sh fs] = { s := [.sl .sh es, .sl .sh fs, .undef, .undef, .undef, .undef, .undef, .undef, .undef, .undef, .undef, .undef, .undef, .undef, .undef, .undef, .undef, .undef, .undef, .undef, .undef, .undef, .undef, .undef, .undef, .undef, .undef], live := fun _ _ => none } from rfl]
  by_cases hl : es.length = fs.length
  · have hl' : ((es.length : Int) = (fs.length : Int)) := by omega
    simp -dsimp [Tryz.f30, ↓br_dec, hl']
    try simp only [← hl']
    refine lp30 call _ hc58 rfl he hf hl (fun lv ui u2 u3 u6 u7 u8 u9 u10 u11 u12 u13 u14 u15 u16 u17 u18 u19 u20 u21 u22 u23 u24 u25 u26 h => ?_) (fun E' h hn => ?_) es.length _ 0 _ _ _ _ _ _ _ _ _ _ _ _ _ _ _ _ _ _ _ _ _ _ _ _ (by omega) (by omega) rfl (by simp [nc_lit])
    · simp -dsimp [Tryz.f30, ↓br_dec, h]
    · simp -dsimp [Tryz.f30, ↓br_dec, hn, h]
  · have hl' : ¬ ((es.length : Int) = (fs.length : Int)) := by omega
    have : es ≠ fs := fun h => hl (by rw [h])
    simp -dsimp [Tryz.f30, ↓br_dec, hl', this]
theorem dr53_0 : drawnA Tryz.prog (drawnIn Tryz.f53 0) = true := drawn_of (tab := [⟨some 17, [0], false, []⟩, ⟨some 18, [5], false, []⟩, ⟨some 19, [17, 18], false, [0, 1]⟩, ⟨some 20, [19], false, [2]⟩, ⟨some 21, [1], false, []⟩, ⟨some 22, [5], false, []⟩, ⟨some 23, [21, 22], false, [4, 5]⟩, ⟨some 24, [23], false, [6]⟩, ⟨some 25, [20, 24], false, [3, 7]⟩]) follows_mixed (by kernel_rfl) (by kernel_rfl)
theorem lp53 (call : FuncId → List AV → Option AV) (m : Nat) 
    {c : Code} (hcd : c = loopIn Tryz.f53 0) {es fs : List (List AV)} (he : OkR lay9 es) (hf : OkR lay9 fs) (hl : es.length = fs.length) {F : Ex × Env → Prop} (h1 : ∀ (lv : Nat → Nat → Option Nat) (ui u2 u3 u6 u7 u8 u9 u10 u11 u12 u13 u14 u15 u16 u17 u18 u19 u20 u21 u22 u23 u24 u25 : AV), es = fs → F (.exit 0, { s := [.sl .sh es, .sl .sh fs, u2, u3, .lit (.bool false), ui, u6, u7, u8, u9, u10, u11, u12, u13, u14, u15, u16, u17, u18, u19, u20, u21, u22, u23, u24, u25], live := lv })) (h2 : ∀ E', es ≠ fs → E'.s[4]? = some (.lit (.bool false)) → F (.ret, E')) :
    ∀ (k N i : Nat) (lv : Nat → Nat → Option Nat) (u2 u3 u6 u7 u8 u9 u10 u11 u12 u13 u14 u15 u16 u17 u18 u19 u20 u21 u22 u23 u24 u25 : AV), k < N → k + i = es.length → es.take i = fs.take i →
      (∀ u ∈ [u17, u18, u19, u20, u21, u22, u23, u24, u25], notCell u = true) →
      Ends (evLoop (evCode Tryz.prog call m c) N { s := [.sl .sh es, .sl .sh fs, u2, u3, .lit (.bool false), .lit (.int .i64 (i : Int)), u6, u7, u8, u9, u10, u11, u12, u13, u14, u15, u16, u17, u18, u19, u20, u21, u22, u23, u24, u25], live := lv }) F := by
  intro k
  induction k with
  | zero =>
    intro N i lv u2 u3 u6 u7 u8 u9 u10 u11 u12 u13 u14 u15 u16 u17 u18 u19 u20 u21 u22 u23 u24 u25 hN hk hp hu
    obtain ⟨N, rfl⟩ : ∃ N', N = N' + 1 := ⟨N - 1, by omega⟩
    have hi : i = es.length := by omega
    subst hi
    rw [List.take_of_length_le (Nat.le_refl _), List.take_of_length_le (by omega)] at hp
    rw [ev_turn hcd]
    simp -dsimp [Tryz.f53, ↓br_dec]
    exact h1 _ _ _ _ _ _ _ _ _ _ _ _ _ _ _ _ _ _ _ _ _ _ _ _ hp
  | succ k ih =>
    intro N i lv u2 u3 u6 u7 u8 u9 u10 u11 u12 u13 u14 u15 u16 u17 u18 u19 u20 u21 u22 u23 u24 u25 hN hk hp hu
    obtain ⟨N, rfl⟩ : ∃ N', N = N' + 1 := ⟨N - 1, by omega⟩
    obtain ⟨x, hx, hxo, hxt⟩ := he.get (i := i) (by omega)
    obtain ⟨y, hy, hyo, hyt⟩ := hf.get (i := i) (by omega)
    have hlt : ((i : Int) < (es.length : Int)) := by omega
    have hbd : i < 9223372036854775807 := by have := he.1; omega
    simp only [List.mem_cons, List.not_mem_nil, or_false, forall_eq_or_imp, forall_eq] at hu
    obtain ⟨c, r, rfl, hc, tp0⟩ := hxo.cons_inv
    obtain ⟨p0, rfl, wp0⟩ := hc.str_inv
    have := tp0.nil_inv; subst this
    obtain ⟨c, r, rfl, hc, tq0⟩ := hyo.cons_inv
    obtain ⟨q0, rfl, wq0⟩ := hc.str_inv
    have := tq0.nil_inv; subst this
    have dr0 := dr53_0
    simp only [drawnIn, drawnsOf, Tryz.f53, List.getD_cons_succ, List.getD_cons_zero, List.nil_append, List.append_nil, List.cons_append] at dr0
    rw [ev_turn hcd]
    have ihh : ([.lit (.string p0)] : List AV) = ([.lit (.string q0)] : List AV) → ∀ (lv : Nat → Nat → Option Nat) (u2 u3 u6 u7 u8 u9 u10 u11 u12 u13 u14 u15 u16 u17 u18 u19 u20 u21 u22 u23 u24 u25 : AV), notCell u17 = true → notCell u18 = true → notCell u19 = true → notCell u20 = true → notCell u21 = true → notCell u22 = true → notCell u23 = true → notCell u24 = true → notCell u25 = true → Ends (evLoop (evCode Tryz.prog call m c) N { s := [.sl .sh es, .sl .sh fs, u2, u3, .lit (.bool false), .lit (.int .i64 ((i + 1 : Nat) : Int)), u6, u7, u8, u9, u10, u11, u12, u13, u14, u15, u16, u17, u18, u19, u20, u21, u22, u23, u24, u25], live := lv }) F := fun hxy lv u2 u3 u6 u7 u8 u9 u10 u11 u12 u13 u14 u15 u16 u17 u18 u19 u20 u21 u22 u23 u24 u25 nu17 nu18 nu19 nu20 nu21 nu22 nu23 nu24 nu25 => ih N (i + 1) lv u2 u3 u6 u7 u8 u9 u10 u11 u12 u13 u14 u15 u16 u17 u18 u19 u20 u21 u22 u23 u24 u25 (by omega) (by omega) (by rw [hxt, hyt, hp, hxy]) (by simp [nu17, nu18, nu19, nu20, nu21, nu22, nu23, nu24, nu25])
    have h2h : ¬ (([.lit (.string p0)] : List AV) = ([.lit (.string q0)] : List AV)) → ∀ E', E'.s[4]? = some (.lit (.bool false)) → F (.ret, E') := fun hxy E' => h2 E' (fun h => hxy (by have hy' := hy; rw [← h, hx] at hy'; exact Option.some.inj hy'))
    clear ih h2
    by_cases hxy : ([.lit (.string p0)] : List AV) = ([.lit (.string q0)] : List AV)
    · have ihh := ihh hxy
      simp -dsimp [Tryz.f53, ↓br_dec, ↓ev_drawn dr0, setCells, hlt, hx, hy, wrap_small hbd, hu, wp0, wq0, hxy]
      exact ihh _ _ _ _ _ _ _ _ _ _ _ _ _ _ _ _ _ _ _ _ _ _ _ rfl rfl rfl rfl rfl rfl rfl rfl rfl
    · have h2h := h2h hxy
      simp only [List.cons.injEq, AV.lit.injEq, Value.int.injEq, Value.string.injEq, Value.bool.injEq, AV.sl.injEq, true_and, and_true] at hxy
      simp (config := {contextual := true, maxSteps := 3000000, dsimp := false}) [Tryz.f53, ↓br_dec, ↓ev_drawn dr0, setCells, hlt, hx, hy, wrap_small hbd, hu, wp0, wq0, h2h, hxy]
      all_goals (try simp (config := {contextual := true}))
      all_goals grind
theorem same53 (call : FuncId → List AV → Option AV) 
    {es fs : List (List AV)} (he : OkR lay9 es) (hf : OkR lay9 fs) : ∃ m, evBody Tryz.prog call m Tryz.f53 [.sl .sh es, .sl .sh fs] = some (.lit (.bool (decide (es = fs)))) := by
  refine ⟨es.length + 1, ?_⟩
  apply ends_eq
  rw [ev_body (c := _) rfl]
  rw [show entry Tryz.f53 [.sl .sh es, .sl .sh fs] = { s := [.sl .sh es, .sl .sh fs, .undef, .undef, .undef, .undef, .undef, .undef, .undef, .undef, .undef, .undef, .undef, .undef, .undef, .undef, .undef, .undef, .undef, .undef, .undef, .undef, .undef, .undef, .undef, .undef], live := fun _ _ => none } from rfl]
  by_cases hl : es.length = fs.length
  · have hl' : ((es.length : Int) = (fs.length : Int)) := by omega
    simp -dsimp [Tryz.f53, ↓br_dec, hl']
    try simp only [← hl']
    refine lp53 call _ rfl he hf hl (fun lv ui u2 u3 u6 u7 u8 u9 u10 u11 u12 u13 u14 u15 u16 u17 u18 u19 u20 u21 u22 u23 u24 u25 h => ?_) (fun E' h hn => ?_) es.length _ 0 _ _ _ _ _ _ _ _ _ _ _ _ _ _ _ _ _ _ _ _ _ _ _ (by omega) (by omega) rfl (by simp [nc_lit])
    · simp -dsimp [Tryz.f53, ↓br_dec, h]
    · simp -dsimp [Tryz.f53, ↓br_dec, hn, h]
  · have hl' : ¬ ((es.length : Int) = (fs.length : Int)) := by omega
    have : es ≠ fs := fun h => hl (by rw [h])
    simp -dsimp [Tryz.f53, ↓br_dec, hl', this]
theorem same54 (call : FuncId → List AV → Option AV) (m : Nat)
    {x y : List AV} (hx : OkL lay38 x) (hy : OkL lay38 y) : evBody Tryz.prog call m Tryz.f54 [.agg x, .agg y] = some (.lit (.bool (decide (x = y)))) := by
  obtain ⟨c, r, rfl, hc, tx0⟩ := hx.cons_inv
  obtain ⟨x0, rfl, wx0⟩ := hc.int_inv
  obtain ⟨c, r, rfl, hc, tx1⟩ := tx0.cons_inv
  obtain ⟨x1, rfl, wx1⟩ := hc.int_inv
  obtain ⟨c, r, rfl, hc, tx2⟩ := tx1.cons_inv
  obtain ⟨x2, rfl, wx2⟩ := hc.int_inv
  have := tx2.nil_inv; subst this
  obtain ⟨c, r, rfl, hc, ty0⟩ := hy.cons_inv
  obtain ⟨y0, rfl, wy0⟩ := hc.int_inv
  obtain ⟨c, r, rfl, hc, ty1⟩ := ty0.cons_inv
  obtain ⟨y1, rfl, wy1⟩ := hc.int_inv
  obtain ⟨c, r, rfl, hc, ty2⟩ := ty1.cons_inv
  obtain ⟨y2, rfl, wy2⟩ := hc.int_inv
  have := ty2.nil_inv; subst this
  apply ends_eq
  rw [ev_body (c := _) rfl]
  rw [show entry Tryz.f54 [.agg [.lit (.int .i64 x0), .lit (.int .i64 x1), .lit (.int .i64 x2)], .agg [.lit (.int .i64 y0), .lit (.int .i64 y1), .lit (.int .i64 y2)]] = { s := [.agg [.lit (.int .i64 x0), .lit (.int .i64 x1), .lit (.int .i64 x2)], .agg [.lit (.int .i64 y0), .lit (.int .i64 y1), .lit (.int .i64 y2)], .undef, .undef, .undef, .undef, .undef, .undef, .undef, .undef, .undef, .undef, .undef, .undef, .undef, .undef, .undef, .undef, .undef, .undef], live := fun _ _ => none } from rfl]
  simp (config := {contextual := true, maxSteps := 3000000, dsimp := false}) [Tryz.f54, ↓br_dec, setCells, wx0, wy0, wx1, wy1, wx2, wy2]
  all_goals (try simp (config := {contextual := true}))
  all_goals grind
theorem same55 (call : FuncId → List AV → Option AV) (m : Nat)
    {x y : List AV} (hx : OkL lay39 x) (hy : OkL lay39 y) : evBody Tryz.prog call m Tryz.f55 [.agg x, .agg y] = some (.lit (.bool (decide (x = y)))) := by
  obtain ⟨c, r, rfl, hc, tx0⟩ := hx.cons_inv
  obtain ⟨x0, rfl, wx0⟩ := hc.int_inv
  obtain ⟨c, r, rfl, hc, tx1⟩ := tx0.cons_inv
  obtain ⟨x1, rfl, wx1⟩ := hc.int_inv
  obtain ⟨c, r, rfl, hc, tx2⟩ := tx1.cons_inv
  obtain ⟨x2, rfl, wx2⟩ := hc.int_inv
  obtain ⟨c, r, rfl, hc, tx3⟩ := tx2.cons_inv
  obtain ⟨x3, rfl, wx3⟩ := hc.int_inv
  obtain ⟨c, r, rfl, hc, tx4⟩ := tx3.cons_inv
  obtain ⟨x4, rfl, wx4⟩ := hc.int_inv
  have := tx4.nil_inv; subst this
  obtain ⟨c, r, rfl, hc, ty0⟩ := hy.cons_inv
  obtain ⟨y0, rfl, wy0⟩ := hc.int_inv
  obtain ⟨c, r, rfl, hc, ty1⟩ := ty0.cons_inv
  obtain ⟨y1, rfl, wy1⟩ := hc.int_inv
  obtain ⟨c, r, rfl, hc, ty2⟩ := ty1.cons_inv
  obtain ⟨y2, rfl, wy2⟩ := hc.int_inv
  obtain ⟨c, r, rfl, hc, ty3⟩ := ty2.cons_inv
  obtain ⟨y3, rfl, wy3⟩ := hc.int_inv
  obtain ⟨c, r, rfl, hc, ty4⟩ := ty3.cons_inv
  obtain ⟨y4, rfl, wy4⟩ := hc.int_inv
  have := ty4.nil_inv; subst this
  apply ends_eq
  rw [ev_body (c := _) rfl]
  rw [show entry Tryz.f55 [.agg [.lit (.int .i64 x0), .lit (.int .i64 x1), .lit (.int .i64 x2), .lit (.int .i64 x3), .lit (.int .i64 x4)], .agg [.lit (.int .i64 y0), .lit (.int .i64 y1), .lit (.int .i64 y2), .lit (.int .i64 y3), .lit (.int .i64 y4)]] = { s := [.agg [.lit (.int .i64 x0), .lit (.int .i64 x1), .lit (.int .i64 x2), .lit (.int .i64 x3), .lit (.int .i64 x4)], .agg [.lit (.int .i64 y0), .lit (.int .i64 y1), .lit (.int .i64 y2), .lit (.int .i64 y3), .lit (.int .i64 y4)], .undef, .undef, .undef, .undef, .undef, .undef, .undef, .undef, .undef, .undef, .undef, .undef, .undef, .undef, .undef, .undef, .undef, .undef, .undef, .undef, .undef, .undef, .undef, .undef, .undef, .undef, .undef, .undef], live := fun _ _ => none } from rfl]
  simp (config := {contextual := true, maxSteps := 3000000, dsimp := false}) [Tryz.f55, ↓br_dec, setCells, wx0, wy0, wx1, wy1, wx2, wy2, wx3, wy3, wx4, wy4]
  all_goals (try simp (config := {contextual := true}))
  all_goals grind
theorem dr56_0 : drawnA Tryz.prog (drawnIn Tryz.f56 0) = true := drawn_of (tab := [⟨some 17, [0], false, []⟩, ⟨some 18, [5], false, []⟩, ⟨some 19, [17, 18], false, [0, 1]⟩, ⟨some 20, [19], false, [2]⟩, ⟨some 21, [1], false, []⟩, ⟨some 22, [5], false, []⟩, ⟨some 23, [21, 22], false, [4, 5]⟩, ⟨some 24, [23], false, [6]⟩, ⟨some 25, [20, 24], false, [3, 7]⟩, ⟨some 26, [25], false, [8]⟩]) follows_mixed (by kernel_rfl) (by kernel_rfl)
theorem lp56 (call : FuncId → List AV → Option AV) (m : Nat)
    (hc77 : ∀ x y, OkL lay119 x → OkL lay119 y → call 77 [.agg x, .agg y] = some (.lit (.bool (decide (x = y))))) 
    {c : Code} (hcd : c = loopIn Tryz.f56 0) {es fs : List (List AV)} (he : OkR lay119 es) (hf : OkR lay119 fs) (hl : es.length = fs.length) {F : Ex × Env → Prop} (h1 : ∀ (lv : Nat → Nat → Option Nat) (ui u2 u3 u6 u7 u8 u9 u10 u11 u12 u13 u14 u15 u16 u17 u18 u19 u20 u21 u22 u23 u24 u25 u26 : AV), es = fs → F (.exit 0, { s := [.sl .sh es, .sl .sh fs, u2, u3, .lit (.bool false), ui, u6, u7, u8, u9, u10, u11, u12, u13, u14, u15, u16, u17, u18, u19, u20, u21, u22, u23, u24, u25, u26], live := lv })) (h2 : ∀ E', es ≠ fs → E'.s[4]? = some (.lit (.bool false)) → F (.ret, E')) :
    ∀ (k N i : Nat) (lv : Nat → Nat → Option Nat) (u2 u3 u6 u7 u8 u9 u10 u11 u12 u13 u14 u15 u16 u17 u18 u19 u20 u21 u22 u23 u24 u25 u26 : AV), k < N → k + i = es.length → es.take i = fs.take i →
      (∀ u ∈ [u17, u18, u19, u20, u21, u22, u23, u24, u25, u26], notCell u = true) →
      Ends (evLoop (evCode Tryz.prog call m c) N { s := [.sl .sh es, .sl .sh fs, u2, u3, .lit (.bool false), .lit (.int .i64 (i : Int)), u6, u7, u8, u9, u10, u11, u12, u13, u14, u15, u16, u17, u18, u19, u20, u21, u22, u23, u24, u25, u26], live := lv }) F := by
  intro k
  induction k with
  | zero =>
    intro N i lv u2 u3 u6 u7 u8 u9 u10 u11 u12 u13 u14 u15 u16 u17 u18 u19 u20 u21 u22 u23 u24 u25 u26 hN hk hp hu
    obtain ⟨N, rfl⟩ : ∃ N', N = N' + 1 := ⟨N - 1, by omega⟩
    have hi : i = es.length := by omega
    subst hi
    rw [List.take_of_length_le (Nat.le_refl _), List.take_of_length_le (by omega)] at hp
    rw [ev_turn hcd]
    simp -dsimp [Tryz.f56, ↓br_dec]
    exact h1 _ _ _ _ _ _ _ _ _ _ _ _ _ _ _ _ _ _ _ _ _ _ _ _ _ hp
  | succ k ih =>
    intro N i lv u2 u3 u6 u7 u8 u9 u10 u11 u12 u13 u14 u15 u16 u17 u18 u19 u20 u21 u22 u23 u24 u25 u26 hN hk hp hu
    obtain ⟨N, rfl⟩ : ∃ N', N = N' + 1 := ⟨N - 1, by omega⟩
    obtain ⟨x, hx, hxo, hxt⟩ := he.get (i := i) (by omega)
    obtain ⟨y, hy, hyo, hyt⟩ := hf.get (i := i) (by omega)
    have hlt : ((i : Int) < (es.length : Int)) := by omega
    have hbd : i < 9223372036854775807 := by have := he.1; omega
    simp only [List.mem_cons, List.not_mem_nil, or_false, forall_eq_or_imp, forall_eq] at hu
    have hxl : x.length = 13 := hxo.1
    have hyl : y.length = 13 := hyo.1
    have dr0 := dr56_0
    simp only [drawnIn, drawnsOf, Tryz.f56, List.getD_cons_succ, List.getD_cons_zero, List.nil_append, List.append_nil, List.cons_append] at dr0
    rw [ev_turn hcd]
    have ihh : x = y → ∀ (lv : Nat → Nat → Option Nat) (u2 u3 u6 u7 u8 u9 u10 u11 u12 u13 u14 u15 u16 u17 u18 u19 u20 u21 u22 u23 u24 u25 u26 : AV), notCell u17 = true → notCell u18 = true → notCell u19 = true → notCell u20 = true → notCell u21 = true → notCell u22 = true → notCell u23 = true → notCell u24 = true → notCell u25 = true → notCell u26 = true → Ends (evLoop (evCode Tryz.prog call m c) N { s := [.sl .sh es, .sl .sh fs, u2, u3, .lit (.bool false), .lit (.int .i64 ((i + 1 : Nat) : Int)), u6, u7, u8, u9, u10, u11, u12, u13, u14, u15, u16, u17, u18, u19, u20, u21, u22, u23, u24, u25, u26], live := lv }) F := fun hxy lv u2 u3 u6 u7 u8 u9 u10 u11 u12 u13 u14 u15 u16 u17 u18 u19 u20 u21 u22 u23 u24 u25 u26 nu17 nu18 nu19 nu20 nu21 nu22 nu23 nu24 nu25 nu26 => ih N (i + 1) lv u2 u3 u6 u7 u8 u9 u10 u11 u12 u13 u14 u15 u16 u17 u18 u19 u20 u21 u22 u23 u24 u25 u26 (by omega) (by omega) (by rw [hxt, hyt, hp, hxy]) (by simp [nu17, nu18, nu19, nu20, nu21, nu22, nu23, nu24, nu25, nu26])
    have h2h : ¬ (x = y) → ∀ E', E'.s[4]? = some (.lit (.bool false)) → F (.ret, E') := fun hxy E' => h2 E' (fun h => hxy (by have hy' := hy; rw [← h, hx] at hy'; exact Option.some.inj hy'))
    clear ih h2
    by_cases hxy : x = y
    · subst hxy; have ihh := ihh rfl
      simp -dsimp [Tryz.f56, ↓br_dec, ↓ev_drawn dr0, setCells, hlt, hx, hy, wrap_small hbd, hu, hxl, hyl, hxo.plain, hyo.plain, hxo, hyo, hc77]
      exact ihh _ _ _ _ _ _ _ _ _ _ _ _ _ _ _ _ _ _ _ _ _ _ _ _ rfl rfl rfl rfl rfl rfl rfl rfl rfl rfl
    · have h2h := h2h hxy
      skip
      simp (config := {contextual := true, maxSteps := 3000000, dsimp := false}) [Tryz.f56, ↓br_dec, ↓ev_drawn dr0, setCells, hlt, hx, hy, wrap_small hbd, hu, hxl, hyl, hxo.plain, hyo.plain, hxo, hyo, hc77, h2h, hxy]
      all_goals (try simp (config := {contextual := true}))
      all_goals grind
theorem same56 (call : FuncId → List AV → Option AV)
    (hc77 : ∀ x y, OkL lay119 x → OkL lay119 y → call 77 [.agg x, .agg y] = some (.lit (.bool (decide (x = y))))) 
    {es fs : List (List AV)} (he : OkR lay119 es) (hf : OkR lay119 fs) : ∃ m, evBody Tryz.prog call m Tryz.f56 [.sl .sh es, .sl .sh fs] = some (.lit (.bool (decide (es = fs)))) := by
  refine ⟨es.length + 1, ?_⟩
  apply ends_eq
  rw [ev_body (c := _) rfl]
  rw [show entry Tryz.f56 [.sl .sh es, .sl .sh fs] = { s := [.sl .sh es, .sl .sh fs, .undef, .undef, .undef, .undef, .undef, .undef, .undef, .undef, .undef, .undef, .undef, .undef, .undef, .undef, .undef, .undef, .undef, .undef, .undef, .undef, .undef, .undef, .undef, .undef, .undef], live := fun _ _ => none } from rfl]
  by_cases hl : es.length = fs.length
  · have hl' : ((es.length : Int) = (fs.length : Int)) := by omega
    simp -dsimp [Tryz.f56, ↓br_dec, hl']
    try simp only [← hl']
    refine lp56 call _ hc77 rfl he hf hl (fun lv ui u2 u3 u6 u7 u8 u9 u10 u11 u12 u13 u14 u15 u16 u17 u18 u19 u20 u21 u22 u23 u24 u25 u26 h => ?_) (fun E' h hn => ?_) es.length _ 0 _ _ _ _ _ _ _ _ _ _ _ _ _ _ _ _ _ _ _ _ _ _ _ _ (by omega) (by omega) rfl (by simp [nc_lit])
    · simp -dsimp [Tryz.f56, ↓br_dec, h]
    · simp -dsimp [Tryz.f56, ↓br_dec, hn, h]
  · have hl' : ¬ ((es.length : Int) = (fs.length : Int)) := by omega
    have : es ≠ fs := fun h => hl (by rw [h])
    simp -dsimp [Tryz.f56, ↓br_dec, hl', this]
theorem same57 (call : FuncId → List AV → Option AV) (m : Nat)
    (hc78 : ∀ x y, OkL lay61 x → OkL lay61 y → call 78 [.agg x, .agg y] = some (.lit (.bool (decide (x = y)))))
    (hc79 : ∀ x y, OkL lay64 x → OkL lay64 y → call 79 [.agg x, .agg y] = some (.lit (.bool (decide (x = y)))))
    {x y : List AV} (hx : OkL lay66 x) (hy : OkL lay66 y) : evBody Tryz.prog call m Tryz.f57 [.agg x, .agg y] = some (.lit (.bool (decide (x = y)))) := by
  obtain ⟨c, r, rfl, hc, tx0⟩ := hx.cons_inv
  obtain ⟨x0, rfl, wx0⟩ := hc.str_inv
  obtain ⟨c, r, rfl, hc, tx1⟩ := tx0.cons_inv
  obtain ⟨x1, rfl, wx1⟩ := hc.int_inv
  obtain ⟨c, r, rfl, hc, tx2⟩ := tx1.cons_inv
  obtain ⟨x2, rfl, wx2⟩ := hc.sl_inv
  obtain ⟨c, r, rfl, hc, tx3⟩ := tx2.cons_inv
  obtain ⟨x3, rfl, wx3⟩ := hc.int_inv
  obtain ⟨c, r, rfl, hc, tx4⟩ := tx3.cons_inv
  obtain ⟨x4, rfl, wx4⟩ := hc.int_inv
  obtain ⟨c, r, rfl, hc, tx5⟩ := tx4.cons_inv
  obtain ⟨x5, rfl, wx5⟩ := hc.int_inv
  obtain ⟨c, r, rfl, hc, tx6⟩ := tx5.cons_inv
  obtain ⟨x6, rfl, wx6⟩ := hc.sl_inv
  have := tx6.nil_inv; subst this
  obtain ⟨c, r, rfl, hc, ty0⟩ := hy.cons_inv
  obtain ⟨y0, rfl, wy0⟩ := hc.str_inv
  obtain ⟨c, r, rfl, hc, ty1⟩ := ty0.cons_inv
  obtain ⟨y1, rfl, wy1⟩ := hc.int_inv
  obtain ⟨c, r, rfl, hc, ty2⟩ := ty1.cons_inv
  obtain ⟨y2, rfl, wy2⟩ := hc.sl_inv
  obtain ⟨c, r, rfl, hc, ty3⟩ := ty2.cons_inv
  obtain ⟨y3, rfl, wy3⟩ := hc.int_inv
  obtain ⟨c, r, rfl, hc, ty4⟩ := ty3.cons_inv
  obtain ⟨y4, rfl, wy4⟩ := hc.int_inv
  obtain ⟨c, r, rfl, hc, ty5⟩ := ty4.cons_inv
  obtain ⟨y5, rfl, wy5⟩ := hc.int_inv
  obtain ⟨c, r, rfl, hc, ty6⟩ := ty5.cons_inv
  obtain ⟨y6, rfl, wy6⟩ := hc.sl_inv
  have := ty6.nil_inv; subst this
  apply ends_eq
  rw [ev_body (c := _) rfl]
  rw [show entry Tryz.f57 [.agg [.lit (.string x0), .lit (.int .i64 x1), .sl .sh x2, .lit (.int .i64 x3), .lit (.int .i64 x4), .lit (.int .i64 x5), .sl .sh x6], .agg [.lit (.string y0), .lit (.int .i64 y1), .sl .sh y2, .lit (.int .i64 y3), .lit (.int .i64 y4), .lit (.int .i64 y5), .sl .sh y6]] = { s := [.agg [.lit (.string x0), .lit (.int .i64 x1), .sl .sh x2, .lit (.int .i64 x3), .lit (.int .i64 x4), .lit (.int .i64 x5), .sl .sh x6], .agg [.lit (.string y0), .lit (.int .i64 y1), .sl .sh y2, .lit (.int .i64 y3), .lit (.int .i64 y4), .lit (.int .i64 y5), .sl .sh y6], .undef, .undef, .undef, .undef, .undef, .undef, .undef, .undef, .undef, .undef, .undef, .undef, .undef, .undef, .undef, .undef, .undef, .undef, .undef, .undef], live := fun _ _ => none } from rfl]
  simp (config := {contextual := true, maxSteps := 3000000, dsimp := false}) [Tryz.f57, ↓br_dec, setCells, hc78, hc79, wx0, wy0, wx1, wy1, wx2, wy2, wx3, wy3, wx4, wy4, wx5, wy5, wx6, wy6]
  all_goals (try simp (config := {contextual := true}))
  all_goals grind
theorem same58 (call : FuncId → List AV → Option AV) (m : Nat)
    (hc80 : ∀ x y, OkL lay99 x → OkL lay99 y → call 80 [.agg x, .agg y] = some (.lit (.bool (decide (x = y)))))
    (hc81 : ∀ x y, OkR lay137 x → OkR lay137 y → call 81 [.sl .sh x, .sl .sh y] = some (.lit (.bool (decide (x = y)))))
    {x y : List AV} (hx : OkL lay102 x) (hy : OkL lay102 y) : evBody Tryz.prog call m Tryz.f58 [.agg x, .agg y] = some (.lit (.bool (decide (x = y)))) := by
  obtain ⟨c, r, rfl, hc, tx0⟩ := hx.cons_inv
  obtain ⟨x0, rfl, wx0⟩ := hc.int_inv
  obtain ⟨c, r, rfl, hc, tx1⟩ := tx0.cons_inv
  obtain ⟨x1, rfl, wx1⟩ := hc.str_inv
  obtain ⟨c, r, rfl, hc, tx2⟩ := tx1.cons_inv
  obtain ⟨x2, rfl⟩ := hc.bool_inv
  obtain ⟨c, r, rfl, hc, tx3⟩ := tx2.cons_inv
  obtain ⟨x3, rfl⟩ := hc.bool_inv
  obtain ⟨c, r, rfl, hc, tx4⟩ := tx3.cons_inv
  obtain ⟨x4, rfl, wx4⟩ := hc.int_inv
  obtain ⟨c, r, rfl, hc, tx5⟩ := tx4.cons_inv
  obtain ⟨x5, rfl⟩ := hc.bool_inv
  obtain ⟨c, r, rfl, hc, tx6⟩ := tx5.cons_inv
  obtain ⟨x6, rfl, wx6⟩ := hc.str_inv
  obtain ⟨c, r, rfl, hc, tx7⟩ := tx6.cons_inv
  obtain ⟨x7, rfl, wx7⟩ := hc.str_inv
  obtain ⟨c, r, rfl, hc, tx8⟩ := tx7.cons_inv
  obtain ⟨x8, rfl, wx8⟩ := hc.str_inv
  obtain ⟨c, r, rfl, hc, tx9⟩ := tx8.cons_inv
  obtain ⟨x9, rfl, wx9⟩ := hc.sl_inv
  obtain ⟨c, r, rfl, hc, tx10⟩ := tx9.cons_inv
  obtain ⟨x10, rfl, wx10⟩ := hc.sl_inv
  have := tx10.nil_inv; subst this
  obtain ⟨c, r, rfl, hc, ty0⟩ := hy.cons_inv
  obtain ⟨y0, rfl, wy0⟩ := hc.int_inv
  obtain ⟨c, r, rfl, hc, ty1⟩ := ty0.cons_inv
  obtain ⟨y1, rfl, wy1⟩ := hc.str_inv
  obtain ⟨c, r, rfl, hc, ty2⟩ := ty1.cons_inv
  obtain ⟨y2, rfl⟩ := hc.bool_inv
  obtain ⟨c, r, rfl, hc, ty3⟩ := ty2.cons_inv
  obtain ⟨y3, rfl⟩ := hc.bool_inv
  obtain ⟨c, r, rfl, hc, ty4⟩ := ty3.cons_inv
  obtain ⟨y4, rfl, wy4⟩ := hc.int_inv
  obtain ⟨c, r, rfl, hc, ty5⟩ := ty4.cons_inv
  obtain ⟨y5, rfl⟩ := hc.bool_inv
  obtain ⟨c, r, rfl, hc, ty6⟩ := ty5.cons_inv
  obtain ⟨y6, rfl, wy6⟩ := hc.str_inv
  obtain ⟨c, r, rfl, hc, ty7⟩ := ty6.cons_inv
  obtain ⟨y7, rfl, wy7⟩ := hc.str_inv
  obtain ⟨c, r, rfl, hc, ty8⟩ := ty7.cons_inv
  obtain ⟨y8, rfl, wy8⟩ := hc.str_inv
  obtain ⟨c, r, rfl, hc, ty9⟩ := ty8.cons_inv
  obtain ⟨y9, rfl, wy9⟩ := hc.sl_inv
  obtain ⟨c, r, rfl, hc, ty10⟩ := ty9.cons_inv
  obtain ⟨y10, rfl, wy10⟩ := hc.sl_inv
  have := ty10.nil_inv; subst this
  apply ends_eq
  rw [ev_body (c := _) rfl]
  rw [show entry Tryz.f58 [.agg [.lit (.int .i64 x0), .lit (.string x1), .lit (.bool x2), .lit (.bool x3), .lit (.int .i64 x4), .lit (.bool x5), .lit (.string x6), .lit (.string x7), .lit (.string x8), .sl .sh x9, .sl .sh x10], .agg [.lit (.int .i64 y0), .lit (.string y1), .lit (.bool y2), .lit (.bool y3), .lit (.int .i64 y4), .lit (.bool y5), .lit (.string y6), .lit (.string y7), .lit (.string y8), .sl .sh y9, .sl .sh y10]] = { s := [.agg [.lit (.int .i64 x0), .lit (.string x1), .lit (.bool x2), .lit (.bool x3), .lit (.int .i64 x4), .lit (.bool x5), .lit (.string x6), .lit (.string x7), .lit (.string x8), .sl .sh x9, .sl .sh x10], .agg [.lit (.int .i64 y0), .lit (.string y1), .lit (.bool y2), .lit (.bool y3), .lit (.int .i64 y4), .lit (.bool y5), .lit (.string y6), .lit (.string y7), .lit (.string y8), .sl .sh y9, .sl .sh y10], .undef, .undef, .undef, .undef, .undef, .undef, .undef, .undef, .undef, .undef, .undef, .undef, .undef, .undef, .undef, .undef, .undef, .undef, .undef, .undef, .undef, .undef, .undef, .undef, .undef, .undef, .undef, .undef, .undef, .undef, .undef, .undef, .undef, .undef, .undef, .undef, .undef, .undef, .undef, .undef, .undef, .undef, .undef, .undef, .undef], live := fun _ _ => none } from rfl]
  simp (config := {contextual := true, maxSteps := 3000000, dsimp := false}) [Tryz.f58, ↓br_dec, setCells, hc80, hc81, wx0, wy0, wx1, wy1, wx4, wy4, wx6, wy6, wx7, wy7, wx8, wy8, wx9, wy9, wx10, wy10]
  all_goals (try simp (config := {contextual := true}))
  all_goals grind
theorem same77 (call : FuncId → List AV → Option AV) (m : Nat)
    (hc92 : ∀ x y, OkR lay146 x → OkR lay146 y → call 92 [.sl .sh x, .sl .sh y] = some (.lit (.bool (decide (x = y)))))
    (hc93 : ∀ x y, OkR lay5 x → OkR lay5 y → call 93 [.sl .sh x, .sl .sh y] = some (.lit (.bool (decide (x = y)))))
    (hc94 : ∀ x y, OkL lay117 x → OkL lay117 y → call 94 [.agg x, .agg y] = some (.lit (.bool (decide (x = y)))))
    (hc53 : ∀ x y, OkR lay9 x → OkR lay9 y → call 53 [.sl .sh x, .sl .sh y] = some (.lit (.bool (decide (x = y)))))
    {x y : List AV} (hx : OkL lay119 x) (hy : OkL lay119 y) : evBody Tryz.prog call m Tryz.f77 [.agg x, .agg y] = some (.lit (.bool (decide (x = y)))) := by
  obtain ⟨c, r, rfl, hc, tx0⟩ := hx.cons_inv
  obtain ⟨x0, rfl, wx0⟩ := hc.str_inv
  obtain ⟨c, r, rfl, hc, tx1⟩ := tx0.cons_inv
  obtain ⟨x1, rfl, wx1⟩ := hc.int_inv
  obtain ⟨c, r, rfl, hc, tx2⟩ := tx1.cons_inv
  obtain ⟨x2, rfl, wx2⟩ := hc.sl_inv
  obtain ⟨c, r, rfl, hc, tx3⟩ := tx2.cons_inv
  obtain ⟨x3, rfl, wx3⟩ := hc.sl_inv
  obtain ⟨c, r, rfl, hc, tx4⟩ := tx3.cons_inv
  obtain ⟨x4, rfl, wx4⟩ := hc.int_inv
  obtain ⟨c, r, rfl, hc, tx5⟩ := tx4.cons_inv
  obtain ⟨x5, rfl, wx5⟩ := hc.int_inv
  obtain ⟨c, r, rfl, hc, tx6⟩ := tx5.cons_inv
  obtain ⟨x6, rfl, wx6⟩ := hc.int_inv
  obtain ⟨c, r, rfl, hc, tx7⟩ := tx6.cons_inv
  obtain ⟨x7, rfl, wx7⟩ := hc.int_inv
  obtain ⟨c, r, rfl, hc, tx8⟩ := tx7.cons_inv
  obtain ⟨x8, rfl, wx8⟩ := hc.int_inv
  obtain ⟨c, r, rfl, hc, tx9⟩ := tx8.cons_inv
  obtain ⟨x9, rfl⟩ := hc.bool_inv
  obtain ⟨c, r, rfl, hc, tx10⟩ := tx9.cons_inv
  obtain ⟨x10, rfl⟩ := hc.bool_inv
  obtain ⟨c, r, rfl, hc, tx11⟩ := tx10.cons_inv
  obtain ⟨x11, rfl, wx11⟩ := hc.sl_inv
  obtain ⟨c, r, rfl, hc, tx12⟩ := tx11.cons_inv
  obtain ⟨x12, rfl, wx12⟩ := hc.int_inv
  have := tx12.nil_inv; subst this
  obtain ⟨c, r, rfl, hc, ty0⟩ := hy.cons_inv
  obtain ⟨y0, rfl, wy0⟩ := hc.str_inv
  obtain ⟨c, r, rfl, hc, ty1⟩ := ty0.cons_inv
  obtain ⟨y1, rfl, wy1⟩ := hc.int_inv
  obtain ⟨c, r, rfl, hc, ty2⟩ := ty1.cons_inv
  obtain ⟨y2, rfl, wy2⟩ := hc.sl_inv
  obtain ⟨c, r, rfl, hc, ty3⟩ := ty2.cons_inv
  obtain ⟨y3, rfl, wy3⟩ := hc.sl_inv
  obtain ⟨c, r, rfl, hc, ty4⟩ := ty3.cons_inv
  obtain ⟨y4, rfl, wy4⟩ := hc.int_inv
  obtain ⟨c, r, rfl, hc, ty5⟩ := ty4.cons_inv
  obtain ⟨y5, rfl, wy5⟩ := hc.int_inv
  obtain ⟨c, r, rfl, hc, ty6⟩ := ty5.cons_inv
  obtain ⟨y6, rfl, wy6⟩ := hc.int_inv
  obtain ⟨c, r, rfl, hc, ty7⟩ := ty6.cons_inv
  obtain ⟨y7, rfl, wy7⟩ := hc.int_inv
  obtain ⟨c, r, rfl, hc, ty8⟩ := ty7.cons_inv
  obtain ⟨y8, rfl, wy8⟩ := hc.int_inv
  obtain ⟨c, r, rfl, hc, ty9⟩ := ty8.cons_inv
  obtain ⟨y9, rfl⟩ := hc.bool_inv
  obtain ⟨c, r, rfl, hc, ty10⟩ := ty9.cons_inv
  obtain ⟨y10, rfl⟩ := hc.bool_inv
  obtain ⟨c, r, rfl, hc, ty11⟩ := ty10.cons_inv
  obtain ⟨y11, rfl, wy11⟩ := hc.sl_inv
  obtain ⟨c, r, rfl, hc, ty12⟩ := ty11.cons_inv
  obtain ⟨y12, rfl, wy12⟩ := hc.int_inv
  have := ty12.nil_inv; subst this
  apply ends_eq
  rw [ev_body (c := _) rfl]
  rw [show entry Tryz.f77 [.agg [.lit (.string x0), .lit (.int .i64 x1), .sl .sh x2, .sl .sh x3, .lit (.int .i64 x4), .lit (.int .i64 x5), .lit (.int .i64 x6), .lit (.int .i64 x7), .lit (.int .i64 x8), .lit (.bool x9), .lit (.bool x10), .sl .sh x11, .lit (.int .i64 x12)], .agg [.lit (.string y0), .lit (.int .i64 y1), .sl .sh y2, .sl .sh y3, .lit (.int .i64 y4), .lit (.int .i64 y5), .lit (.int .i64 y6), .lit (.int .i64 y7), .lit (.int .i64 y8), .lit (.bool y9), .lit (.bool y10), .sl .sh y11, .lit (.int .i64 y12)]] = { s := [.agg [.lit (.string x0), .lit (.int .i64 x1), .sl .sh x2, .sl .sh x3, .lit (.int .i64 x4), .lit (.int .i64 x5), .lit (.int .i64 x6), .lit (.int .i64 x7), .lit (.int .i64 x8), .lit (.bool x9), .lit (.bool x10), .sl .sh x11, .lit (.int .i64 x12)], .agg [.lit (.string y0), .lit (.int .i64 y1), .sl .sh y2, .sl .sh y3, .lit (.int .i64 y4), .lit (.int .i64 y5), .lit (.int .i64 y6), .lit (.int .i64 y7), .lit (.int .i64 y8), .lit (.bool y9), .lit (.bool y10), .sl .sh y11, .lit (.int .i64 y12)], .undef, .undef, .undef, .undef, .undef, .undef, .undef, .undef, .undef, .undef, .undef, .undef, .undef, .undef, .undef, .undef, .undef, .undef, .undef, .undef, .undef, .undef, .undef, .undef, .undef, .undef, .undef, .undef, .undef, .undef, .undef, .undef, .undef, .undef, .undef, .undef, .undef, .undef, .undef, .undef, .undef, .undef], live := fun _ _ => none } from rfl]
  simp (config := {contextual := true, maxSteps := 3000000, dsimp := false}) [Tryz.f77, ↓br_dec, setCells, hc92, hc93, hc94, hc53, wx0, wy0, wx1, wy1, wx2, wy2, wx3, wy3, wx4, wy4, wx5, wy5, wx6, wy6, wx7, wy7, wx8, wy8, wx11, wy11, wx12, wy12]
  all_goals (try simp (config := {contextual := true}))
  all_goals grind
theorem same78 (call : FuncId → List AV → Option AV) (m : Nat)
    (hc95 : ∀ x y, OkR lay106 x → OkR lay106 y → call 95 [.sl .sh x, .sl .sh y] = some (.lit (.bool (decide (x = y)))))
    {x y : List AV} (hx : OkL lay61 x) (hy : OkL lay61 y) : evBody Tryz.prog call m Tryz.f78 [.agg x, .agg y] = some (.lit (.bool (decide (x = y)))) := by
  obtain ⟨c, r, rfl, hc, tx0⟩ := hx.cons_inv
  obtain ⟨x0, rfl, wx0⟩ := hc.int_inv
  obtain ⟨c, r, rfl, hc, tx1⟩ := tx0.cons_inv
  obtain ⟨x1, rfl, wx1⟩ := hc.sl_inv
  have := tx1.nil_inv; subst this
  obtain ⟨c, r, rfl, hc, ty0⟩ := hy.cons_inv
  obtain ⟨y0, rfl, wy0⟩ := hc.int_inv
  obtain ⟨c, r, rfl, hc, ty1⟩ := ty0.cons_inv
  obtain ⟨y1, rfl, wy1⟩ := hc.sl_inv
  have := ty1.nil_inv; subst this
  apply ends_eq
  rw [ev_body (c := _) rfl]
  rw [show entry Tryz.f78 [.agg [.lit (.int .i64 x0), .sl .sh x1], .agg [.lit (.int .i64 y0), .sl .sh y1]] = { s := [.agg [.lit (.int .i64 x0), .sl .sh x1], .agg [.lit (.int .i64 y0), .sl .sh y1], .undef, .undef, .undef, .undef, .undef, .undef, .undef, .undef, .undef, .undef, .undef, .undef, .undef, .undef], live := fun _ _ => none } from rfl]
  simp (config := {contextual := true, maxSteps := 3000000, dsimp := false}) [Tryz.f78, ↓br_dec, setCells, hc95, wx0, wy0, wx1, wy1]
  all_goals (try simp (config := {contextual := true}))
  all_goals grind
theorem same79 (call : FuncId → List AV → Option AV) (m : Nat)
    (hc96 : ∀ x y, OkR lay139 x → OkR lay139 y → call 96 [.sl .sh x, .sl .sh y] = some (.lit (.bool (decide (x = y)))))
    {x y : List AV} (hx : OkL lay64 x) (hy : OkL lay64 y) : evBody Tryz.prog call m Tryz.f79 [.agg x, .agg y] = some (.lit (.bool (decide (x = y)))) := by
  obtain ⟨c, r, rfl, hc, tx0⟩ := hx.cons_inv
  obtain ⟨x0, rfl, wx0⟩ := hc.int_inv
  obtain ⟨c, r, rfl, hc, tx1⟩ := tx0.cons_inv
  obtain ⟨x1, rfl, wx1⟩ := hc.int_inv
  obtain ⟨c, r, rfl, hc, tx2⟩ := tx1.cons_inv
  obtain ⟨x2, rfl, wx2⟩ := hc.int_inv
  obtain ⟨c, r, rfl, hc, tx3⟩ := tx2.cons_inv
  obtain ⟨x3, rfl, wx3⟩ := hc.sl_inv
  have := tx3.nil_inv; subst this
  obtain ⟨c, r, rfl, hc, ty0⟩ := hy.cons_inv
  obtain ⟨y0, rfl, wy0⟩ := hc.int_inv
  obtain ⟨c, r, rfl, hc, ty1⟩ := ty0.cons_inv
  obtain ⟨y1, rfl, wy1⟩ := hc.int_inv
  obtain ⟨c, r, rfl, hc, ty2⟩ := ty1.cons_inv
  obtain ⟨y2, rfl, wy2⟩ := hc.int_inv
  obtain ⟨c, r, rfl, hc, ty3⟩ := ty2.cons_inv
  obtain ⟨y3, rfl, wy3⟩ := hc.sl_inv
  have := ty3.nil_inv; subst this
  apply ends_eq
  rw [ev_body (c := _) rfl]
  rw [show entry Tryz.f79 [.agg [.lit (.int .i64 x0), .lit (.int .i64 x1), .lit (.int .i64 x2), .sl .sh x3], .agg [.lit (.int .i64 y0), .lit (.int .i64 y1), .lit (.int .i64 y2), .sl .sh y3]] = { s := [.agg [.lit (.int .i64 x0), .lit (.int .i64 x1), .lit (.int .i64 x2), .sl .sh x3], .agg [.lit (.int .i64 y0), .lit (.int .i64 y1), .lit (.int .i64 y2), .sl .sh y3], .undef, .undef, .undef, .undef, .undef, .undef, .undef, .undef, .undef, .undef, .undef, .undef, .undef, .undef, .undef, .undef, .undef, .undef, .undef, .undef, .undef, .undef, .undef, .undef], live := fun _ _ => none } from rfl]
  simp (config := {contextual := true, maxSteps := 3000000, dsimp := false}) [Tryz.f79, ↓br_dec, setCells, hc96, wx0, wy0, wx1, wy1, wx2, wy2, wx3, wy3]
  all_goals (try simp (config := {contextual := true}))
  all_goals grind
theorem same80 (call : FuncId → List AV → Option AV) (m : Nat)
    (hc92 : ∀ x y, OkR lay146 x → OkR lay146 y → call 92 [.sl .sh x, .sl .sh y] = some (.lit (.bool (decide (x = y)))))
    {x y : List AV} (hx : OkL lay99 x) (hy : OkL lay99 y) : evBody Tryz.prog call m Tryz.f80 [.agg x, .agg y] = some (.lit (.bool (decide (x = y)))) := by
  obtain ⟨c, r, rfl, hc, tx0⟩ := hx.cons_inv
  obtain ⟨x0, rfl, wx0⟩ := hc.str_inv
  obtain ⟨c, r, rfl, hc, tx1⟩ := tx0.cons_inv
  obtain ⟨x1, rfl, wx1⟩ := hc.str_inv
  obtain ⟨c, r, rfl, hc, tx2⟩ := tx1.cons_inv
  obtain ⟨x2, rfl, wx2⟩ := hc.str_inv
  obtain ⟨c, r, rfl, hc, tx3⟩ := tx2.cons_inv
  obtain ⟨x3, rfl, wx3⟩ := hc.sl_inv
  have := tx3.nil_inv; subst this
  obtain ⟨c, r, rfl, hc, ty0⟩ := hy.cons_inv
  obtain ⟨y0, rfl, wy0⟩ := hc.str_inv
  obtain ⟨c, r, rfl, hc, ty1⟩ := ty0.cons_inv
  obtain ⟨y1, rfl, wy1⟩ := hc.str_inv
  obtain ⟨c, r, rfl, hc, ty2⟩ := ty1.cons_inv
  obtain ⟨y2, rfl, wy2⟩ := hc.str_inv
  obtain ⟨c, r, rfl, hc, ty3⟩ := ty2.cons_inv
  obtain ⟨y3, rfl, wy3⟩ := hc.sl_inv
  have := ty3.nil_inv; subst this
  apply ends_eq
  rw [ev_body (c := _) rfl]
  rw [show entry Tryz.f80 [.agg [.lit (.string x0), .lit (.string x1), .lit (.string x2), .sl .sh x3], .agg [.lit (.string y0), .lit (.string y1), .lit (.string y2), .sl .sh y3]] = { s := [.agg [.lit (.string x0), .lit (.string x1), .lit (.string x2), .sl .sh x3], .agg [.lit (.string y0), .lit (.string y1), .lit (.string y2), .sl .sh y3], .undef, .undef, .undef, .undef, .undef, .undef, .undef, .undef, .undef, .undef, .undef, .undef, .undef, .undef, .undef, .undef, .undef, .undef, .undef, .undef, .undef, .undef, .undef, .undef], live := fun _ _ => none } from rfl]
  simp (config := {contextual := true, maxSteps := 3000000, dsimp := false}) [Tryz.f80, ↓br_dec, setCells, hc92, wx0, wy0, wx1, wy1, wx2, wy2, wx3, wy3]
  all_goals (try simp (config := {contextual := true}))
  all_goals grind
theorem dr81_0 : drawnA Tryz.prog (drawnIn Tryz.f81 0) = true := drawn_of (tab := [⟨some 17, [0], false, []⟩, ⟨some 18, [5], false, []⟩, ⟨some 19, [17, 18], false, [0, 1]⟩, ⟨some 20, [19], false, [2]⟩, ⟨some 21, [1], false, []⟩, ⟨some 22, [5], false, []⟩, ⟨some 23, [21, 22], false, [4, 5]⟩, ⟨some 24, [23], false, [6]⟩, ⟨some 25, [20, 24], false, [3, 7]⟩, ⟨some 26, [25], false, [8]⟩]) follows_mixed (by kernel_rfl) (by kernel_rfl)
theorem lp81 (call : FuncId → List AV → Option AV) (m : Nat)
    (hc97 : ∀ x y, OkL lay137 x → OkL lay137 y → call 97 [.agg x, .agg y] = some (.lit (.bool (decide (x = y))))) 
    {c : Code} (hcd : c = loopIn Tryz.f81 0) {es fs : List (List AV)} (he : OkR lay137 es) (hf : OkR lay137 fs) (hl : es.length = fs.length) {F : Ex × Env → Prop} (h1 : ∀ (lv : Nat → Nat → Option Nat) (ui u2 u3 u6 u7 u8 u9 u10 u11 u12 u13 u14 u15 u16 u17 u18 u19 u20 u21 u22 u23 u24 u25 u26 : AV), es = fs → F (.exit 0, { s := [.sl .sh es, .sl .sh fs, u2, u3, .lit (.bool false), ui, u6, u7, u8, u9, u10, u11, u12, u13, u14, u15, u16, u17, u18, u19, u20, u21, u22, u23, u24, u25, u26], live := lv })) (h2 : ∀ E', es ≠ fs → E'.s[4]? = some (.lit (.bool false)) → F (.ret, E')) :
    ∀ (k N i : Nat) (lv : Nat → Nat → Option Nat) (u2 u3 u6 u7 u8 u9 u10 u11 u12 u13 u14 u15 u16 u17 u18 u19 u20 u21 u22 u23 u24 u25 u26 : AV), k < N → k + i = es.length → es.take i = fs.take i →
      (∀ u ∈ [u17, u18, u19, u20, u21, u22, u23, u24, u25, u26], notCell u = true) →
      Ends (evLoop (evCode Tryz.prog call m c) N { s := [.sl .sh es, .sl .sh fs, u2, u3, .lit (.bool false), .lit (.int .i64 (i : Int)), u6, u7, u8, u9, u10, u11, u12, u13, u14, u15, u16, u17, u18, u19, u20, u21, u22, u23, u24, u25, u26], live := lv }) F := by
  intro k
  induction k with
  | zero =>
    intro N i lv u2 u3 u6 u7 u8 u9 u10 u11 u12 u13 u14 u15 u16 u17 u18 u19 u20 u21 u22 u23 u24 u25 u26 hN hk hp hu
    obtain ⟨N, rfl⟩ : ∃ N', N = N' + 1 := ⟨N - 1, by omega⟩
    have hi : i = es.length := by omega
    subst hi
    rw [List.take_of_length_le (Nat.le_refl _), List.take_of_length_le (by omega)] at hp
    rw [ev_turn hcd]
    simp -dsimp [Tryz.f81, ↓br_dec]
    exact h1 _ _ _ _ _ _ _ _ _ _ _ _ _ _ _ _ _ _ _ _ _ _ _ _ _ hp
  | succ k ih =>
    intro N i lv u2 u3 u6 u7 u8 u9 u10 u11 u12 u13 u14 u15 u16 u17 u18 u19 u20 u21 u22 u23 u24 u25 u26 hN hk hp hu
    obtain ⟨N, rfl⟩ : ∃ N', N = N' + 1 := ⟨N - 1, by omega⟩
    obtain ⟨x, hx, hxo, hxt⟩ := he.get (i := i) (by omega)
    obtain ⟨y, hy, hyo, hyt⟩ := hf.get (i := i) (by omega)
    have hlt : ((i : Int) < (es.length : Int)) := by omega
    have hbd : i < 9223372036854775807 := by have := he.1; omega
    simp only [List.mem_cons, List.not_mem_nil, or_false, forall_eq_or_imp, forall_eq] at hu
    have hxl : x.length = 4 := hxo.1
    have hyl : y.length = 4 := hyo.1
    have dr0 := dr81_0
    simp only [drawnIn, drawnsOf, Tryz.f81, List.getD_cons_succ, List.getD_cons_zero, List.nil_append, List.append_nil, List.cons_append] at dr0
    rw [ev_turn hcd]
    have ihh : x = y → ∀ (lv : Nat → Nat → Option Nat) (u2 u3 u6 u7 u8 u9 u10 u11 u12 u13 u14 u15 u16 u17 u18 u19 u20 u21 u22 u23 u24 u25 u26 : AV), notCell u17 = true → notCell u18 = true → notCell u19 = true → notCell u20 = true → notCell u21 = true → notCell u22 = true → notCell u23 = true → notCell u24 = true → notCell u25 = true → notCell u26 = true → Ends (evLoop (evCode Tryz.prog call m c) N { s := [.sl .sh es, .sl .sh fs, u2, u3, .lit (.bool false), .lit (.int .i64 ((i + 1 : Nat) : Int)), u6, u7, u8, u9, u10, u11, u12, u13, u14, u15, u16, u17, u18, u19, u20, u21, u22, u23, u24, u25, u26], live := lv }) F := fun hxy lv u2 u3 u6 u7 u8 u9 u10 u11 u12 u13 u14 u15 u16 u17 u18 u19 u20 u21 u22 u23 u24 u25 u26 nu17 nu18 nu19 nu20 nu21 nu22 nu23 nu24 nu25 nu26 => ih N (i + 1) lv u2 u3 u6 u7 u8 u9 u10 u11 u12 u13 u14 u15 u16 u17 u18 u19 u20 u21 u22 u23 u24 u25 u26 (by omega) (by omega) (by rw [hxt, hyt, hp, hxy]) (by simp [nu17, nu18, nu19, nu20, nu21, nu22, nu23, nu24, nu25, nu26])
    have h2h : ¬ (x = y) → ∀ E', E'.s[4]? = some (.lit (.bool false)) → F (.ret, E') := fun hxy E' => h2 E' (fun h => hxy (by have hy' := hy; rw [← h, hx] at hy'; exact Option.some.inj hy'))
    clear ih h2
    by_cases hxy : x = y
    · subst hxy; have ihh := ihh rfl
      simp -dsimp [Tryz.f81, ↓br_dec, ↓ev_drawn dr0, setCells, hlt, hx, hy, wrap_small hbd, hu, hxl, hyl, hxo.plain, hyo.plain, hxo, hyo, hc97]
      exact ihh _ _ _ _ _ _ _ _ _ _ _ _ _ _ _ _ _ _ _ _ _ _ _ _ rfl rfl rfl rfl rfl rfl rfl rfl rfl rfl
    · have h2h := h2h hxy
      skip
      simp (config := {contextual := true, maxSteps := 3000000, dsimp := false}) [Tryz.f81, ↓br_dec, ↓ev_drawn dr0, setCells, hlt, hx, hy, wrap_small hbd, hu, hxl, hyl, hxo.plain, hyo.plain, hxo, hyo, hc97, h2h, hxy]
      all_goals (try simp (config := {contextual := true}))
      all_goals grind
theorem same81 (call : FuncId → List AV → Option AV)
    (hc97 : ∀ x y, OkL lay137 x → OkL lay137 y → call 97 [.agg x, .agg y] = some (.lit (.bool (decide (x = y))))) 
    {es fs : List (List AV)} (he : OkR lay137 es) (hf : OkR lay137 fs) : ∃ m, evBody Tryz.prog call m Tryz.f81 [.sl .sh es, .sl .sh fs] = some (.lit (.bool (decide (es = fs)))) := by
  refine ⟨es.length + 1, ?_⟩
  apply ends_eq
  rw [ev_body (c := _) rfl]
  rw [show entry Tryz.f81 [.sl .sh es, .sl .sh fs] = { s := [.sl .sh es, .sl .sh fs, .undef, .undef, .undef, .undef, .undef, .undef, .undef, .undef, .undef, .undef, .undef, .undef, .undef, .undef, .undef, .undef, .undef, .undef, .undef, .undef, .undef, .undef, .undef, .undef, .undef], live := fun _ _ => none } from rfl]
  by_cases hl : es.length = fs.length
  · have hl' : ((es.length : Int) = (fs.length : Int)) := by omega
    simp -dsimp [Tryz.f81, ↓br_dec, hl']
    try simp only [← hl']
    refine lp81 call _ hc97 rfl he hf hl (fun lv ui u2 u3 u6 u7 u8 u9 u10 u11 u12 u13 u14 u15 u16 u17 u18 u19 u20 u21 u22 u23 u24 u25 u26 h => ?_) (fun E' h hn => ?_) es.length _ 0 _ _ _ _ _ _ _ _ _ _ _ _ _ _ _ _ _ _ _ _ _ _ _ _ (by omega) (by omega) rfl (by simp [nc_lit])
    · simp -dsimp [Tryz.f81, ↓br_dec, h]
    · simp -dsimp [Tryz.f81, ↓br_dec, hn, h]
  · have hl' : ¬ ((es.length : Int) = (fs.length : Int)) := by omega
    have : es ≠ fs := fun h => hl (by rw [h])
    simp -dsimp [Tryz.f81, ↓br_dec, hl', this]
theorem dr92_0 : drawnA Tryz.prog (drawnIn Tryz.f92 0) = true := drawn_of (tab := [⟨some 17, [0], false, []⟩, ⟨some 18, [5], false, []⟩, ⟨some 19, [17, 18], false, [0, 1]⟩, ⟨some 20, [19], false, [2]⟩, ⟨some 21, [1], false, []⟩, ⟨some 22, [5], false, []⟩, ⟨some 23, [21, 22], false, [4, 5]⟩, ⟨some 24, [23], false, [6]⟩, ⟨some 25, [20, 24], false, [3, 7]⟩, ⟨some 26, [25], false, [8]⟩]) follows_mixed (by kernel_rfl) (by kernel_rfl)
theorem lp92 (call : FuncId → List AV → Option AV) (m : Nat)
    (hc102 : ∀ x y, OkL lay146 x → OkL lay146 y → call 102 [.agg x, .agg y] = some (.lit (.bool (decide (x = y))))) 
    {c : Code} (hcd : c = loopIn Tryz.f92 0) {es fs : List (List AV)} (he : OkR lay146 es) (hf : OkR lay146 fs) (hl : es.length = fs.length) {F : Ex × Env → Prop} (h1 : ∀ (lv : Nat → Nat → Option Nat) (ui u2 u3 u6 u7 u8 u9 u10 u11 u12 u13 u14 u15 u16 u17 u18 u19 u20 u21 u22 u23 u24 u25 u26 : AV), es = fs → F (.exit 0, { s := [.sl .sh es, .sl .sh fs, u2, u3, .lit (.bool false), ui, u6, u7, u8, u9, u10, u11, u12, u13, u14, u15, u16, u17, u18, u19, u20, u21, u22, u23, u24, u25, u26], live := lv })) (h2 : ∀ E', es ≠ fs → E'.s[4]? = some (.lit (.bool false)) → F (.ret, E')) :
    ∀ (k N i : Nat) (lv : Nat → Nat → Option Nat) (u2 u3 u6 u7 u8 u9 u10 u11 u12 u13 u14 u15 u16 u17 u18 u19 u20 u21 u22 u23 u24 u25 u26 : AV), k < N → k + i = es.length → es.take i = fs.take i →
      (∀ u ∈ [u17, u18, u19, u20, u21, u22, u23, u24, u25, u26], notCell u = true) →
      Ends (evLoop (evCode Tryz.prog call m c) N { s := [.sl .sh es, .sl .sh fs, u2, u3, .lit (.bool false), .lit (.int .i64 (i : Int)), u6, u7, u8, u9, u10, u11, u12, u13, u14, u15, u16, u17, u18, u19, u20, u21, u22, u23, u24, u25, u26], live := lv }) F := by
  intro k
  induction k with
  | zero =>
    intro N i lv u2 u3 u6 u7 u8 u9 u10 u11 u12 u13 u14 u15 u16 u17 u18 u19 u20 u21 u22 u23 u24 u25 u26 hN hk hp hu
    obtain ⟨N, rfl⟩ : ∃ N', N = N' + 1 := ⟨N - 1, by omega⟩
    have hi : i = es.length := by omega
    subst hi
    rw [List.take_of_length_le (Nat.le_refl _), List.take_of_length_le (by omega)] at hp
    rw [ev_turn hcd]
    simp -dsimp [Tryz.f92, ↓br_dec]
    exact h1 _ _ _ _ _ _ _ _ _ _ _ _ _ _ _ _ _ _ _ _ _ _ _ _ _ hp
  | succ k ih =>
    intro N i lv u2 u3 u6 u7 u8 u9 u10 u11 u12 u13 u14 u15 u16 u17 u18 u19 u20 u21 u22 u23 u24 u25 u26 hN hk hp hu
    obtain ⟨N, rfl⟩ : ∃ N', N = N' + 1 := ⟨N - 1, by omega⟩
    obtain ⟨x, hx, hxo, hxt⟩ := he.get (i := i) (by omega)
    obtain ⟨y, hy, hyo, hyt⟩ := hf.get (i := i) (by omega)
    have hlt : ((i : Int) < (es.length : Int)) := by omega
    have hbd : i < 9223372036854775807 := by have := he.1; omega
    simp only [List.mem_cons, List.not_mem_nil, or_false, forall_eq_or_imp, forall_eq] at hu
    have hxl : x.length = 2 := hxo.1
    have hyl : y.length = 2 := hyo.1
    have dr0 := dr92_0
    simp only [drawnIn, drawnsOf, Tryz.f92, List.getD_cons_succ, List.getD_cons_zero, List.nil_append, List.append_nil, List.cons_append] at dr0
    rw [ev_turn hcd]
    have ihh : x = y → ∀ (lv : Nat → Nat → Option Nat) (u2 u3 u6 u7 u8 u9 u10 u11 u12 u13 u14 u15 u16 u17 u18 u19 u20 u21 u22 u23 u24 u25 u26 : AV), notCell u17 = true → notCell u18 = true → notCell u19 = true → notCell u20 = true → notCell u21 = true → notCell u22 = true → notCell u23 = true → notCell u24 = true → notCell u25 = true → notCell u26 = true → Ends (evLoop (evCode Tryz.prog call m c) N { s := [.sl .sh es, .sl .sh fs, u2, u3, .lit (.bool false), .lit (.int .i64 ((i + 1 : Nat) : Int)), u6, u7, u8, u9, u10, u11, u12, u13, u14, u15, u16, u17, u18, u19, u20, u21, u22, u23, u24, u25, u26], live := lv }) F := fun hxy lv u2 u3 u6 u7 u8 u9 u10 u11 u12 u13 u14 u15 u16 u17 u18 u19 u20 u21 u22 u23 u24 u25 u26 nu17 nu18 nu19 nu20 nu21 nu22 nu23 nu24 nu25 nu26 => ih N (i + 1) lv u2 u3 u6 u7 u8 u9 u10 u11 u12 u13 u14 u15 u16 u17 u18 u19 u20 u21 u22 u23 u24 u25 u26 (by omega) (by omega) (by rw [hxt, hyt, hp, hxy]) (by simp [nu17, nu18, nu19, nu20, nu21, nu22, nu23, nu24, nu25, nu26])
    have h2h : ¬ (x = y) → ∀ E', E'.s[4]? = some (.lit (.bool false)) → F (.ret, E') := fun hxy E' => h2 E' (fun h => hxy (by have hy' := hy; rw [← h, hx] at hy'; exact Option.some.inj hy'))
    clear ih h2
    by_cases hxy : x = y
    · subst hxy; have ihh := ihh rfl
      simp -dsimp [Tryz.f92, ↓br_dec, ↓ev_drawn dr0, setCells, hlt, hx, hy, wrap_small hbd, hu, hxl, hyl, hxo.plain, hyo.plain, hxo, hyo, hc102]
      exact ihh _ _ _ _ _ _ _ _ _ _ _ _ _ _ _ _ _ _ _ _ _ _ _ _ rfl rfl rfl rfl rfl rfl rfl rfl rfl rfl
    · have h2h := h2h hxy
      skip
      simp (config := {contextual := true, maxSteps := 3000000, dsimp := false}) [Tryz.f92, ↓br_dec, ↓ev_drawn dr0, setCells, hlt, hx, hy, wrap_small hbd, hu, hxl, hyl, hxo.plain, hyo.plain, hxo, hyo, hc102, h2h, hxy]
      all_goals (try simp (config := {contextual := true}))
      all_goals grind
theorem same92 (call : FuncId → List AV → Option AV)
    (hc102 : ∀ x y, OkL lay146 x → OkL lay146 y → call 102 [.agg x, .agg y] = some (.lit (.bool (decide (x = y))))) 
    {es fs : List (List AV)} (he : OkR lay146 es) (hf : OkR lay146 fs) : ∃ m, evBody Tryz.prog call m Tryz.f92 [.sl .sh es, .sl .sh fs] = some (.lit (.bool (decide (es = fs)))) := by
  refine ⟨es.length + 1, ?_⟩
  apply ends_eq
  rw [ev_body (c := _) rfl]
  rw [show entry Tryz.f92 [.sl .sh es, .sl .sh fs] = { s := [.sl .sh es, .sl .sh fs, .undef, .undef, .undef, .undef, .undef, .undef, .undef, .undef, .undef, .undef, .undef, .undef, .undef, .undef, .undef, .undef, .undef, .undef, .undef, .undef, .undef, .undef, .undef, .undef, .undef], live := fun _ _ => none } from rfl]
  by_cases hl : es.length = fs.length
  · have hl' : ((es.length : Int) = (fs.length : Int)) := by omega
    simp -dsimp [Tryz.f92, ↓br_dec, hl']
    try simp only [← hl']
    refine lp92 call _ hc102 rfl he hf hl (fun lv ui u2 u3 u6 u7 u8 u9 u10 u11 u12 u13 u14 u15 u16 u17 u18 u19 u20 u21 u22 u23 u24 u25 u26 h => ?_) (fun E' h hn => ?_) es.length _ 0 _ _ _ _ _ _ _ _ _ _ _ _ _ _ _ _ _ _ _ _ _ _ _ _ (by omega) (by omega) rfl (by simp [nc_lit])
    · simp -dsimp [Tryz.f92, ↓br_dec, h]
    · simp -dsimp [Tryz.f92, ↓br_dec, hn, h]
  · have hl' : ¬ ((es.length : Int) = (fs.length : Int)) := by omega
    have : es ≠ fs := fun h => hl (by rw [h])
    simp -dsimp [Tryz.f92, ↓br_dec, hl', this]
theorem dr93_0 : drawnA Tryz.prog (drawnIn Tryz.f93 0) = true := drawn_of (tab := [⟨some 17, [0], false, []⟩, ⟨some 18, [5], false, []⟩, ⟨some 19, [17, 18], false, [0, 1]⟩, ⟨some 20, [19], false, [2]⟩, ⟨some 21, [1], false, []⟩, ⟨some 22, [5], false, []⟩, ⟨some 23, [21, 22], false, [4, 5]⟩, ⟨some 24, [23], false, [6]⟩, ⟨some 25, [20, 24], false, [3, 7]⟩]) follows_mixed (by kernel_rfl) (by kernel_rfl)
theorem lp93 (call : FuncId → List AV → Option AV) (m : Nat) 
    {c : Code} (hcd : c = loopIn Tryz.f93 0) {es fs : List (List AV)} (he : OkR lay5 es) (hf : OkR lay5 fs) (hl : es.length = fs.length) {F : Ex × Env → Prop} (h1 : ∀ (lv : Nat → Nat → Option Nat) (ui u2 u3 u6 u7 u8 u9 u10 u11 u12 u13 u14 u15 u16 u17 u18 u19 u20 u21 u22 u23 u24 u25 : AV), es = fs → F (.exit 0, { s := [.sl .sh es, .sl .sh fs, u2, u3, .lit (.bool false), ui, u6, u7, u8, u9, u10, u11, u12, u13, u14, u15, u16, u17, u18, u19, u20, u21, u22, u23, u24, u25], live := lv })) (h2 : ∀ E', es ≠ fs → E'.s[4]? = some (.lit (.bool false)) → F (.ret, E')) :
    ∀ (k N i : Nat) (lv : Nat → Nat → Option Nat) (u2 u3 u6 u7 u8 u9 u10 u11 u12 u13 u14 u15 u16 u17 u18 u19 u20 u21 u22 u23 u24 u25 : AV), k < N → k + i = es.length → es.take i = fs.take i →
      (∀ u ∈ [u17, u18, u19, u20, u21, u22, u23, u24, u25], notCell u = true) →
      Ends (evLoop (evCode Tryz.prog call m c) N { s := [.sl .sh es, .sl .sh fs, u2, u3, .lit (.bool false), .lit (.int .i64 (i : Int)), u6, u7, u8, u9, u10, u11, u12, u13, u14, u15, u16, u17, u18, u19, u20, u21, u22, u23, u24, u25], live := lv }) F := by
  intro k
  induction k with
  | zero =>
    intro N i lv u2 u3 u6 u7 u8 u9 u10 u11 u12 u13 u14 u15 u16 u17 u18 u19 u20 u21 u22 u23 u24 u25 hN hk hp hu
    obtain ⟨N, rfl⟩ : ∃ N', N = N' + 1 := ⟨N - 1, by omega⟩
    have hi : i = es.length := by omega
    subst hi
    rw [List.take_of_length_le (Nat.le_refl _), List.take_of_length_le (by omega)] at hp
    rw [ev_turn hcd]
    simp -dsimp [Tryz.f93, ↓br_dec]
    exact h1 _ _ _ _ _ _ _ _ _ _ _ _ _ _ _ _ _ _ _ _ _ _ _ _ hp
  | succ k ih =>
    intro N i lv u2 u3 u6 u7 u8 u9 u10 u11 u12 u13 u14 u15 u16 u17 u18 u19 u20 u21 u22 u23 u24 u25 hN hk hp hu
    obtain ⟨N, rfl⟩ : ∃ N', N = N' + 1 := ⟨N - 1, by omega⟩
    obtain ⟨x, hx, hxo, hxt⟩ := he.get (i := i) (by omega)
    obtain ⟨y, hy, hyo, hyt⟩ := hf.get (i := i) (by omega)
    have hlt : ((i : Int) < (es.length : Int)) := by omega
    have hbd : i < 9223372036854775807 := by have := he.1; omega
    simp only [List.mem_cons, List.not_mem_nil, or_false, forall_eq_or_imp, forall_eq] at hu
    obtain ⟨c, r, rfl, hc, tp0⟩ := hxo.cons_inv
    obtain ⟨p0, rfl, wp0⟩ := hc.int_inv
    have := tp0.nil_inv; subst this
    obtain ⟨c, r, rfl, hc, tq0⟩ := hyo.cons_inv
    obtain ⟨q0, rfl, wq0⟩ := hc.int_inv
    have := tq0.nil_inv; subst this
    have dr0 := dr93_0
    simp only [drawnIn, drawnsOf, Tryz.f93, List.getD_cons_succ, List.getD_cons_zero, List.nil_append, List.append_nil, List.cons_append] at dr0
    rw [ev_turn hcd]
    have ihh : ([.lit (.int .u8 p0)] : List AV) = ([.lit (.int .u8 q0)] : List AV) → ∀ (lv : Nat → Nat → Option Nat) (u2 u3 u6 u7 u8 u9 u10 u11 u12 u13 u14 u15 u16 u17 u18 u19 u20 u21 u22 u23 u24 u25 : AV), notCell u17 = true → notCell u18 = true → notCell u19 = true → notCell u20 = true → notCell u21 = true → notCell u22 = true → notCell u23 = true → notCell u24 = true → notCell u25 = true → Ends (evLoop (evCode Tryz.prog call m c) N { s := [.sl .sh es, .sl .sh fs, u2, u3, .lit (.bool false), .lit (.int .i64 ((i + 1 : Nat) : Int)), u6, u7, u8, u9, u10, u11, u12, u13, u14, u15, u16, u17, u18, u19, u20, u21, u22, u23, u24, u25], live := lv }) F := fun hxy lv u2 u3 u6 u7 u8 u9 u10 u11 u12 u13 u14 u15 u16 u17 u18 u19 u20 u21 u22 u23 u24 u25 nu17 nu18 nu19 nu20 nu21 nu22 nu23 nu24 nu25 => ih N (i + 1) lv u2 u3 u6 u7 u8 u9 u10 u11 u12 u13 u14 u15 u16 u17 u18 u19 u20 u21 u22 u23 u24 u25 (by omega) (by omega) (by rw [hxt, hyt, hp, hxy]) (by simp [nu17, nu18, nu19, nu20, nu21, nu22, nu23, nu24, nu25])
    have h2h : ¬ (([.lit (.int .u8 p0)] : List AV) = ([.lit (.int .u8 q0)] : List AV)) → ∀ E', E'.s[4]? = some (.lit (.bool false)) → F (.ret, E') := fun hxy E' => h2 E' (fun h => hxy (by have hy' := hy; rw [← h, hx] at hy'; exact Option.some.inj hy'))
    clear ih h2
    by_cases hxy : ([.lit (.int .u8 p0)] : List AV) = ([.lit (.int .u8 q0)] : List AV)
    · have ihh := ihh hxy
      simp -dsimp [Tryz.f93, ↓br_dec, ↓ev_drawn dr0, setCells, hlt, hx, hy, wrap_small hbd, hu, wp0, wq0, hxy]
      exact ihh _ _ _ _ _ _ _ _ _ _ _ _ _ _ _ _ _ _ _ _ _ _ _ rfl rfl rfl rfl rfl rfl rfl rfl rfl
    · have h2h := h2h hxy
      simp only [List.cons.injEq, AV.lit.injEq, Value.int.injEq, Value.string.injEq, Value.bool.injEq, AV.sl.injEq, true_and, and_true] at hxy
      simp (config := {contextual := true, maxSteps := 3000000, dsimp := false}) [Tryz.f93, ↓br_dec, ↓ev_drawn dr0, setCells, hlt, hx, hy, wrap_small hbd, hu, wp0, wq0, h2h, hxy]
      all_goals (try simp (config := {contextual := true}))
      all_goals grind
theorem same93 (call : FuncId → List AV → Option AV) 
    {es fs : List (List AV)} (he : OkR lay5 es) (hf : OkR lay5 fs) : ∃ m, evBody Tryz.prog call m Tryz.f93 [.sl .sh es, .sl .sh fs] = some (.lit (.bool (decide (es = fs)))) := by
  refine ⟨es.length + 1, ?_⟩
  apply ends_eq
  rw [ev_body (c := _) rfl]
  rw [show entry Tryz.f93 [.sl .sh es, .sl .sh fs] = { s := [.sl .sh es, .sl .sh fs, .undef, .undef, .undef, .undef, .undef, .undef, .undef, .undef, .undef, .undef, .undef, .undef, .undef, .undef, .undef, .undef, .undef, .undef, .undef, .undef, .undef, .undef, .undef, .undef], live := fun _ _ => none } from rfl]
  by_cases hl : es.length = fs.length
  · have hl' : ((es.length : Int) = (fs.length : Int)) := by omega
    simp -dsimp [Tryz.f93, ↓br_dec, hl']
    try simp only [← hl']
    refine lp93 call _ rfl he hf hl (fun lv ui u2 u3 u6 u7 u8 u9 u10 u11 u12 u13 u14 u15 u16 u17 u18 u19 u20 u21 u22 u23 u24 u25 h => ?_) (fun E' h hn => ?_) es.length _ 0 _ _ _ _ _ _ _ _ _ _ _ _ _ _ _ _ _ _ _ _ _ _ _ (by omega) (by omega) rfl (by simp [nc_lit])
    · simp -dsimp [Tryz.f93, ↓br_dec, h]
    · simp -dsimp [Tryz.f93, ↓br_dec, hn, h]
  · have hl' : ¬ ((es.length : Int) = (fs.length : Int)) := by omega
    have : es ≠ fs := fun h => hl (by rw [h])
    simp -dsimp [Tryz.f93, ↓br_dec, hl', this]
theorem same94 (call : FuncId → List AV → Option AV) (m : Nat)
    {x y : List AV} (hx : OkL lay117 x) (hy : OkL lay117 y) : evBody Tryz.prog call m Tryz.f94 [.agg x, .agg y] = some (.lit (.bool (decide (x = y)))) := by
  obtain ⟨c, r, rfl, hc, tx0⟩ := hx.cons_inv
  obtain ⟨x0, rfl, wx0⟩ := hc.int_inv
  obtain ⟨c, r, rfl, hc, tx1⟩ := tx0.cons_inv
  obtain ⟨x1, rfl, wx1⟩ := hc.int_inv
  obtain ⟨c, r, rfl, hc, tx2⟩ := tx1.cons_inv
  obtain ⟨x2, rfl, wx2⟩ := hc.int_inv
  obtain ⟨c, r, rfl, hc, tx3⟩ := tx2.cons_inv
  obtain ⟨x3, rfl, wx3⟩ := hc.int_inv
  obtain ⟨c, r, rfl, hc, tx4⟩ := tx3.cons_inv
  obtain ⟨x4, rfl, wx4⟩ := hc.int_inv
  obtain ⟨c, r, rfl, hc, tx5⟩ := tx4.cons_inv
  obtain ⟨x5, rfl⟩ := hc.bool_inv
  obtain ⟨c, r, rfl, hc, tx6⟩ := tx5.cons_inv
  obtain ⟨x6, rfl⟩ := hc.bool_inv
  have := tx6.nil_inv; subst this
  obtain ⟨c, r, rfl, hc, ty0⟩ := hy.cons_inv
  obtain ⟨y0, rfl, wy0⟩ := hc.int_inv
  obtain ⟨c, r, rfl, hc, ty1⟩ := ty0.cons_inv
  obtain ⟨y1, rfl, wy1⟩ := hc.int_inv
  obtain ⟨c, r, rfl, hc, ty2⟩ := ty1.cons_inv
  obtain ⟨y2, rfl, wy2⟩ := hc.int_inv
  obtain ⟨c, r, rfl, hc, ty3⟩ := ty2.cons_inv
  obtain ⟨y3, rfl, wy3⟩ := hc.int_inv
  obtain ⟨c, r, rfl, hc, ty4⟩ := ty3.cons_inv
  obtain ⟨y4, rfl, wy4⟩ := hc.int_inv
  obtain ⟨c, r, rfl, hc, ty5⟩ := ty4.cons_inv
  obtain ⟨y5, rfl⟩ := hc.bool_inv
  obtain ⟨c, r, rfl, hc, ty6⟩ := ty5.cons_inv
  obtain ⟨y6, rfl⟩ := hc.bool_inv
  have := ty6.nil_inv; subst this
  apply ends_eq
  rw [ev_body (c := _) rfl]
  rw [show entry Tryz.f94 [.agg [.lit (.int .i64 x0), .lit (.int .i64 x1), .lit (.int .i64 x2), .lit (.int .i64 x3), .lit (.int .i64 x4), .lit (.bool x5), .lit (.bool x6)], .agg [.lit (.int .i64 y0), .lit (.int .i64 y1), .lit (.int .i64 y2), .lit (.int .i64 y3), .lit (.int .i64 y4), .lit (.bool y5), .lit (.bool y6)]] = { s := [.agg [.lit (.int .i64 x0), .lit (.int .i64 x1), .lit (.int .i64 x2), .lit (.int .i64 x3), .lit (.int .i64 x4), .lit (.bool x5), .lit (.bool x6)], .agg [.lit (.int .i64 y0), .lit (.int .i64 y1), .lit (.int .i64 y2), .lit (.int .i64 y3), .lit (.int .i64 y4), .lit (.bool y5), .lit (.bool y6)], .undef, .undef, .undef, .undef, .undef, .undef, .undef, .undef, .undef, .undef, .undef, .undef, .undef, .undef, .undef, .undef, .undef, .undef, .undef, .undef, .undef, .undef, .undef, .undef, .undef, .undef, .undef, .undef, .undef, .undef, .undef, .undef, .undef, .undef, .undef, .undef, .undef, .undef], live := fun _ _ => none } from rfl]
  simp (config := {contextual := true, maxSteps := 3000000, dsimp := false}) [Tryz.f94, ↓br_dec, setCells, wx0, wy0, wx1, wy1, wx2, wy2, wx3, wy3, wx4, wy4]
  all_goals (try simp (config := {contextual := true}))
  all_goals grind
theorem dr95_0 : drawnA Tryz.prog (drawnIn Tryz.f95 0) = true := drawn_of (tab := [⟨some 17, [0], false, []⟩, ⟨some 18, [5], false, []⟩, ⟨some 19, [17, 18], false, [0, 1]⟩, ⟨some 20, [19], false, [2]⟩, ⟨some 21, [1], false, []⟩, ⟨some 22, [5], false, []⟩, ⟨some 23, [21, 22], false, [4, 5]⟩, ⟨some 24, [23], false, [6]⟩, ⟨some 25, [20, 24], false, [3, 7]⟩, ⟨some 26, [25], false, [8]⟩]) follows_mixed (by kernel_rfl) (by kernel_rfl)
theorem lp95 (call : FuncId → List AV → Option AV) (m : Nat)
    (hc103 : ∀ x y, OkL lay106 x → OkL lay106 y → call 103 [.agg x, .agg y] = some (.lit (.bool (decide (x = y))))) 
    {c : Code} (hcd : c = loopIn Tryz.f95 0) {es fs : List (List AV)} (he : OkR lay106 es) (hf : OkR lay106 fs) (hl : es.length = fs.length) {F : Ex × Env → Prop} (h1 : ∀ (lv : Nat → Nat → Option Nat) (ui u2 u3 u6 u7 u8 u9 u10 u11 u12 u13 u14 u15 u16 u17 u18 u19 u20 u21 u22 u23 u24 u25 u26 : AV), es = fs → F (.exit 0, { s := [.sl .sh es, .sl .sh fs, u2, u3, .lit (.bool false), ui, u6, u7, u8, u9, u10, u11, u12, u13, u14, u15, u16, u17, u18, u19, u20, u21, u22, u23, u24, u25, u26], live := lv })) (h2 : ∀ E', es ≠ fs → E'.s[4]? = some (.lit (.bool false)) → F (.ret, E')) :
    ∀ (k N i : Nat) (lv : Nat → Nat → Option Nat) (u2 u3 u6 u7 u8 u9 u10 u11 u12 u13 u14 u15 u16 u17 u18 u19 u20 u21 u22 u23 u24 u25 u26 : AV), k < N → k + i = es.length → es.take i = fs.take i →
      (∀ u ∈ [u17, u18, u19, u20, u21, u22, u23, u24, u25, u26], notCell u = true) →
      Ends (evLoop (evCode Tryz.prog call m c) N { s := [.sl .sh es, .sl .sh fs, u2, u3, .lit (.bool false), .lit (.int .i64 (i : Int)), u6, u7, u8, u9, u10, u11, u12, u13, u14, u15, u16, u17, u18, u19, u20, u21, u22, u23, u24, u25, u26], live := lv }) F := by
  intro k
  induction k with
  | zero =>
    intro N i lv u2 u3 u6 u7 u8 u9 u10 u11 u12 u13 u14 u15 u16 u17 u18 u19 u20 u21 u22 u23 u24 u25 u26 hN hk hp hu
    obtain ⟨N, rfl⟩ : ∃ N', N = N' + 1 := ⟨N - 1, by omega⟩
    have hi : i = es.length := by omega
    subst hi
    rw [List.take_of_length_le (Nat.le_refl _), List.take_of_length_le (by omega)] at hp
    rw [ev_turn hcd]
    simp -dsimp [Tryz.f95, ↓br_dec]
    exact h1 _ _ _ _ _ _ _ _ _ _ _ _ _ _ _ _ _ _ _ _ _ _ _ _ _ hp
  | succ k ih =>
    intro N i lv u2 u3 u6 u7 u8 u9 u10 u11 u12 u13 u14 u15 u16 u17 u18 u19 u20 u21 u22 u23 u24 u25 u26 hN hk hp hu
    obtain ⟨N, rfl⟩ : ∃ N', N = N' + 1 := ⟨N - 1, by omega⟩
    obtain ⟨x, hx, hxo, hxt⟩ := he.get (i := i) (by omega)
    obtain ⟨y, hy, hyo, hyt⟩ := hf.get (i := i) (by omega)
    have hlt : ((i : Int) < (es.length : Int)) := by omega
    have hbd : i < 9223372036854775807 := by have := he.1; omega
    simp only [List.mem_cons, List.not_mem_nil, or_false, forall_eq_or_imp, forall_eq] at hu
    have hxl : x.length = 2 := hxo.1
    have hyl : y.length = 2 := hyo.1
    have dr0 := dr95_0
    simp only [drawnIn, drawnsOf, Tryz.f95, List.getD_cons_succ, List.getD_cons_zero, List.nil_append, List.append_nil, List.cons_append] at dr0
    rw [ev_turn hcd]
    have ihh : x = y → ∀ (lv : Nat → Nat → Option Nat) (u2 u3 u6 u7 u8 u9 u10 u11 u12 u13 u14 u15 u16 u17 u18 u19 u20 u21 u22 u23 u24 u25 u26 : AV), notCell u17 = true → notCell u18 = true → notCell u19 = true → notCell u20 = true → notCell u21 = true → notCell u22 = true → notCell u23 = true → notCell u24 = true → notCell u25 = true → notCell u26 = true → Ends (evLoop (evCode Tryz.prog call m c) N { s := [.sl .sh es, .sl .sh fs, u2, u3, .lit (.bool false), .lit (.int .i64 ((i + 1 : Nat) : Int)), u6, u7, u8, u9, u10, u11, u12, u13, u14, u15, u16, u17, u18, u19, u20, u21, u22, u23, u24, u25, u26], live := lv }) F := fun hxy lv u2 u3 u6 u7 u8 u9 u10 u11 u12 u13 u14 u15 u16 u17 u18 u19 u20 u21 u22 u23 u24 u25 u26 nu17 nu18 nu19 nu20 nu21 nu22 nu23 nu24 nu25 nu26 => ih N (i + 1) lv u2 u3 u6 u7 u8 u9 u10 u11 u12 u13 u14 u15 u16 u17 u18 u19 u20 u21 u22 u23 u24 u25 u26 (by omega) (by omega) (by rw [hxt, hyt, hp, hxy]) (by simp [nu17, nu18, nu19, nu20, nu21, nu22, nu23, nu24, nu25, nu26])
    have h2h : ¬ (x = y) → ∀ E', E'.s[4]? = some (.lit (.bool false)) → F (.ret, E') := fun hxy E' => h2 E' (fun h => hxy (by have hy' := hy; rw [← h, hx] at hy'; exact Option.some.inj hy'))
    clear ih h2
    by_cases hxy : x = y
    · subst hxy; have ihh := ihh rfl
      simp -dsimp [Tryz.f95, ↓br_dec, ↓ev_drawn dr0, setCells, hlt, hx, hy, wrap_small hbd, hu, hxl, hyl, hxo.plain, hyo.plain, hxo, hyo, hc103]
      exact ihh _ _ _ _ _ _ _ _ _ _ _ _ _ _ _ _ _ _ _ _ _ _ _ _ rfl rfl rfl rfl rfl rfl rfl rfl rfl rfl
    · have h2h := h2h hxy
      skip
      simp (config := {contextual := true, maxSteps := 3000000, dsimp := false}) [Tryz.f95, ↓br_dec, ↓ev_drawn dr0, setCells, hlt, hx, hy, wrap_small hbd, hu, hxl, hyl, hxo.plain, hyo.plain, hxo, hyo, hc103, h2h, hxy]
      all_goals (try simp (config := {contextual := true}))
      all_goals grind
theorem same95 (call : FuncId → List AV → Option AV)
    (hc103 : ∀ x y, OkL lay106 x → OkL lay106 y → call 103 [.agg x, .agg y] = some (.lit (.bool (decide (x = y))))) 
    {es fs : List (List AV)} (he : OkR lay106 es) (hf : OkR lay106 fs) : ∃ m, evBody Tryz.prog call m Tryz.f95 [.sl .sh es, .sl .sh fs] = some (.lit (.bool (decide (es = fs)))) := by
  refine ⟨es.length + 1, ?_⟩
  apply ends_eq
  rw [ev_body (c := _) rfl]
  rw [show entry Tryz.f95 [.sl .sh es, .sl .sh fs] = { s := [.sl .sh es, .sl .sh fs, .undef, .undef, .undef, .undef, .undef, .undef, .undef, .undef, .undef, .undef, .undef, .undef, .undef, .undef, .undef, .undef, .undef, .undef, .undef, .undef, .undef, .undef, .undef, .undef, .undef], live := fun _ _ => none } from rfl]
  by_cases hl : es.length = fs.length
  · have hl' : ((es.length : Int) = (fs.length : Int)) := by omega
    simp -dsimp [Tryz.f95, ↓br_dec, hl']
    try simp only [← hl']
    refine lp95 call _ hc103 rfl he hf hl (fun lv ui u2 u3 u6 u7 u8 u9 u10 u11 u12 u13 u14 u15 u16 u17 u18 u19 u20 u21 u22 u23 u24 u25 u26 h => ?_) (fun E' h hn => ?_) es.length _ 0 _ _ _ _ _ _ _ _ _ _ _ _ _ _ _ _ _ _ _ _ _ _ _ _ (by omega) (by omega) rfl (by simp [nc_lit])
    · simp -dsimp [Tryz.f95, ↓br_dec, h]
    · simp -dsimp [Tryz.f95, ↓br_dec, hn, h]
  · have hl' : ¬ ((es.length : Int) = (fs.length : Int)) := by omega
    have : es ≠ fs := fun h => hl (by rw [h])
    simp -dsimp [Tryz.f95, ↓br_dec, hl', this]
theorem dr96_0 : drawnA Tryz.prog (drawnIn Tryz.f96 0) = true := drawn_of (tab := [⟨some 17, [0], false, []⟩, ⟨some 18, [5], false, []⟩, ⟨some 19, [17, 18], false, [0, 1]⟩, ⟨some 20, [19], false, [2]⟩, ⟨some 21, [1], false, []⟩, ⟨some 22, [5], false, []⟩, ⟨some 23, [21, 22], false, [4, 5]⟩, ⟨some 24, [23], false, [6]⟩, ⟨some 25, [20, 24], false, [3, 7]⟩, ⟨some 26, [25], false, [8]⟩]) follows_mixed (by kernel_rfl) (by kernel_rfl)
theorem lp96 (call : FuncId → List AV → Option AV) (m : Nat)
    (hc104 : ∀ x y, OkL lay139 x → OkL lay139 y → call 104 [.agg x, .agg y] = some (.lit (.bool (decide (x = y))))) 
    {c : Code} (hcd : c = loopIn Tryz.f96 0) {es fs : List (List AV)} (he : OkR lay139 es) (hf : OkR lay139 fs) (hl : es.length = fs.length) {F : Ex × Env → Prop} (h1 : ∀ (lv : Nat → Nat → Option Nat) (ui u2 u3 u6 u7 u8 u9 u10 u11 u12 u13 u14 u15 u16 u17 u18 u19 u20 u21 u22 u23 u24 u25 u26 : AV), es = fs → F (.exit 0, { s := [.sl .sh es, .sl .sh fs, u2, u3, .lit (.bool false), ui, u6, u7, u8, u9, u10, u11, u12, u13, u14, u15, u16, u17, u18, u19, u20, u21, u22, u23, u24, u25, u26], live := lv })) (h2 : ∀ E', es ≠ fs → E'.s[4]? = some (.lit (.bool false)) → F (.ret, E')) :
    ∀ (k N i : Nat) (lv : Nat → Nat → Option Nat) (u2 u3 u6 u7 u8 u9 u10 u11 u12 u13 u14 u15 u16 u17 u18 u19 u20 u21 u22 u23 u24 u25 u26 : AV), k < N → k + i = es.length → es.take i = fs.take i →
      (∀ u ∈ [u17, u18, u19, u20, u21, u22, u23, u24, u25, u26], notCell u = true) →
      Ends (evLoop (evCode Tryz.prog call m c) N { s := [.sl .sh es, .sl .sh fs, u2, u3, .lit (.bool false), .lit (.int .i64 (i : Int)), u6, u7, u8, u9, u10, u11, u12, u13, u14, u15, u16, u17, u18, u19, u20, u21, u22, u23, u24, u25, u26], live := lv }) F := by
  intro k
  induction k with
  | zero =>
    intro N i lv u2 u3 u6 u7 u8 u9 u10 u11 u12 u13 u14 u15 u16 u17 u18 u19 u20 u21 u22 u23 u24 u25 u26 hN hk hp hu
    obtain ⟨N, rfl⟩ : ∃ N', N = N' + 1 := ⟨N - 1, by omega⟩
    have hi : i = es.length := by omega
    subst hi
    rw [List.take_of_length_le (Nat.le_refl _), List.take_of_length_le (by omega)] at hp
    rw [ev_turn hcd]
    simp -dsimp [Tryz.f96, ↓br_dec]
    exact h1 _ _ _ _ _ _ _ _ _ _ _ _ _ _ _ _ _ _ _ _ _ _ _ _ _ hp
  | succ k ih =>
    intro N i lv u2 u3 u6 u7 u8 u9 u10 u11 u12 u13 u14 u15 u16 u17 u18 u19 u20 u21 u22 u23 u24 u25 u26 hN hk hp hu
    obtain ⟨N, rfl⟩ : ∃ N', N = N' + 1 := ⟨N - 1, by omega⟩
    obtain ⟨x, hx, hxo, hxt⟩ := he.get (i := i) (by omega)
    obtain ⟨y, hy, hyo, hyt⟩ := hf.get (i := i) (by omega)
    have hlt : ((i : Int) < (es.length : Int)) := by omega
    have hbd : i < 9223372036854775807 := by have := he.1; omega
    simp only [List.mem_cons, List.not_mem_nil, or_false, forall_eq_or_imp, forall_eq] at hu
    have hxl : x.length = 2 := hxo.1
    have hyl : y.length = 2 := hyo.1
    have dr0 := dr96_0
    simp only [drawnIn, drawnsOf, Tryz.f96, List.getD_cons_succ, List.getD_cons_zero, List.nil_append, List.append_nil, List.cons_append] at dr0
    rw [ev_turn hcd]
    have ihh : x = y → ∀ (lv : Nat → Nat → Option Nat) (u2 u3 u6 u7 u8 u9 u10 u11 u12 u13 u14 u15 u16 u17 u18 u19 u20 u21 u22 u23 u24 u25 u26 : AV), notCell u17 = true → notCell u18 = true → notCell u19 = true → notCell u20 = true → notCell u21 = true → notCell u22 = true → notCell u23 = true → notCell u24 = true → notCell u25 = true → notCell u26 = true → Ends (evLoop (evCode Tryz.prog call m c) N { s := [.sl .sh es, .sl .sh fs, u2, u3, .lit (.bool false), .lit (.int .i64 ((i + 1 : Nat) : Int)), u6, u7, u8, u9, u10, u11, u12, u13, u14, u15, u16, u17, u18, u19, u20, u21, u22, u23, u24, u25, u26], live := lv }) F := fun hxy lv u2 u3 u6 u7 u8 u9 u10 u11 u12 u13 u14 u15 u16 u17 u18 u19 u20 u21 u22 u23 u24 u25 u26 nu17 nu18 nu19 nu20 nu21 nu22 nu23 nu24 nu25 nu26 => ih N (i + 1) lv u2 u3 u6 u7 u8 u9 u10 u11 u12 u13 u14 u15 u16 u17 u18 u19 u20 u21 u22 u23 u24 u25 u26 (by omega) (by omega) (by rw [hxt, hyt, hp, hxy]) (by simp [nu17, nu18, nu19, nu20, nu21, nu22, nu23, nu24, nu25, nu26])
    have h2h : ¬ (x = y) → ∀ E', E'.s[4]? = some (.lit (.bool false)) → F (.ret, E') := fun hxy E' => h2 E' (fun h => hxy (by have hy' := hy; rw [← h, hx] at hy'; exact Option.some.inj hy'))
    clear ih h2
    by_cases hxy : x = y
    · subst hxy; have ihh := ihh rfl
      simp -dsimp [Tryz.f96, ↓br_dec, ↓ev_drawn dr0, setCells, hlt, hx, hy, wrap_small hbd, hu, hxl, hyl, hxo.plain, hyo.plain, hxo, hyo, hc104]
      exact ihh _ _ _ _ _ _ _ _ _ _ _ _ _ _ _ _ _ _ _ _ _ _ _ _ rfl rfl rfl rfl rfl rfl rfl rfl rfl rfl
    · have h2h := h2h hxy
      skip
      simp (config := {contextual := true, maxSteps := 3000000, dsimp := false}) [Tryz.f96, ↓br_dec, ↓ev_drawn dr0, setCells, hlt, hx, hy, wrap_small hbd, hu, hxl, hyl, hxo.plain, hyo.plain, hxo, hyo, hc104, h2h, hxy]
      all_goals (try simp (config := {contextual := true}))
      all_goals grind
theorem same96 (call : FuncId → List AV → Option AV)
    (hc104 : ∀ x y, OkL lay139 x → OkL lay139 y → call 104 [.agg x, .agg y] = some (.lit (.bool (decide (x = y))))) 
    {es fs : List (List AV)} (he : OkR lay139 es) (hf : OkR lay139 fs) : ∃ m, evBody Tryz.prog call m Tryz.f96 [.sl .sh es, .sl .sh fs] = some (.lit (.bool (decide (es = fs)))) := by
  refine ⟨es.length + 1, ?_⟩
  apply ends_eq
  rw [ev_body (c := _) rfl]
  rw [show entry Tryz.f96 [.sl .sh es, .sl .sh fs] = { s := [.sl .sh es, .sl .sh fs, .undef, .undef, .undef, .undef, .undef, .undef, .undef, .undef, .undef, .undef, .undef, .undef, .undef, .undef, .undef, .undef, .undef, .undef, .undef, .undef, .undef, .undef, .undef, .undef, .undef], live := fun _ _ => none } from rfl]
  by_cases hl : es.length = fs.length
  · have hl' : ((es.length : Int) = (fs.length : Int)) := by omega
    simp -dsimp [Tryz.f96, ↓br_dec, hl']
    try simp only [← hl']
    refine lp96 call _ hc104 rfl he hf hl (fun lv ui u2 u3 u6 u7 u8 u9 u10 u11 u12 u13 u14 u15 u16 u17 u18 u19 u20 u21 u22 u23 u24 u25 u26 h => ?_) (fun E' h hn => ?_) es.length _ 0 _ _ _ _ _ _ _ _ _ _ _ _ _ _ _ _ _ _ _ _ _ _ _ _ (by omega) (by omega) rfl (by simp [nc_lit])
    · simp -dsimp [Tryz.f96, ↓br_dec, h]
    · simp -dsimp [Tryz.f96, ↓br_dec, hn, h]
  · have hl' : ¬ ((es.length : Int) = (fs.length : Int)) := by omega
    have : es ≠ fs := fun h => hl (by rw [h])
    simp -dsimp [Tryz.f96, ↓br_dec, hl', this]
theorem same97 (call : FuncId → List AV → Option AV) (m : Nat)
    {x y : List AV} (hx : OkL lay137 x) (hy : OkL lay137 y) : evBody Tryz.prog call m Tryz.f97 [.agg x, .agg y] = some (.lit (.bool (decide (x = y)))) := by
  obtain ⟨c, r, rfl, hc, tx0⟩ := hx.cons_inv
  obtain ⟨x0, rfl, wx0⟩ := hc.int_inv
  obtain ⟨c, r, rfl, hc, tx1⟩ := tx0.cons_inv
  obtain ⟨x1, rfl⟩ := hc.bool_inv
  obtain ⟨c, r, rfl, hc, tx2⟩ := tx1.cons_inv
  obtain ⟨x2, rfl, wx2⟩ := hc.int_inv
  obtain ⟨c, r, rfl, hc, tx3⟩ := tx2.cons_inv
  obtain ⟨x3, rfl⟩ := hc.bool_inv
  have := tx3.nil_inv; subst this
  obtain ⟨c, r, rfl, hc, ty0⟩ := hy.cons_inv
  obtain ⟨y0, rfl, wy0⟩ := hc.int_inv
  obtain ⟨c, r, rfl, hc, ty1⟩ := ty0.cons_inv
  obtain ⟨y1, rfl⟩ := hc.bool_inv
  obtain ⟨c, r, rfl, hc, ty2⟩ := ty1.cons_inv
  obtain ⟨y2, rfl, wy2⟩ := hc.int_inv
  obtain ⟨c, r, rfl, hc, ty3⟩ := ty2.cons_inv
  obtain ⟨y3, rfl⟩ := hc.bool_inv
  have := ty3.nil_inv; subst this
  apply ends_eq
  rw [ev_body (c := _) rfl]
  rw [show entry Tryz.f97 [.agg [.lit (.int .i64 x0), .lit (.bool x1), .lit (.int .i64 x2), .lit (.bool x3)], .agg [.lit (.int .i64 y0), .lit (.bool y1), .lit (.int .i64 y2), .lit (.bool y3)]] = { s := [.agg [.lit (.int .i64 x0), .lit (.bool x1), .lit (.int .i64 x2), .lit (.bool x3)], .agg [.lit (.int .i64 y0), .lit (.bool y1), .lit (.int .i64 y2), .lit (.bool y3)], .undef, .undef, .undef, .undef, .undef, .undef, .undef, .undef, .undef, .undef, .undef, .undef, .undef, .undef, .undef, .undef, .undef, .undef, .undef, .undef, .undef, .undef, .undef], live := fun _ _ => none } from rfl]
  simp (config := {contextual := true, maxSteps := 3000000, dsimp := false}) [Tryz.f97, ↓br_dec, setCells, wx0, wy0, wx2, wy2]
  all_goals (try simp (config := {contextual := true}))
  all_goals grind
theorem same102 (call : FuncId → List AV → Option AV) (m : Nat)
    {x y : List AV} (hx : OkL lay146 x) (hy : OkL lay146 y) : evBody Tryz.prog call m Tryz.f102 [.agg x, .agg y] = some (.lit (.bool (decide (x = y)))) := by
  obtain ⟨c, r, rfl, hc, tx0⟩ := hx.cons_inv
  obtain ⟨x0, rfl, wx0⟩ := hc.str_inv
  obtain ⟨c, r, rfl, hc, tx1⟩ := tx0.cons_inv
  obtain ⟨x1, rfl, wx1⟩ := hc.str_inv
  have := tx1.nil_inv; subst this
  obtain ⟨c, r, rfl, hc, ty0⟩ := hy.cons_inv
  obtain ⟨y0, rfl, wy0⟩ := hc.str_inv
  obtain ⟨c, r, rfl, hc, ty1⟩ := ty0.cons_inv
  obtain ⟨y1, rfl, wy1⟩ := hc.str_inv
  have := ty1.nil_inv; subst this
  apply ends_eq
  rw [ev_body (c := _) rfl]
  rw [show entry Tryz.f102 [.agg [.lit (.string x0), .lit (.string x1)], .agg [.lit (.string y0), .lit (.string y1)]] = { s := [.agg [.lit (.string x0), .lit (.string x1)], .agg [.lit (.string y0), .lit (.string y1)], .undef, .undef, .undef, .undef, .undef, .undef, .undef, .undef, .undef, .undef, .undef, .undef, .undef], live := fun _ _ => none } from rfl]
  simp (config := {contextual := true, maxSteps := 3000000, dsimp := false}) [Tryz.f102, ↓br_dec, setCells, wx0, wy0, wx1, wy1]
  all_goals (try simp (config := {contextual := true}))
  all_goals grind
theorem same103 (call : FuncId → List AV → Option AV) (m : Nat)
    {x y : List AV} (hx : OkL lay106 x) (hy : OkL lay106 y) : evBody Tryz.prog call m Tryz.f103 [.agg x, .agg y] = some (.lit (.bool (decide (x = y)))) := by
  obtain ⟨c, r, rfl, hc, tx0⟩ := hx.cons_inv
  obtain ⟨x0, rfl, wx0⟩ := hc.int_inv
  obtain ⟨c, r, rfl, hc, tx1⟩ := tx0.cons_inv
  obtain ⟨x1, rfl, wx1⟩ := hc.int_inv
  have := tx1.nil_inv; subst this
  obtain ⟨c, r, rfl, hc, ty0⟩ := hy.cons_inv
  obtain ⟨y0, rfl, wy0⟩ := hc.int_inv
  obtain ⟨c, r, rfl, hc, ty1⟩ := ty0.cons_inv
  obtain ⟨y1, rfl, wy1⟩ := hc.int_inv
  have := ty1.nil_inv; subst this
  apply ends_eq
  rw [ev_body (c := _) rfl]
  rw [show entry Tryz.f103 [.agg [.lit (.int .i64 x0), .lit (.int .i64 x1)], .agg [.lit (.int .i64 y0), .lit (.int .i64 y1)]] = { s := [.agg [.lit (.int .i64 x0), .lit (.int .i64 x1)], .agg [.lit (.int .i64 y0), .lit (.int .i64 y1)], .undef, .undef, .undef, .undef, .undef, .undef, .undef, .undef, .undef, .undef, .undef, .undef, .undef], live := fun _ _ => none } from rfl]
  simp (config := {contextual := true, maxSteps := 3000000, dsimp := false}) [Tryz.f103, ↓br_dec, setCells, wx0, wy0, wx1, wy1]
  all_goals (try simp (config := {contextual := true}))
  all_goals grind
theorem same104 (call : FuncId → List AV → Option AV) (m : Nat)
    {x y : List AV} (hx : OkL lay139 x) (hy : OkL lay139 y) : evBody Tryz.prog call m Tryz.f104 [.agg x, .agg y] = some (.lit (.bool (decide (x = y)))) := by
  obtain ⟨c, r, rfl, hc, tx0⟩ := hx.cons_inv
  obtain ⟨x0, rfl, wx0⟩ := hc.int_inv
  obtain ⟨c, r, rfl, hc, tx1⟩ := tx0.cons_inv
  obtain ⟨x1, rfl⟩ := hc.bool_inv
  have := tx1.nil_inv; subst this
  obtain ⟨c, r, rfl, hc, ty0⟩ := hy.cons_inv
  obtain ⟨y0, rfl, wy0⟩ := hc.int_inv
  obtain ⟨c, r, rfl, hc, ty1⟩ := ty0.cons_inv
  obtain ⟨y1, rfl⟩ := hc.bool_inv
  have := ty1.nil_inv; subst this
  apply ends_eq
  rw [ev_body (c := _) rfl]
  rw [show entry Tryz.f104 [.agg [.lit (.int .i64 x0), .lit (.bool x1)], .agg [.lit (.int .i64 y0), .lit (.bool y1)]] = { s := [.agg [.lit (.int .i64 x0), .lit (.bool x1)], .agg [.lit (.int .i64 y0), .lit (.bool y1)], .undef, .undef, .undef, .undef, .undef, .undef, .undef, .undef, .undef, .undef, .undef, .undef, .undef], live := fun _ _ => none } from rfl]
  simp (config := {contextual := true, maxSteps := 3000000, dsimp := false}) [Tryz.f104, ↓br_dec, setCells, wx0, wy0]
  all_goals (try simp (config := {contextual := true}))
  all_goals grind
end Go.Proofs.YtlgdhdelhpklbaaGreat.EV
