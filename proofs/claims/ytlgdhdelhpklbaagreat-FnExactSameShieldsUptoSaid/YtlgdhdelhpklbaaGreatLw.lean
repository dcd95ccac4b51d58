/- The law's own body. -/
import Derived.Test.YtlgdhdelhpklbaaGreatAs
set_option maxRecDepth 20000
set_option maxHeartbeats 4000000
set_option linter.unusedSimpArgs false
set_option linter.unusedVariables false
namespace Go.Proofs.YtlgdhdelhpklbaaGreat.EV
open Go.RowKit
open Classical
theorem dr3_0 : drawnA Tryz.prog (drawnIn Tryz.f3 0) = true := drawn_of (tab := [⟨some 20, [2], false, []⟩, ⟨some 21, [20], false, [0]⟩, ⟨some 22, [3], false, []⟩, ⟨some 23, [22], false, [2, 1]⟩, ⟨some 24, [21, 23], false, [1, 3, 3]⟩, ⟨some 6, [24], false, [4, 4, 0, 1, 2, 3, 4]⟩]) follows_mixed (by kernel_rfl) (by kernel_rfl)
theorem dr3_1 : drawnA Tryz.prog (drawnIn Tryz.f3 1) = true := drawn_of (tab := [⟨some 35, [7], false, []⟩, ⟨some 36, [2], false, []⟩, ⟨some 37, [36], false, [1]⟩, ⟨some 38, [35, 37], false, [0, 2, 2]⟩, ⟨some 39, [38], false, [3]⟩]) follows_mixed (by kernel_rfl) (by kernel_rfl)
theorem dr3_2 : drawnA Tryz.prog (drawnIn Tryz.f3 2) = true := drawn_of (tab := [⟨some 40, [8], false, []⟩, ⟨some 41, [3], false, []⟩, ⟨some 42, [41], false, [1]⟩, ⟨some 43, [40, 42], false, [0, 2, 2]⟩, ⟨some 44, [43], false, [3]⟩]) follows_mixed (by kernel_rfl) (by kernel_rfl)
theorem law (m : Nat) {x y : List AV} (hx : OkL lay35 x) (hy : OkL lay35 y) : evBody Tryz.prog (callR Tryz.prog Rz) m Tryz.f3 [.agg x, .agg y] = some (.lit (.bool true)) := by
  obtain ⟨r1, e1, l1, u1⟩ := r_sz (p4 x 1048576 hx (by omega) (by omega)) (fun _ => rfl)
  have hc5 : ∀ x y, OkL lay48 x → OkL lay48 y → callR Tryz.prog Rz 5 [.agg x, .agg y] = some (.lit (.bool (decide (x = y)))) := fun x y h h' => r_agg2 (p5 x y h h')
  have hc7 : ∀ x y, OkL lay48 x → OkL lay48 y → callR Tryz.prog Rz 7 [.agg x, .agg y] = some (.lit (.bool (decide (x = y)))) := fun x y h h' => r_agg2 (p7 x y h h')
  have hc8 : ∀ x y, OkL lay48 x → OkL lay48 y → callR Tryz.prog Rz 8 [.agg x, .agg y] = some (.lit (.bool (decide (x = y)))) := fun x y h h' => r_agg2 (p8 x y h h')
  have hct : ∀ x, OkL lay35 x → callR Tryz.prog Rz 6 [.agg x] = some (.agg (x.map ex1)) := fun x h => r_to (p6 x h)
  have hs2 : 0 ≤ r1 → ∃ r, callR Tryz.prog Rz 4 [.agg y, .lit (.int .i64 r1)] = some (.lit (.int .i64 r)) ∧ -1 ≤ r ∧ r ≤ 1048576 := fun h => r_sz (p4 y r1 hy h u1) (fun _ => rfl)
  obtain ⟨c, r, rfl, hc, tx0⟩ := hx.cons_inv
  obtain ⟨x0, rfl, wx0⟩ := hc.int_inv
  obtain ⟨c, r, rfl, hc, tx1⟩ := tx0.cons_inv
  obtain ⟨x1, rfl, wx1⟩ := hc.int_inv
  obtain ⟨c, r, rfl, hc, tx2⟩ := tx1.cons_inv
  obtain ⟨x2, rfl, wx2⟩ := hc.int_inv
  obtain ⟨c, r, rfl, hc, tx3⟩ := tx2.cons_inv
  obtain ⟨x3, rfl, wx3⟩ := hc.int_inv
  obtain ⟨c, r, rfl, hc, tx4⟩ := tx3.cons_inv
  obtain ⟨x4, rfl, wx4⟩ := hc.int_inv
  obtain ⟨c, r, rfl, hc, tx5⟩ := tx4.cons_inv
  obtain ⟨x5, rfl, wx5⟩ := hc.int_inv
  obtain ⟨c, r, rfl, hc, tx6⟩ := tx5.cons_inv
  obtain ⟨x6, rfl, wx6⟩ := hc.int_inv
  obtain ⟨c, r, rfl, hc, tx7⟩ := tx6.cons_inv
  obtain ⟨x7, rfl, wx7⟩ := hc.int_inv
  obtain ⟨c, r, rfl, hc, tx8⟩ := tx7.cons_inv
  obtain ⟨x8, rfl, wx8⟩ := hc.sl_inv
  obtain ⟨c, r, rfl, hc, tx9⟩ := tx8.cons_inv
  obtain ⟨x9, rfl, wx9⟩ := hc.int_inv
  obtain ⟨c, r, rfl, hc, tx10⟩ := tx9.cons_inv
  obtain ⟨x10, rfl, wx10⟩ := hc.int_inv
  obtain ⟨c, r, rfl, hc, tx11⟩ := tx10.cons_inv
  obtain ⟨x11, rfl, wx11⟩ := hc.int_inv
  obtain ⟨c, r, rfl, hc, tx12⟩ := tx11.cons_inv
  obtain ⟨x12, rfl, wx12⟩ := hc.int_inv
  obtain ⟨c, r, rfl, hc, tx13⟩ := tx12.cons_inv
  obtain ⟨x13, rfl, wx13⟩ := hc.int_inv
  obtain ⟨c, r, rfl, hc, tx14⟩ := tx13.cons_inv
  obtain ⟨x14, rfl, wx14⟩ := hc.int_inv
  obtain ⟨c, r, rfl, hc, tx15⟩ := tx14.cons_inv
  obtain ⟨x15, rfl, wx15⟩ := hc.int_inv
  obtain ⟨c, r, rfl, hc, tx16⟩ := tx15.cons_inv
  obtain ⟨x16, rfl, wx16⟩ := hc.int_inv
  obtain ⟨c, r, rfl, hc, tx17⟩ := tx16.cons_inv
  obtain ⟨x17, rfl, wx17⟩ := hc.int_inv
  obtain ⟨c, r, rfl, hc, tx18⟩ := tx17.cons_inv
  obtain ⟨x18, rfl, wx18⟩ := hc.int_inv
  obtain ⟨c, r, rfl, hc, tx19⟩ := tx18.cons_inv
  obtain ⟨x19, rfl, wx19⟩ := hc.int_inv
  obtain ⟨c, r, rfl, hc, tx20⟩ := tx19.cons_inv
  obtain ⟨x20, rfl, wx20⟩ := hc.int_inv
  obtain ⟨c, r, rfl, hc, tx21⟩ := tx20.cons_inv
  obtain ⟨x21, rfl, wx21⟩ := hc.sl_inv
  obtain ⟨c, r, rfl, hc, tx22⟩ := tx21.cons_inv
  obtain ⟨x22, rfl, wx22⟩ := hc.sl_inv
  obtain ⟨c, r, rfl, hc, tx23⟩ := tx22.cons_inv
  obtain ⟨x23, rfl, wx23⟩ := hc.sl_inv
  obtain ⟨c, r, rfl, hc, tx24⟩ := tx23.cons_inv
  obtain ⟨x24, rfl, wx24⟩ := hc.sl_inv
  have := tx24.nil_inv; subst this
  obtain ⟨c, r, rfl, hc, ty0⟩ := hy.cons_inv
  obtain ⟨y0, rfl, wy0⟩ := hc.int_inv
  obtain ⟨c, r, rfl, hc, ty1⟩ := ty0.cons_inv
  obtain ⟨y1, rfl, wy1⟩ := hc.int_inv
  obtain ⟨c, r, rfl, hc, ty2⟩ := ty1.cons_inv
  obtain ⟨y2, rfl, wy2⟩ := hc.int_inv
  obtain ⟨c, r, rfl, hc, ty3⟩ := ty2.cons_inv
  obtain ⟨y3, rfl, wy3⟩ := hc.int_inv
  obtain ⟨c, r, rfl, hc, ty4⟩ := ty3.cons_inv
  obtain ⟨y4, rfl, wy4⟩ := hc.int_inv
  obtain ⟨c, r, rfl, hc, ty5⟩ := ty4.cons_inv
  obtain ⟨y5, rfl, wy5⟩ := hc.int_inv
  obtain ⟨c, r, rfl, hc, ty6⟩ := ty5.cons_inv
  obtain ⟨y6, rfl, wy6⟩ := hc.int_inv
  obtain ⟨c, r, rfl, hc, ty7⟩ := ty6.cons_inv
  obtain ⟨y7, rfl, wy7⟩ := hc.int_inv
  obtain ⟨c, r, rfl, hc, ty8⟩ := ty7.cons_inv
  obtain ⟨y8, rfl, wy8⟩ := hc.sl_inv
  obtain ⟨c, r, rfl, hc, ty9⟩ := ty8.cons_inv
  obtain ⟨y9, rfl, wy9⟩ := hc.int_inv
  obtain ⟨c, r, rfl, hc, ty10⟩ := ty9.cons_inv
  obtain ⟨y10, rfl, wy10⟩ := hc.int_inv
  obtain ⟨c, r, rfl, hc, ty11⟩ := ty10.cons_inv
  obtain ⟨y11, rfl, wy11⟩ := hc.int_inv
  obtain ⟨c, r, rfl, hc, ty12⟩ := ty11.cons_inv
  obtain ⟨y12, rfl, wy12⟩ := hc.int_inv
  obtain ⟨c, r, rfl, hc, ty13⟩ := ty12.cons_inv
  obtain ⟨y13, rfl, wy13⟩ := hc.int_inv
  obtain ⟨c, r, rfl, hc, ty14⟩ := ty13.cons_inv
  obtain ⟨y14, rfl, wy14⟩ := hc.int_inv
  obtain ⟨c, r, rfl, hc, ty15⟩ := ty14.cons_inv
  obtain ⟨y15, rfl, wy15⟩ := hc.int_inv
  obtain ⟨c, r, rfl, hc, ty16⟩ := ty15.cons_inv
  obtain ⟨y16, rfl, wy16⟩ := hc.int_inv
  obtain ⟨c, r, rfl, hc, ty17⟩ := ty16.cons_inv
  obtain ⟨y17, rfl, wy17⟩ := hc.int_inv
  obtain ⟨c, r, rfl, hc, ty18⟩ := ty17.cons_inv
  obtain ⟨y18, rfl, wy18⟩ := hc.int_inv
  obtain ⟨c, r, rfl, hc, ty19⟩ := ty18.cons_inv
  obtain ⟨y19, rfl, wy19⟩ := hc.int_inv
  obtain ⟨c, r, rfl, hc, ty20⟩ := ty19.cons_inv
  obtain ⟨y20, rfl, wy20⟩ := hc.int_inv
  obtain ⟨c, r, rfl, hc, ty21⟩ := ty20.cons_inv
  obtain ⟨y21, rfl, wy21⟩ := hc.sl_inv
  obtain ⟨c, r, rfl, hc, ty22⟩ := ty21.cons_inv
  obtain ⟨y22, rfl, wy22⟩ := hc.sl_inv
  obtain ⟨c, r, rfl, hc, ty23⟩ := ty22.cons_inv
  obtain ⟨y23, rfl, wy23⟩ := hc.sl_inv
  obtain ⟨c, r, rfl, hc, ty24⟩ := ty23.cons_inv
  obtain ⟨y24, rfl, wy24⟩ := hc.sl_inv
  have := ty24.nil_inv; subst this
  have dr0 := dr3_0
  simp only [drawnIn, drawnsOf, Tryz.f3, List.getD_cons_succ, List.getD_cons_zero, List.nil_append, List.append_nil, List.cons_append] at dr0
  have dr1 := dr3_1
  simp only [drawnIn, drawnsOf, Tryz.f3, List.getD_cons_succ, List.getD_cons_zero, List.nil_append, List.append_nil, List.cons_append] at dr1
  have dr2 := dr3_2
  simp only [drawnIn, drawnsOf, Tryz.f3, List.getD_cons_succ, List.getD_cons_zero, List.nil_append, List.append_nil, List.cons_append] at dr2
  apply ends_eq
  rw [ev_body (c := _) rfl]
  rw [show entry Tryz.f3 [.agg [.lit (.int .i64 x0), .lit (.int .i64 x1), .lit (.int .i64 x2), .lit (.int .i64 x3), .lit (.int .i64 x4), .lit (.int .i64 x5), .lit (.int .i64 x6), .lit (.int .i64 x7), .sl .sh x8, .lit (.int .i64 x9), .lit (.int .i64 x10), .lit (.int .i64 x11), .lit (.int .i64 x12), .lit (.int .i64 x13), .lit (.int .i64 x14), .lit (.int .i64 x15), .lit (.int .i64 x16), .lit (.int .i64 x17), .lit (.int .i64 x18), .lit (.int .i64 x19), .lit (.int .i64 x20), .sl .sh x21, .sl .sh x22, .sl .sh x23, .sl .sh x24], .agg [.lit (.int .i64 y0), .lit (.int .i64 y1), .lit (.int .i64 y2), .lit (.int .i64 y3), .lit (.int .i64 y4), .lit (.int .i64 y5), .lit (.int .i64 y6), .lit (.int .i64 y7), .sl .sh y8, .lit (.int .i64 y9), .lit (.int .i64 y10), .lit (.int .i64 y11), .lit (.int .i64 y12), .lit (.int .i64 y13), .lit (.int .i64 y14), .lit (.int .i64 y15), .lit (.int .i64 y16), .lit (.int .i64 y17), .lit (.int .i64 y18), .lit (.int .i64 y19), .lit (.int .i64 y20), .sl .sh y21, .sl .sh y22, .sl .sh y23, .sl .sh y24]] = { s := [.agg [.lit (.int .i64 x0), .lit (.int .i64 x1), .lit (.int .i64 x2), .lit (.int .i64 x3), .lit (.int .i64 x4), .lit (.int .i64 x5), .lit (.int .i64 x6), .lit (.int .i64 x7), .sl .sh x8, .lit (.int .i64 x9), .lit (.int .i64 x10), .lit (.int .i64 x11), .lit (.int .i64 x12), .lit (.int .i64 x13), .lit (.int .i64 x14), .lit (.int .i64 x15), .lit (.int .i64 x16), .lit (.int .i64 x17), .lit (.int .i64 x18), .lit (.int .i64 x19), .lit (.int .i64 x20), .sl .sh x21, .sl .sh x22, .sl .sh x23, .sl .sh x24], .agg [.lit (.int .i64 y0), .lit (.int .i64 y1), .lit (.int .i64 y2), .lit (.int .i64 y3), .lit (.int .i64 y4), .lit (.int .i64 y5), .lit (.int .i64 y6), .lit (.int .i64 y7), .sl .sh y8, .lit (.int .i64 y9), .lit (.int .i64 y10), .lit (.int .i64 y11), .lit (.int .i64 y12), .lit (.int .i64 y13), .lit (.int .i64 y14), .lit (.int .i64 y15), .lit (.int .i64 y16), .lit (.int .i64 y17), .lit (.int .i64 y18), .lit (.int .i64 y19), .lit (.int .i64 y20), .sl .sh y21, .sl .sh y22, .sl .sh y23, .sl .sh y24], .undef, .undef, .undef, .undef, .undef, .undef, .undef, .undef, .undef, .undef, .undef, .undef, .undef, .undef, .undef, .undef, .undef, .undef, .undef, .undef, .undef, .undef, .undef, .undef, .undef, .undef, .undef, .undef, .undef, .undef, .undef, .undef, .undef, .undef, .undef, .undef, .undef, .undef, .undef, .undef, .undef, .undef, .undef], live := fun _ _ => none } from rfl]
  simp -dsimp [Tryz.f3, ↓ev_drawn dr0, ↓ev_drawn dr1, ↓ev_drawn dr2, setCells, hct, hc5, hc7, hc8, wx0, wy0, wx1, wy1, wx2, wy2, wx3, wy3, wx4, wy4, wx5, wy5, wx6, wy6, wx7, wy7, wx8, wy8, wx9, wy9, wx10, wy10, wx11, wy11, wx12, wy12, wx13, wy13, wx14, wy14, wx15, wy15, wx16, wy16, wx17, wy17, wx18, wy18, wx19, wy19, wx20, wy20, wx21, wy21, wx22, wy22, wx23, wy23, wx24, wy24, e1]
  refine br_i (fun h => ?_) (fun h => ?_)
  · simp -dsimp [Tryz.f3, ↓ev_drawn dr0, ↓ev_drawn dr1, ↓ev_drawn dr2, setCells, hct, hc5, hc7, hc8, wx0, wy0, wx1, wy1, wx2, wy2, wx3, wy3, wx4, wy4, wx5, wy5, wx6, wy6, wx7, wy7, wx8, wy8, wx9, wy9, wx10, wy10, wx11, wy11, wx12, wy12, wx13, wy13, wx14, wy14, wx15, wy15, wx16, wy16, wx17, wy17, wx18, wy18, wx19, wy19, wx20, wy20, wx21, wy21, wx22, wy22, wx23, wy23, wx24, wy24]
  obtain ⟨r2, e2, l2, u2⟩ := hs2 (by omega)
  simp -dsimp [Tryz.f3, ↓ev_drawn dr0, ↓ev_drawn dr1, ↓ev_drawn dr2, setCells, hct, hc5, hc7, hc8, wx0, wy0, wx1, wy1, wx2, wy2, wx3, wy3, wx4, wy4, wx5, wy5, wx6, wy6, wx7, wy7, wx8, wy8, wx9, wy9, wx10, wy10, wx11, wy11, wx12, wy12, wx13, wy13, wx14, wy14, wx15, wy15, wx16, wy16, wx17, wy17, wx18, wy18, wx19, wy19, wx20, wy20, wx21, wy21, wx22, wy22, wx23, wy23, wx24, wy24, e2]
  refine br_i (fun h => ?_) (fun h => ?_)
  · simp -dsimp [Tryz.f3, ↓ev_drawn dr0, ↓ev_drawn dr1, ↓ev_drawn dr2, setCells, hct, hc5, hc7, hc8, wx0, wy0, wx1, wy1, wx2, wy2, wx3, wy3, wx4, wy4, wx5, wy5, wx6, wy6, wx7, wy7, wx8, wy8, wx9, wy9, wx10, wy10, wx11, wy11, wx12, wy12, wx13, wy13, wx14, wy14, wx15, wy15, wx16, wy16, wx17, wy17, wx18, wy18, wx19, wy19, wx20, wy20, wx21, wy21, wx22, wy22, wx23, wy23, wx24, wy24]
  simp -dsimp [Tryz.f3, ↓ev_drawn dr0, ↓ev_drawn dr1, ↓ev_drawn dr2, setCells, hct, hc5, hc7, hc8, wx0, wy0, wx1, wy1, wx2, wy2, wx3, wy3, wx4, wy4, wx5, wy5, wx6, wy6, wx7, wy7, wx8, wy8, wx9, wy9, wx10, wy10, wx11, wy11, wx12, wy12, wx13, wy13, wx14, wy14, wx15, wy15, wx16, wy16, wx17, wy17, wx18, wy18, wx19, wy19, wx20, wy20, wx21, wy21, wx22, wy22, wx23, wy23, wx24, wy24, ↓br_dec]
end Go.Proofs.YtlgdhdelhpklbaaGreat.EV
