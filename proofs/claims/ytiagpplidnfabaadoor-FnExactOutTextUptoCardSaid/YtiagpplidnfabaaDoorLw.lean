/- OutText: the law's own body. -/
import Derived.Test.YtiagpplidnfabaaDoorOe
set_option linter.unusedSimpArgs false
set_option linter.unusedVariables false
set_option maxRecDepth 20000
set_option maxHeartbeats 4000000
namespace Go.Proofs.YtiagpplidnfabaaDoor.EV
open Go.RowKit
open Classical
theorem dr3_0 : drawnA Tryd.prog (drawnIn Tryd.f3 0) = true := drawn_of (tab := [⟨some 23, [5], false, []⟩, ⟨some 24, [1], false, []⟩, ⟨some 25, [24], false, [1]⟩, ⟨some 26, [23, 25], false, [0, 2, 2]⟩, ⟨some 27, [26], false, [3]⟩]) follows_mixed (by kernel_rfl) (by kernel_rfl)
theorem law (m : Nat) {x : List AV} (hx : OkL lay29 x) : evBody Tryd.prog (callR Tryd.prog Rz) m Tryd.f3 [.agg x] = some (.lit (.bool true)) := by
  obtain ⟨r1, e1, l1, u1⟩ := r_sz (p4 x 1048576 hx (by omega) (by omega)) (fun _ => rfl)
  have hct := r_to (p6 x hx)
  have h5 := r_out (k := 5) (p5 (x := x) hx) (by decide)
  have h7 := r_out (k := 7) (p7 (x := x) hx) (by decide)
  have h9 : callR Tryd.prog Rz 9 [.agg x, .agg x] = some (.lit (.bool true)) := by rw [r_agg2 (p9 x x hx hx)]; simp
  have h8 : ∀ (c : Int) (s : ByteArray), callR Tryd.prog Rz 8 [.agg [.lit (.int .i64 c), .lit (.string s)], .agg [.lit (.int .i64 c), .lit (.string s)]] = some (.lit (.bool true)) := by
    intro c s
    have hp : Pure Tryd.prog 8 [.agg [.lit (.int .i64 c), .lit (.string s)], .agg [.lit (.int .i64 c), .lit (.string s)]] (.lit (.bool (decide (([.lit (.int .i64 c), .lit (.string s)] : List AV) = [.lit (.int .i64 c), .lit (.string s)])))) := by
      refine pure_of (R := Rz) Tryd.func8 ⟨0, ?_⟩
      apply ends_eq
      rw [ev_body (c := _) rfl, show entry Tryd.f8 [.agg [.lit (.int .i64 c), .lit (.string s)], .agg [.lit (.int .i64 c), .lit (.string s)]] = { s := [.agg [.lit (.int .i64 c), .lit (.string s)], .agg [.lit (.int .i64 c), .lit (.string s)], .undef, .undef, .undef, .undef, .undef, .undef, .undef, .undef, .undef, .undef, .undef, .undef, .undef], live := fun _ _ => none } from rfl]
      simp -dsimp [Tryd.f8, ↓br_dec]
    rw [r_agg2 hp]; simp
  obtain ⟨c, r, rfl, hc, tx0⟩ := hx.cons_inv
  obtain ⟨x0, rfl, wx0⟩ := hc.int_inv
  obtain ⟨c, r, rfl, hc, tx1⟩ := tx0.cons_inv
  obtain ⟨x1, rfl, wx1⟩ := hc.int_inv
  obtain ⟨c, r, rfl, hc, tx2⟩ := tx1.cons_inv
  obtain ⟨x2, rfl, wx2⟩ := hc.str_inv
  obtain ⟨c, r, rfl, hc, tx3⟩ := tx2.cons_inv
  obtain ⟨x3, rfl, wx3⟩ := hc.int_inv
  obtain ⟨c, r, rfl, hc, tx4⟩ := tx3.cons_inv
  obtain ⟨x4, rfl, wx4⟩ := hc.sl_inv
  obtain ⟨c, r, rfl, hc, tx5⟩ := tx4.cons_inv
  obtain ⟨x5, rfl, wx5⟩ := hc.sl_inv
  obtain ⟨c, r, rfl, hc, tx6⟩ := tx5.cons_inv
  obtain ⟨x6, rfl, wx6⟩ := hc.str_inv
  obtain ⟨c, r, rfl, hc, tx7⟩ := tx6.cons_inv
  obtain ⟨x7, rfl, wx7⟩ := hc.str_inv
  obtain ⟨c, r, rfl, hc, tx8⟩ := tx7.cons_inv
  obtain ⟨x8, rfl, wx8⟩ := hc.str_inv
  obtain ⟨c, r, rfl, hc, tx9⟩ := tx8.cons_inv
  obtain ⟨x9, rfl, wx9⟩ := hc.sl_inv
  have := tx9.nil_inv; subst this
  simp only [outR] at h5 h7
  apply ends_eq
  have dr0 := dr3_0
  simp only [drawnIn, drawnsOf, Tryd.f3, List.getD_cons_succ, List.getD_cons_zero, List.nil_append, List.append_nil, List.cons_append] at dr0
  rw [ev_body (c := _) rfl, show entry Tryd.f3 [.agg [.lit (.int .i64 x0), .lit (.int .i64 x1), .lit (.string x2), .lit (.int .i64 x3), .sl .sh x4, .sl .sh x5, .lit (.string x6), .lit (.string x7), .lit (.string x8), .sl .sh x9]] = { s := [.agg [.lit (.int .i64 x0), .lit (.int .i64 x1), .lit (.string x2), .lit (.int .i64 x3), .sl .sh x4, .sl .sh x5, .lit (.string x6), .lit (.string x7), .lit (.string x8), .sl .sh x9], .undef, .undef, .undef, .undef, .undef, .undef, .undef, .undef, .undef, .undef, .undef, .undef, .undef, .undef, .undef, .undef, .undef, .undef, .undef, .undef, .undef, .undef, .undef, .undef, .undef, .undef, .undef], live := fun _ _ => none } from rfl]
  simp -dsimp [Tryd.f3, ↓ev_drawn dr0, setCells, hct, e1]
  refine br_i (fun h => ?_) (fun h => ?_)
  · simp -dsimp [Tryd.f3]
  cases hok : outOk x0 x1 x3 with
  | true =>
    simp only [hok, if_true] at h5 h7
    simp -dsimp [Tryd.f3, ↓ev_drawn dr0, setCells, hct, h5, h7, h8, h9, ↓br_dec]
  | false =>
    simp only [hok, Bool.false_eq_true, if_false] at h5 h7
    simp -dsimp [Tryd.f3, ↓ev_drawn dr0, setCells, hct, h5, h7, h8, h9, ↓br_dec]
end Go.Proofs.YtiagpplidnfabaaDoor.EV
