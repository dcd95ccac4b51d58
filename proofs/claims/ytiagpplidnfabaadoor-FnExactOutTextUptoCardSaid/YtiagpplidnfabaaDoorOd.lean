/- OutText: the reference's text. -/
import Derived.Test.YtiagpplidnfabaaDoorOc
set_option linter.unusedSimpArgs false
set_option linter.unusedVariables false
set_option maxHeartbeats 4000000
set_option maxRecDepth 20000
namespace Go.Proofs.YtiagpplidnfabaaDoor.EV
open Go.RowKit
open Classical
theorem dr12_0 : drawnA Tryd.prog (drawnIn Tryd.f12 0) = true := drawn_of (tab := [⟨some 26, [0], false, []⟩, ⟨some 27, [26], false, [0]⟩, ⟨some 28, [27], false, [1]⟩, ⟨some 29, [28], false, [2]⟩, ⟨some 30, [29], false, [3]⟩, ⟨some 31, [30], false, [4]⟩, ⟨some 32, [31], false, [5]⟩, ⟨some 33, [0], false, []⟩, ⟨some 34, [33], false, [7]⟩, ⟨some 35, [34], false, [8]⟩, ⟨some 36, [35], false, [9]⟩, ⟨some 37, [32, 36], false, [6, 10]⟩, ⟨some 38, [37], false, [11]⟩, ⟨some 39, [0], false, []⟩, ⟨some 40, [39], false, [13]⟩, ⟨some 41, [40], false, [14]⟩, ⟨some 42, [41], false, [15]⟩, ⟨some 43, [42], false, [16]⟩, ⟨some 44, [43], false, [17, 4]⟩, ⟨some 45, [38, 44], false, [12, 18]⟩, ⟨some 46, [45], false, [19]⟩, ⟨some 47, [0], false, []⟩, ⟨some 48, [47], false, [21]⟩, ⟨some 49, [48], false, [22]⟩, ⟨some 50, [49], false, [23]⟩, ⟨some 51, [50], false, [24]⟩, ⟨some 52, [51], false, [25]⟩, ⟨some 53, [52], false, [26, 18]⟩, ⟨some 54, [46, 53], false, [20, 27]⟩, ⟨some 2, [54], false, [28, 27, 0, 1, 2, 3, 4, 5, 6, 7, 8, 9, 10, 11, 12, 13, 14, 15, 16, 17, 18, 19, 20, 21, 22, 23, 24, 25, 26, 27, 28]⟩, ⟨some 3, [], false, [29, 0, 1, 2, 3, 4, 5, 6, 7, 8, 9, 10, 11, 12, 13, 14, 15, 16, 17, 18, 19, 20, 21, 22, 23, 24, 25, 26, 27, 28, 29]⟩]) follows_mixed (by kernel_rfl) (by kernel_rfl)
theorem dr12_1 : drawnA Tryd.prog (drawnIn Tryd.f12 1) = true := drawn_of (tab := [⟨some 57, [0], false, []⟩, ⟨some 58, [57], false, [0]⟩, ⟨some 59, [58], false, [1]⟩, ⟨some 60, [59], false, [2]⟩, ⟨some 61, [60], false, [3]⟩, ⟨some 62, [61], false, [4]⟩, ⟨some 63, [62], false, [5]⟩, ⟨some 64, [0], false, []⟩, ⟨some 65, [64], false, [7]⟩, ⟨some 66, [65], false, [8]⟩, ⟨some 67, [66], false, [9]⟩, ⟨some 68, [67], false, [10]⟩, ⟨some 69, [63, 68], false, [6, 11]⟩, ⟨some 70, [0], false, []⟩, ⟨some 71, [70], false, [13]⟩, ⟨some 72, [71], false, [14]⟩, ⟨some 73, [72], false, [15]⟩, ⟨some 74, [73], false, [16]⟩, ⟨some 75, [69, 74], false, [12, 17]⟩, ⟨some 4, [75], false, [18, 4, 0, 1, 2, 3, 4, 5, 6, 7, 8, 9, 10, 11, 12, 13, 14, 15, 16, 17, 18]⟩]) follows_mixed (by kernel_rfl) (by kernel_rfl)
theorem ev12 (call : FuncId → List AV → Option AV) (m : Nat) (h23 : ∀ n, call 23 [.lit (.int .i64 n)] = some (.lit (.bool (isTm n)))) (h24 : ∀ n lo hi, call 24 [.lit (.int .i64 n), .lit (.int .i64 lo), .lit (.int .i64 hi)] = some (.lit (.bool (decide (lo ≤ n ∧ n ≤ hi)))))
    (h25 : ∀ n, 0 ≤ n → n ≤ 9223372036854775807 → call 25 [.lit (.int .i64 n)] = some (.lit (.string (dig n)))) (h26 : ∀ es nm, OkR lay71 es → nm.size ≤ 1073741824 → ∃ t, call 26 [.sl .sh es, .lit (.string nm)] = some (.tup [.lit (.string t), .lit (.bool (anyAl nm es))]))
    {x : List AV} (hx : OkL lay40 x) : evBody Tryd.prog call m Tryd.f12 [.eptr x] = some (outP x) := by
  obtain ⟨c, r, rfl, hc, tx0⟩ := hx.cons_inv
  obtain ⟨x0, rfl, wx0⟩ := hc.int_inv
  obtain ⟨c, r, rfl, hc, tx1⟩ := tx0.cons_inv
  obtain ⟨x1, rfl, wx1⟩ := hc.int_inv
  obtain ⟨c, r, rfl, hc, tx2⟩ := tx1.cons_inv
  obtain ⟨x2, rfl, wx2⟩ := hc.str_inv
  obtain ⟨c, r, rfl, hc, tx3⟩ := tx2.cons_inv
  obtain ⟨x3, rfl, wx3⟩ := hc.int_inv
  obtain ⟨c, r, rfl, hc, tx4⟩ := tx3.cons_inv
  obtain ⟨x4, rfl, wx4⟩ := hc.sl_inv
  obtain ⟨c, r, rfl, hc, tx5⟩ := tx4.cons_inv
  obtain ⟨x5, rfl, wx5⟩ := hc.sl_inv
  obtain ⟨c, r, rfl, hc, tx6⟩ := tx5.cons_inv
  obtain ⟨x6, rfl, wx6⟩ := hc.str_inv
  obtain ⟨c, r, rfl, hc, tx7⟩ := tx6.cons_inv
  obtain ⟨x7, rfl, wx7⟩ := hc.str_inv
  obtain ⟨c, r, rfl, hc, tx8⟩ := tx7.cons_inv
  obtain ⟨x8, rfl, wx8⟩ := hc.str_inv
  obtain ⟨c, r, rfl, hc, tx9⟩ := tx8.cons_inv
  obtain ⟨x9, rfl, wx9⟩ := hc.sl_inv
  have := tx9.nil_inv; subst this
  obtain ⟨t, h26⟩ := h26 x9 ⟨#[105, 102, 45, 110, 111, 110, 101, 45, 109, 97, 116, 99, 104]⟩ wx9 (by decide +kernel)
  apply ends_eq
  have dr0 := dr12_0
  simp only [drawnIn, drawnsOf, Tryd.f12, List.getD_cons_succ, List.getD_cons_zero, List.nil_append, List.append_nil, List.cons_append] at dr0
  have dr1 := dr12_1
  simp only [drawnIn, drawnsOf, Tryd.f12, List.getD_cons_succ, List.getD_cons_zero, List.nil_append, List.append_nil, List.cons_append] at dr1
  rw [ev_body (c := _) rfl, show entry Tryd.f12 [.eptr [.lit (.int .i64 x0), .lit (.int .i64 x1), .lit (.string x2), .lit (.int .i64 x3), .sl .sh x4, .sl .sh x5, .lit (.string x6), .lit (.string x7), .lit (.string x8), .sl .sh x9]] = { s := [.eptr [.lit (.int .i64 x0), .lit (.int .i64 x1), .lit (.string x2), .lit (.int .i64 x3), .sl .sh x4, .sl .sh x5, .lit (.string x6), .lit (.string x7), .lit (.string x8), .sl .sh x9], .undef, .undef, .undef, .undef, .undef, .undef, .undef, .undef, .undef, .undef, .undef, .undef, .undef, .undef, .undef, .undef, .undef, .undef, .undef, .undef, .undef, .undef, .undef, .undef, .undef, .undef, .undef, .undef, .undef, .undef, .undef, .undef, .undef, .undef, .undef, .undef, .undef, .undef, .undef, .undef, .undef, .undef, .undef, .undef, .undef, .undef, .undef, .undef, .undef, .undef, .undef, .undef, .undef, .undef, .undef, .undef, .undef, .undef, .undef, .undef, .undef, .undef, .undef, .undef, .undef, .undef, .undef, .undef, .undef, .undef, .undef, .undef, .undef, .undef, .undef, .undef, .undef, .undef, .undef, .undef, .undef, .undef, .undef, .undef, .undef, .undef, .undef, .undef], live := fun _ _ => none } from rfl]
  simp only [outP]
  by_cases hi : isTm x1 = true
  · have hid : 0 ≤ x1 ∧ x1 ≤ 1000000000000000 := by simpa [isTm] using hi
    have e1 := h25 x1 (by omega) (by omega)
    have z1 := dig_size x1 (by omega) (by omega)
    by_cases hk1 : x0 = 1
    · subst hk1
      by_cases hs : 0 ≤ x3 ∧ x3 ≤ 999
      · have hok : outOk 1 x1 x3 = true := by simp [outOk, hi, hs]
        have e2 := h25 x3 (by omega) (by omega)
        have e3 := h25 (x5.length : Int) (by omega) (by have := wx5.1; omega)
        have z2 := dig_size x3 (by omega) (by omega)
        have z3 := dig_size (x5.length : Int) (by omega) (by have := wx5.1; omega)
        simp -dsimp (disch := first | rfl | exact Or.inr rfl | exact Or.inl rfl | omega | (simp only [ByteArray.size_append, bsz, List.size_toArray, List.length_cons, List.length_nil]; omega)) [Tryd.f12, hi, hs.1, hs.2, hok, h23, h24, e1, e2, e3, binA_sadd, outT, finC, ↓br_dec, ↓ev_drawn dr0, ↓ev_drawn dr1]
      · have hok : outOk 1 x1 x3 = false := by simp [outOk, hi, hs]
        have hs' : (decide (0 ≤ x3 ∧ x3 ≤ 999)) = false := by simpa using hs
        have h24 := h24 x3 0 999
        rw [hs'] at h24
        simp -dsimp (disch := first | rfl | exact Or.inr rfl | exact Or.inl rfl | omega | (simp only [ByteArray.size_append, bsz, List.size_toArray, List.length_cons, List.length_nil]; omega)) [Tryd.f12, hi, hok, h23, h24, finC, ↓br_dec]
    · by_cases hk2 : x0 = 2
      · subst hk2
        have hok : outOk 2 x1 x3 = true := by simp [outOk, hi]
        cases ha : anyAl ⟨#[105, 102, 45, 110, 111, 110, 101, 45, 109, 97, 116, 99, 104]⟩ x9 with
        | true =>
          rw [ha] at h26
          simp -dsimp (disch := first | rfl | exact Or.inr rfl | exact Or.inl rfl | omega | (simp only [ByteArray.size_append, bsz, List.size_toArray, List.length_cons, List.length_nil]; omega)) [Tryd.f12, hi, hok, h23, h24, h26, e1, binA_sadd, outT, ha, finC, ↓br_dec, ↓ev_drawn dr0, ↓ev_drawn dr1]
        | false =>
          rw [ha] at h26
          simp -dsimp (disch := first | rfl | exact Or.inr rfl | exact Or.inl rfl | omega | (simp only [ByteArray.size_append, bsz, List.size_toArray, List.length_cons, List.length_nil]; omega)) [Tryd.f12, hi, hok, h23, h24, h26, e1, binA_sadd, outT, ha, finC, ↓br_dec, ↓ev_drawn dr0, ↓ev_drawn dr1]
      · have hok : outOk x0 x1 x3 = false := by simp [outOk, hk1, hk2]
        simp -dsimp (disch := first | rfl | exact Or.inr rfl | exact Or.inl rfl | omega | (simp only [ByteArray.size_append, bsz, List.size_toArray, List.length_cons, List.length_nil]; omega)) [Tryd.f12, hi, hk1, hk2, hok, h23, h24, finC, ↓br_dec]
  · have hi' : isTm x1 = false := by simpa using hi
    have hok : outOk x0 x1 x3 = false := by simp [outOk, hi']
    simp -dsimp (disch := first | rfl | exact Or.inr rfl | exact Or.inl rfl | omega | (simp only [ByteArray.size_append, bsz, List.size_toArray, List.length_cons, List.length_nil]; omega)) [Tryd.f12, hi', hok, h23, finC, ↓br_dec]
theorem ev5 (call : FuncId → List AV → Option AV) (m : Nat) {x : List AV} (hx : OkL lay40 x) (h12 : call 12 [.eptr x] = some (outP x)) : evBody Tryd.prog call m Tryd.f5 [.agg x] = some (outR x) := by
  obtain ⟨c, r, rfl, hc, tx0⟩ := hx.cons_inv
  obtain ⟨x0, rfl, wx0⟩ := hc.int_inv
  obtain ⟨c, r, rfl, hc, tx1⟩ := tx0.cons_inv
  obtain ⟨x1, rfl, wx1⟩ := hc.int_inv
  obtain ⟨c, r, rfl, hc, tx2⟩ := tx1.cons_inv
  obtain ⟨x2, rfl, wx2⟩ := hc.str_inv
  obtain ⟨c, r, rfl, hc, tx3⟩ := tx2.cons_inv
  obtain ⟨x3, rfl, wx3⟩ := hc.int_inv
  obtain ⟨c, r, rfl, hc, tx4⟩ := tx3.cons_inv
  obtain ⟨x4, rfl, wx4⟩ := hc.sl_inv
  obtain ⟨c, r, rfl, hc, tx5⟩ := tx4.cons_inv
  obtain ⟨x5, rfl, wx5⟩ := hc.sl_inv
  obtain ⟨c, r, rfl, hc, tx6⟩ := tx5.cons_inv
  obtain ⟨x6, rfl, wx6⟩ := hc.str_inv
  obtain ⟨c, r, rfl, hc, tx7⟩ := tx6.cons_inv
  obtain ⟨x7, rfl, wx7⟩ := hc.str_inv
  obtain ⟨c, r, rfl, hc, tx8⟩ := tx7.cons_inv
  obtain ⟨x8, rfl, wx8⟩ := hc.str_inv
  obtain ⟨c, r, rfl, hc, tx9⟩ := tx8.cons_inv
  obtain ⟨x9, rfl, wx9⟩ := hc.sl_inv
  have := tx9.nil_inv; subst this
  apply ends_eq
  rw [ev_body (c := _) rfl, show entry Tryd.f5 [.agg [.lit (.int .i64 x0), .lit (.int .i64 x1), .lit (.string x2), .lit (.int .i64 x3), .sl .sh x4, .sl .sh x5, .lit (.string x6), .lit (.string x7), .lit (.string x8), .sl .sh x9]] = { s := [.agg [.lit (.int .i64 x0), .lit (.int .i64 x1), .lit (.string x2), .lit (.int .i64 x3), .sl .sh x4, .sl .sh x5, .lit (.string x6), .lit (.string x7), .lit (.string x8), .sl .sh x9], .undef, .undef, .undef, .undef, .undef, .undef, .undef, .undef, .undef, .undef, .undef, .undef, .undef], live := fun _ _ => none } from rfl]
  simp only [outR]
  simp only [outP] at h12
  cases hok : outOk x0 x1 x3 with
  | true =>
    simp only [hok, if_true] at h12
    simp -dsimp [Tryd.f5, h12, ↓br_dec, setCells, buildA, fillA]
  | false =>
    simp only [hok, Bool.false_eq_true, if_false] at h12
    simp -dsimp [Tryd.f5, h12, ↓br_dec, setCells, buildA, fillA]
end Go.Proofs.YtiagpplidnfabaaDoor.EV
