/- Contracts, by same.py. -/
import Derived.Test.YtcddclkccpfdkaaDoorSq
set_option maxHeartbeats 4000000
set_option maxRecDepth 20000
set_option linter.unusedSimpArgs false
set_option linter.unusedVariables false
namespace Go.Proofs.YtcddclkccpfdkaaDoor.EV
open Go.RowKit
open Classical
theorem dr11_0 : drawnA Tryd.prog (drawnIn Tryd.f11 0) = true := drawn_of (tab := [⟨some 17, [0], false, []⟩, ⟨some 18, [5], false, []⟩, ⟨some 19, [17, 18], false, [0, 1]⟩, ⟨some 20, [19], false, [2]⟩, ⟨some 21, [1], false, []⟩, ⟨some 22, [5], false, []⟩, ⟨some 23, [21, 22], false, [4, 5]⟩, ⟨some 24, [23], false, [6]⟩, ⟨some 25, [20, 24], false, [3, 7]⟩]) follows_mixed (by kernel_rfl) (by kernel_rfl)
theorem lp11 (call : FuncId → List AV → Option AV) (m : Nat) 
    {c : Code} (hcd : c = loopIn Tryd.f11 0) {es fs : List (List AV)} (he : OkR lay9 es) (hf : OkR lay9 fs) (hl : es.length = fs.length) {F : Ex × Env → Prop} (h1 : ∀ (lv : Nat → Nat → Option Nat) (ui u2 u3 u6 u7 u8 u9 u10 u11 u12 u13 u14 u15 u16 u17 u18 u19 u20 u21 u22 u23 u24 u25 : AV), es = fs → F (.exit 0, { s := [.sl .sh es, .sl .sh fs, u2, u3, .lit (.bool false), ui, u6, u7, u8, u9, u10, u11, u12, u13, u14, u15, u16, u17, u18, u19, u20, u21, u22, u23, u24, u25], live := lv })) (h2 : ∀ E', es ≠ fs → E'.s[4]? = some (.lit (.bool false)) → F (.ret, E')) :
    ∀ (k N i : Nat) (lv : Nat → Nat → Option Nat) (u2 u3 u6 u7 u8 u9 u10 u11 u12 u13 u14 u15 u16 u17 u18 u19 u20 u21 u22 u23 u24 u25 : AV), k < N → k + i = es.length → es.take i = fs.take i →
      (∀ u ∈ [u17, u18, u19, u20, u21, u22, u23, u24, u25], notCell u = true) →
      Ends (evLoop (evCode Tryd.prog call m c) N { s := [.sl .sh es, .sl .sh fs, u2, u3, .lit (.bool false), .lit (.int .i64 (i : Int)), u6, u7, u8, u9, u10, u11, u12, u13, u14, u15, u16, u17, u18, u19, u20, u21, u22, u23, u24, u25], live := lv }) F := by
  intro k
  induction k with
  | zero =>
    intro N i lv u2 u3 u6 u7 u8 u9 u10 u11 u12 u13 u14 u15 u16 u17 u18 u19 u20 u21 u22 u23 u24 u25 hN hk hp hu
    obtain ⟨N, rfl⟩ : ∃ N', N = N' + 1 := ⟨N - 1, by omega⟩
    have hi : i = es.length := by omega
    subst hi
    rw [List.take_of_length_le (Nat.le_refl _), List.take_of_length_le (by omega)] at hp
    rw [ev_turn hcd]
    simp -dsimp [Tryd.f11, ↓br_dec]
    exact h1 _ _ _ _ _ _ _ _ _ _ _ _ _ _ _ _ _ _ _ _ _ _ _ _ hp
  | succ k ih =>
    intro N i lv u2 u3 u6 u7 u8 u9 u10 u11 u12 u13 u14 u15 u16 u17 u18 u19 u20 u21 u22 u23 u24 u25 hN hk hp hu
    obtain ⟨N, rfl⟩ : ∃ N', N = N' + 1 := ⟨N - 1, by omega⟩
    obtain ⟨x, hx, hxo, hxt⟩ := he.get (i := i) (by omega)
    obtain ⟨y, hy, hyo, hyt⟩ := hf.get (i := i) (by omega)
    have hlt : ((i : Int) < (es.length : Int)) := by omega
    have hbd : i < 9223372036854775807 := by have := he.1; omega
    simp only [List.mem_cons, List.not_mem_nil, or_false, forall_eq_or_imp, forall_eq] at hu
    obtain ⟨c, r, rfl, hc, tp0⟩ := hxo.cons_inv
    obtain ⟨p0, rfl, wp0⟩ := hc.str_inv
    have := tp0.nil_inv; subst this
    obtain ⟨c, r, rfl, hc, tq0⟩ := hyo.cons_inv
    obtain ⟨q0, rfl, wq0⟩ := hc.str_inv
    have := tq0.nil_inv; subst this
    have dr0 := dr11_0
    simp only [drawnIn, drawnsOf, Tryd.f11, List.getD_cons_succ, List.getD_cons_zero, List.nil_append, List.append_nil, List.cons_append] at dr0
    rw [ev_turn hcd]
    have ihh : ([.lit (.string p0)] : List AV) = ([.lit (.string q0)] : List AV) → ∀ (lv : Nat → Nat → Option Nat) (u2 u3 u6 u7 u8 u9 u10 u11 u12 u13 u14 u15 u16 u17 u18 u19 u20 u21 u22 u23 u24 u25 : AV), notCell u17 = true → notCell u18 = true → notCell u19 = true → notCell u20 = true → notCell u21 = true → notCell u22 = true → notCell u23 = true → notCell u24 = true → notCell u25 = true → Ends (evLoop (evCode Tryd.prog call m c) N { s := [.sl .sh es, .sl .sh fs, u2, u3, .lit (.bool false), .lit (.int .i64 ((i + 1 : Nat) : Int)), u6, u7, u8, u9, u10, u11, u12, u13, u14, u15, u16, u17, u18, u19, u20, u21, u22, u23, u24, u25], live := lv }) F := fun hxy lv u2 u3 u6 u7 u8 u9 u10 u11 u12 u13 u14 u15 u16 u17 u18 u19 u20 u21 u22 u23 u24 u25 nu17 nu18 nu19 nu20 nu21 nu22 nu23 nu24 nu25 => ih N (i + 1) lv u2 u3 u6 u7 u8 u9 u10 u11 u12 u13 u14 u15 u16 u17 u18 u19 u20 u21 u22 u23 u24 u25 (by omega) (by omega) (by rw [hxt, hyt, hp, hxy]) (by simp [nu17, nu18, nu19, nu20, nu21, nu22, nu23, nu24, nu25])
    have h2h : ¬ (([.lit (.string p0)] : List AV) = ([.lit (.string q0)] : List AV)) → ∀ E', E'.s[4]? = some (.lit (.bool false)) → F (.ret, E') := fun hxy E' => h2 E' (fun h => hxy (by have hy' := hy; rw [← h, hx] at hy'; exact Option.some.inj hy'))
    clear ih h2
    by_cases hxy : ([.lit (.string p0)] : List AV) = ([.lit (.string q0)] : List AV)
    · have ihh := ihh hxy
      simp -dsimp [Tryd.f11, ↓br_dec, ↓ev_drawn dr0, setCells, hlt, hx, hy, wrap_small hbd, hu, wp0, wq0, hxy]
      exact ihh _ _ _ _ _ _ _ _ _ _ _ _ _ _ _ _ _ _ _ _ _ _ _ rfl rfl rfl rfl rfl rfl rfl rfl rfl
    · have h2h := h2h hxy
      simp only [List.cons.injEq, AV.lit.injEq, Value.int.injEq, Value.string.injEq, Value.bool.injEq, AV.sl.injEq, true_and, and_true] at hxy
      simp (config := {contextual := true, maxSteps := 3000000, dsimp := false}) [Tryd.f11, ↓br_dec, ↓ev_drawn dr0, setCells, hlt, hx, hy, wrap_small hbd, hu, wp0, wq0, h2h, hxy]
      all_goals (try simp (config := {contextual := true}))
      all_goals grind
theorem same11 (call : FuncId → List AV → Option AV) 
    {es fs : List (List AV)} (he : OkR lay9 es) (hf : OkR lay9 fs) : ∃ m, evBody Tryd.prog call m Tryd.f11 [.sl .sh es, .sl .sh fs] = some (.lit (.bool (decide (es = fs)))) := by
  refine ⟨es.length + 1, ?_⟩
  apply ends_eq
  rw [ev_body (c := _) rfl]
  rw [show entry Tryd.f11 [.sl .sh es, .sl .sh fs] = { s := [.sl .sh es, .sl .sh fs, .undef, .undef, .undef, .undef, .undef, .undef, .undef, .undef, .undef, .undef, .undef, .undef, .undef, .undef, .undef, .undef, .undef, .undef, .undef, .undef, .undef, .undef, .undef, .undef], live := fun _ _ => none } from rfl]
  by_cases hl : es.length = fs.length
  · have hl' : ((es.length : Int) = (fs.length : Int)) := by omega
    simp -dsimp [Tryd.f11, ↓br_dec, hl']
    try simp only [← hl']
    refine lp11 call _ rfl he hf hl (fun lv ui u2 u3 u6 u7 u8 u9 u10 u11 u12 u13 u14 u15 u16 u17 u18 u19 u20 u21 u22 u23 u24 u25 h => ?_) (fun E' h hn => ?_) es.length _ 0 _ _ _ _ _ _ _ _ _ _ _ _ _ _ _ _ _ _ _ _ _ _ _ (by omega) (by omega) rfl (by simp [nc_lit])
    · simp -dsimp [Tryd.f11, ↓br_dec, h]
    · simp -dsimp [Tryd.f11, ↓br_dec, hn, h]
  · have hl' : ¬ ((es.length : Int) = (fs.length : Int)) := by omega
    have : es ≠ fs := fun h => hl (by rw [h])
    simp -dsimp [Tryd.f11, ↓br_dec, hl', this]
theorem same6 (call : FuncId → List AV → Option AV) (m : Nat)
    (hc11 : ∀ x y, OkR lay9 x → OkR lay9 y → call 11 [.sl .sh x, .sl .sh y] = some (.lit (.bool (decide (x = y)))))
    {x y : List AV} (hx : OkL lay24 x) (hy : OkL lay24 y) : evBody Tryd.prog call m Tryd.f6 [.agg x, .agg y] = some (.lit (.bool (decide (x = y)))) := by
  obtain ⟨c, r, rfl, hc, tx0⟩ := hx.cons_inv
  obtain ⟨x0, rfl, wx0⟩ := hc.int_inv
  obtain ⟨c, r, rfl, hc, tx1⟩ := tx0.cons_inv
  obtain ⟨x1, rfl, wx1⟩ := hc.sl_inv
  have := tx1.nil_inv; subst this
  obtain ⟨c, r, rfl, hc, ty0⟩ := hy.cons_inv
  obtain ⟨y0, rfl, wy0⟩ := hc.int_inv
  obtain ⟨c, r, rfl, hc, ty1⟩ := ty0.cons_inv
  obtain ⟨y1, rfl, wy1⟩ := hc.sl_inv
  have := ty1.nil_inv; subst this
  apply ends_eq
  rw [ev_body (c := _) rfl]
  rw [show entry Tryd.f6 [.agg [.lit (.int .i64 x0), .sl .sh x1], .agg [.lit (.int .i64 y0), .sl .sh y1]] = { s := [.agg [.lit (.int .i64 x0), .sl .sh x1], .agg [.lit (.int .i64 y0), .sl .sh y1], .undef, .undef, .undef, .undef, .undef, .undef, .undef, .undef, .undef, .undef, .undef, .undef, .undef, .undef], live := fun _ _ => none } from rfl]
  simp (config := {contextual := true, maxSteps := 3000000, dsimp := false}) [Tryd.f6, ↓br_dec, setCells, hc11, wx0, wy0, wx1, wy1]
  all_goals (try simp (config := {contextual := true}))
  all_goals grind
end Go.Proofs.YtcddclkccpfdkaaDoor.EV
