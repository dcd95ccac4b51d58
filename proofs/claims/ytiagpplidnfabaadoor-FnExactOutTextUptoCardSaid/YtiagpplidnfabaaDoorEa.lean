/- Contracts, by same.py. -/
import Derived.Test.YtiagpplidnfabaaDoorSq
set_option maxHeartbeats 4000000
set_option maxRecDepth 20000
set_option linter.unusedSimpArgs false
set_option linter.unusedVariables false
namespace Go.Proofs.YtiagpplidnfabaaDoor.EV
open Go.RowKit
open Classical
theorem same8 (call : FuncId → List AV → Option AV) (m : Nat)
    {x y : List AV} (hx : OkL lay32 x) (hy : OkL lay32 y) : evBody Tryd.prog call m Tryd.f8 [.agg x, .agg y] = some (.lit (.bool (decide (x = y)))) := by
  obtain ⟨c, r, rfl, hc, tx0⟩ := hx.cons_inv
  obtain ⟨x0, rfl, wx0⟩ := hc.int_inv
  obtain ⟨c, r, rfl, hc, tx1⟩ := tx0.cons_inv
  obtain ⟨x1, rfl, wx1⟩ := hc.str_inv
  have := tx1.nil_inv; subst this
  obtain ⟨c, r, rfl, hc, ty0⟩ := hy.cons_inv
  obtain ⟨y0, rfl, wy0⟩ := hc.int_inv
  obtain ⟨c, r, rfl, hc, ty1⟩ := ty0.cons_inv
  obtain ⟨y1, rfl, wy1⟩ := hc.str_inv
  have := ty1.nil_inv; subst this
  apply ends_eq
  rw [ev_body (c := _) rfl]
  rw [show entry Tryd.f8 [.agg [.lit (.int .i64 x0), .lit (.string x1)], .agg [.lit (.int .i64 y0), .lit (.string y1)]] = { s := [.agg [.lit (.int .i64 x0), .lit (.string x1)], .agg [.lit (.int .i64 y0), .lit (.string y1)], .undef, .undef, .undef, .undef, .undef, .undef, .undef, .undef, .undef, .undef, .undef, .undef, .undef], live := fun _ _ => none } from rfl]
  simp (config := {contextual := true, maxSteps := 3000000, dsimp := false}) [Tryd.f8, ↓br_dec, setCells, wx0, wy0, wx1, wy1]
  all_goals (try simp (config := {contextual := true}))
  all_goals grind
theorem same9 (call : FuncId → List AV → Option AV) (m : Nat)
    (hc19 : ∀ x y, OkL lay36 x → OkL lay36 y → call 19 [.agg x, .agg y] = some (.lit (.bool (decide (x = y)))))
    (hc20 : ∀ x y, OkL lay38 x → OkL lay38 y → call 20 [.agg x, .agg y] = some (.lit (.bool (decide (x = y)))))
    {x y : List AV} (hx : OkL lay40 x) (hy : OkL lay40 y) : evBody Tryd.prog call m Tryd.f9 [.agg x, .agg y] = some (.lit (.bool (decide (x = y)))) := by
  obtain ⟨c, r, rfl, hc, tx0⟩ := hx.cons_inv
  obtain ⟨x0, rfl, wx0⟩ := hc.int_inv
  obtain ⟨c, r, rfl, hc, tx1⟩ := tx0.cons_inv
  obtain ⟨x1, rfl, wx1⟩ := hc.int_inv
  obtain ⟨c, r, rfl, hc, tx2⟩ := tx1.cons_inv
  obtain ⟨x2, rfl, wx2⟩ := hc.str_inv
  obtain ⟨c, r, rfl, hc, tx3⟩ := tx2.cons_inv
  obtain ⟨x3, rfl, wx3⟩ := hc.int_inv
  obtain ⟨c, r, rfl, hc, tx4⟩ := tx3.cons_inv
  obtain ⟨x4, rfl, wx4⟩ := hc.sl_inv
  obtain ⟨c, r, rfl, hc, tx5⟩ := tx4.cons_inv
  obtain ⟨x5, rfl, wx5⟩ := hc.sl_inv
  obtain ⟨c, r, rfl, hc, tx6⟩ := tx5.cons_inv
  obtain ⟨x6, rfl, wx6⟩ := hc.str_inv
  obtain ⟨c, r, rfl, hc, tx7⟩ := tx6.cons_inv
  obtain ⟨x7, rfl, wx7⟩ := hc.str_inv
  obtain ⟨c, r, rfl, hc, tx8⟩ := tx7.cons_inv
  obtain ⟨x8, rfl, wx8⟩ := hc.str_inv
  obtain ⟨c, r, rfl, hc, tx9⟩ := tx8.cons_inv
  obtain ⟨x9, rfl, wx9⟩ := hc.sl_inv
  have := tx9.nil_inv; subst this
  obtain ⟨c, r, rfl, hc, ty0⟩ := hy.cons_inv
  obtain ⟨y0, rfl, wy0⟩ := hc.int_inv
  obtain ⟨c, r, rfl, hc, ty1⟩ := ty0.cons_inv
  obtain ⟨y1, rfl, wy1⟩ := hc.int_inv
  obtain ⟨c, r, rfl, hc, ty2⟩ := ty1.cons_inv
  obtain ⟨y2, rfl, wy2⟩ := hc.str_inv
  obtain ⟨c, r, rfl, hc, ty3⟩ := ty2.cons_inv
  obtain ⟨y3, rfl, wy3⟩ := hc.int_inv
  obtain ⟨c, r, rfl, hc, ty4⟩ := ty3.cons_inv
  obtain ⟨y4, rfl, wy4⟩ := hc.sl_inv
  obtain ⟨c, r, rfl, hc, ty5⟩ := ty4.cons_inv
  obtain ⟨y5, rfl, wy5⟩ := hc.sl_inv
  obtain ⟨c, r, rfl, hc, ty6⟩ := ty5.cons_inv
  obtain ⟨y6, rfl, wy6⟩ := hc.str_inv
  obtain ⟨c, r, rfl, hc, ty7⟩ := ty6.cons_inv
  obtain ⟨y7, rfl, wy7⟩ := hc.str_inv
  obtain ⟨c, r, rfl, hc, ty8⟩ := ty7.cons_inv
  obtain ⟨y8, rfl, wy8⟩ := hc.str_inv
  obtain ⟨c, r, rfl, hc, ty9⟩ := ty8.cons_inv
  obtain ⟨y9, rfl, wy9⟩ := hc.sl_inv
  have := ty9.nil_inv; subst this
  apply ends_eq
  rw [ev_body (c := _) rfl]
  rw [show entry Tryd.f9 [.agg [.lit (.int .i64 x0), .lit (.int .i64 x1), .lit (.string x2), .lit (.int .i64 x3), .sl .sh x4, .sl .sh x5, .lit (.string x6), .lit (.string x7), .lit (.string x8), .sl .sh x9], .agg [.lit (.int .i64 y0), .lit (.int .i64 y1), .lit (.string y2), .lit (.int .i64 y3), .sl .sh y4, .sl .sh y5, .lit (.string y6), .lit (.string y7), .lit (.string y8), .sl .sh y9]] = { s := [.agg [.lit (.int .i64 x0), .lit (.int .i64 x1), .lit (.string x2), .lit (.int .i64 x3), .sl .sh x4, .sl .sh x5, .lit (.string x6), .lit (.string x7), .lit (.string x8), .sl .sh x9], .agg [.lit (.int .i64 y0), .lit (.int .i64 y1), .lit (.string y2), .lit (.int .i64 y3), .sl .sh y4, .sl .sh y5, .lit (.string y6), .lit (.string y7), .lit (.string y8), .sl .sh y9], .undef, .undef, .undef, .undef, .undef, .undef, .undef, .undef, .undef, .undef, .undef, .undef, .undef, .undef, .undef, .undef, .undef, .undef, .undef, .undef, .undef, .undef, .undef, .undef, .undef, .undef, .undef, .undef, .undef, .undef], live := fun _ _ => none } from rfl]
  simp (config := {contextual := true, maxSteps := 3000000, dsimp := false}) [Tryd.f9, ↓br_dec, setCells, hc19, hc20, wx0, wy0, wx1, wy1, wx2, wy2, wx3, wy3, wx4, wy4, wx5, wy5, wx6, wy6, wx7, wy7, wx8, wy8, wx9, wy9]
  all_goals (try simp (config := {contextual := true}))
  all_goals grind
theorem same19 (call : FuncId → List AV → Option AV) (m : Nat)
    (hc31 : ∀ x y, OkR lay71 x → OkR lay71 y → call 31 [.sl .sh x, .sl .sh y] = some (.lit (.bool (decide (x = y)))))
    (hc32 : ∀ x y, OkR lay5 x → OkR lay5 y → call 32 [.sl .sh x, .sl .sh y] = some (.lit (.bool (decide (x = y)))))
    {x y : List AV} (hx : OkL lay36 x) (hy : OkL lay36 y) : evBody Tryd.prog call m Tryd.f19 [.agg x, .agg y] = some (.lit (.bool (decide (x = y)))) := by
  obtain ⟨c, r, rfl, hc, tx0⟩ := hx.cons_inv
  obtain ⟨x0, rfl, wx0⟩ := hc.int_inv
  obtain ⟨c, r, rfl, hc, tx1⟩ := tx0.cons_inv
  obtain ⟨x1, rfl, wx1⟩ := hc.sl_inv
  obtain ⟨c, r, rfl, hc, tx2⟩ := tx1.cons_inv
  obtain ⟨x2, rfl, wx2⟩ := hc.sl_inv
  have := tx2.nil_inv; subst this
  obtain ⟨c, r, rfl, hc, ty0⟩ := hy.cons_inv
  obtain ⟨y0, rfl, wy0⟩ := hc.int_inv
  obtain ⟨c, r, rfl, hc, ty1⟩ := ty0.cons_inv
  obtain ⟨y1, rfl, wy1⟩ := hc.sl_inv
  obtain ⟨c, r, rfl, hc, ty2⟩ := ty1.cons_inv
  obtain ⟨y2, rfl, wy2⟩ := hc.sl_inv
  have := ty2.nil_inv; subst this
  apply ends_eq
  rw [ev_body (c := _) rfl]
  rw [show entry Tryd.f19 [.agg [.lit (.int .i64 x0), .sl .sh x1, .sl .sh x2], .agg [.lit (.int .i64 y0), .sl .sh y1, .sl .sh y2]] = { s := [.agg [.lit (.int .i64 x0), .sl .sh x1, .sl .sh x2], .agg [.lit (.int .i64 y0), .sl .sh y1, .sl .sh y2], .undef, .undef, .undef, .undef, .undef, .undef, .undef, .undef, .undef, .undef, .undef, .undef, .undef, .undef, .undef, .undef, .undef, .undef, .undef, .undef], live := fun _ _ => none } from rfl]
  simp (config := {contextual := true, maxSteps := 3000000, dsimp := false}) [Tryd.f19, ↓br_dec, setCells, hc31, hc32, wx0, wy0, wx1, wy1, wx2, wy2]
  all_goals (try simp (config := {contextual := true}))
  all_goals grind
theorem same20 (call : FuncId → List AV → Option AV) (m : Nat)
    (hc31 : ∀ x y, OkR lay71 x → OkR lay71 y → call 31 [.sl .sh x, .sl .sh y] = some (.lit (.bool (decide (x = y)))))
    {x y : List AV} (hx : OkL lay38 x) (hy : OkL lay38 y) : evBody Tryd.prog call m Tryd.f20 [.agg x, .agg y] = some (.lit (.bool (decide (x = y)))) := by
  obtain ⟨c, r, rfl, hc, tx0⟩ := hx.cons_inv
  obtain ⟨x0, rfl, wx0⟩ := hc.str_inv
  obtain ⟨c, r, rfl, hc, tx1⟩ := tx0.cons_inv
  obtain ⟨x1, rfl, wx1⟩ := hc.str_inv
  obtain ⟨c, r, rfl, hc, tx2⟩ := tx1.cons_inv
  obtain ⟨x2, rfl, wx2⟩ := hc.str_inv
  obtain ⟨c, r, rfl, hc, tx3⟩ := tx2.cons_inv
  obtain ⟨x3, rfl, wx3⟩ := hc.sl_inv
  have := tx3.nil_inv; subst this
  obtain ⟨c, r, rfl, hc, ty0⟩ := hy.cons_inv
  obtain ⟨y0, rfl, wy0⟩ := hc.str_inv
  obtain ⟨c, r, rfl, hc, ty1⟩ := ty0.cons_inv
  obtain ⟨y1, rfl, wy1⟩ := hc.str_inv
  obtain ⟨c, r, rfl, hc, ty2⟩ := ty1.cons_inv
  obtain ⟨y2, rfl, wy2⟩ := hc.str_inv
  obtain ⟨c, r, rfl, hc, ty3⟩ := ty2.cons_inv
  obtain ⟨y3, rfl, wy3⟩ := hc.sl_inv
  have := ty3.nil_inv; subst this
  apply ends_eq
  rw [ev_body (c := _) rfl]
  rw [show entry Tryd.f20 [.agg [.lit (.string x0), .lit (.string x1), .lit (.string x2), .sl .sh x3], .agg [.lit (.string y0), .lit (.string y1), .lit (.string y2), .sl .sh y3]] = { s := [.agg [.lit (.string x0), .lit (.string x1), .lit (.string x2), .sl .sh x3], .agg [.lit (.string y0), .lit (.string y1), .lit (.string y2), .sl .sh y3], .undef, .undef, .undef, .undef, .undef, .undef, .undef, .undef, .undef, .undef, .undef, .undef, .undef, .undef, .undef, .undef, .undef, .undef, .undef, .undef, .undef, .undef, .undef, .undef], live := fun _ _ => none } from rfl]
  simp (config := {contextual := true, maxSteps := 3000000, dsimp := false}) [Tryd.f20, ↓br_dec, setCells, hc31, wx0, wy0, wx1, wy1, wx2, wy2, wx3, wy3]
  all_goals (try simp (config := {contextual := true}))
  all_goals grind
theorem dr31_0 : drawnA Tryd.prog (drawnIn Tryd.f31 0) = true := drawn_of (tab := [⟨some 17, [0], false, []⟩, ⟨some 18, [5], false, []⟩, ⟨some 19, [17, 18], false, [0, 1]⟩, ⟨some 20, [19], false, [2]⟩, ⟨some 21, [1], false, []⟩, ⟨some 22, [5], false, []⟩, ⟨some 23, [21, 22], false, [4, 5]⟩, ⟨some 24, [23], false, [6]⟩, ⟨some 25, [20, 24], false, [3, 7]⟩, ⟨some 26, [25], false, [8]⟩]) follows_mixed (by kernel_rfl) (by kernel_rfl)
theorem lp31 (call : FuncId → List AV → Option AV) (m : Nat)
    (hc38 : ∀ x y, OkL lay71 x → OkL lay71 y → call 38 [.agg x, .agg y] = some (.lit (.bool (decide (x = y))))) 
    {c : Code} (hcd : c = loopIn Tryd.f31 0) {es fs : List (List AV)} (he : OkR lay71 es) (hf : OkR lay71 fs) (hl : es.length = fs.length) {F : Ex × Env → Prop} (h1 : ∀ (lv : Nat → Nat → Option Nat) (ui u2 u3 u6 u7 u8 u9 u10 u11 u12 u13 u14 u15 u16 u17 u18 u19 u20 u21 u22 u23 u24 u25 u26 : AV), es = fs → F (.exit 0, { s := [.sl .sh es, .sl .sh fs, u2, u3, .lit (.bool false), ui, u6, u7, u8, u9, u10, u11, u12, u13, u14, u15, u16, u17, u18, u19, u20, u21, u22, u23, u24, u25, u26], live := lv })) (h2 : ∀ E', es ≠ fs → E'.s[4]? = some (.lit (.bool false)) → F (.ret, E')) :
    ∀ (k N i : Nat) (lv : Nat → Nat → Option Nat) (u2 u3 u6 u7 u8 u9 u10 u11 u12 u13 u14 u15 u16 u17 u18 u19 u20 u21 u22 u23 u24 u25 u26 : AV), k < N → k + i = es.length → es.take i = fs.take i →
      (∀ u ∈ [u17, u18, u19, u20, u21, u22, u23, u24, u25, u26], notCell u = true) →
      Ends (evLoop (evCode Tryd.prog call m c) N { s := [.sl .sh es, .sl .sh fs, u2, u3, .lit (.bool false), .lit (.int .i64 (i : Int)), u6, u7, u8, u9, u10, u11, u12, u13, u14, u15, u16, u17, u18, u19, u20, u21, u22, u23, u24, u25, u26], live := lv }) F := by
  intro k
  induction k with
  | zero =>
    intro N i lv u2 u3 u6 u7 u8 u9 u10 u11 u12 u13 u14 u15 u16 u17 u18 u19 u20 u21 u22 u23 u24 u25 u26 hN hk hp hu
    obtain ⟨N, rfl⟩ : ∃ N', N = N' + 1 := ⟨N - 1, by omega⟩
    have hi : i = es.length := by omega
    subst hi
    rw [List.take_of_length_le (Nat.le_refl _), List.take_of_length_le (by omega)] at hp
    rw [ev_turn hcd]
    simp -dsimp [Tryd.f31, ↓br_dec]
    exact h1 _ _ _ _ _ _ _ _ _ _ _ _ _ _ _ _ _ _ _ _ _ _ _ _ _ hp
  | succ k ih =>
    intro N i lv u2 u3 u6 u7 u8 u9 u10 u11 u12 u13 u14 u15 u16 u17 u18 u19 u20 u21 u22 u23 u24 u25 u26 hN hk hp hu
    obtain ⟨N, rfl⟩ : ∃ N', N = N' + 1 := ⟨N - 1, by omega⟩
    obtain ⟨x, hx, hxo, hxt⟩ := he.get (i := i) (by omega)
    obtain ⟨y, hy, hyo, hyt⟩ := hf.get (i := i) (by omega)
    have hlt : ((i : Int) < (es.length : Int)) := by omega
    have hbd : i < 9223372036854775807 := by have := he.1; omega
    simp only [List.mem_cons, List.not_mem_nil, or_false, forall_eq_or_imp, forall_eq] at hu
    have hxl : x.length = 2 := hxo.1
    have hyl : y.length = 2 := hyo.1
    have dr0 := dr31_0
    simp only [drawnIn, drawnsOf, Tryd.f31, List.getD_cons_succ, List.getD_cons_zero, List.nil_append, List.append_nil, List.cons_append] at dr0
    rw [ev_turn hcd]
    have ihh : x = y → ∀ (lv : Nat → Nat → Option Nat) (u2 u3 u6 u7 u8 u9 u10 u11 u12 u13 u14 u15 u16 u17 u18 u19 u20 u21 u22 u23 u24 u25 u26 : AV), notCell u17 = true → notCell u18 = true → notCell u19 = true → notCell u20 = true → notCell u21 = true → notCell u22 = true → notCell u23 = true → notCell u24 = true → notCell u25 = true → notCell u26 = true → Ends (evLoop (evCode Tryd.prog call m c) N { s := [.sl .sh es, .sl .sh fs, u2, u3, .lit (.bool false), .lit (.int .i64 ((i + 1 : Nat) : Int)), u6, u7, u8, u9, u10, u11, u12, u13, u14, u15, u16, u17, u18, u19, u20, u21, u22, u23, u24, u25, u26], live := lv }) F := fun hxy lv u2 u3 u6 u7 u8 u9 u10 u11 u12 u13 u14 u15 u16 u17 u18 u19 u20 u21 u22 u23 u24 u25 u26 nu17 nu18 nu19 nu20 nu21 nu22 nu23 nu24 nu25 nu26 => ih N (i + 1) lv u2 u3 u6 u7 u8 u9 u10 u11 u12 u13 u14 u15 u16 u17 u18 u19 u20 u21 u22 u23 u24 u25 u26 (by omega) (by omega) (by rw [hxt, hyt, hp, hxy]) (by simp [nu17, nu18, nu19, nu20, nu21, nu22, nu23, nu24, nu25, nu26])
    have h2h : ¬ (x = y) → ∀ E', E'.s[4]? = some (.lit (.bool false)) → F (.ret, E') := fun hxy E' => h2 E' (fun h => hxy (by have hy' := hy; rw [← h, hx] at hy'; exact Option.some.inj hy'))
    clear ih h2
    by_cases hxy : x = y
    · subst hxy; have ihh := ihh rfl
      simp -dsimp [Tryd.f31, ↓br_dec, ↓ev_drawn dr0, setCells, hlt, hx, hy, wrap_small hbd, hu, hxl, hyl, hxo.plain, hyo.plain, hxo, hyo, hc38]
      exact ihh _ _ _ _ _ _ _ _ _ _ _ _ _ _ _ _ _ _ _ _ _ _ _ _ rfl rfl rfl rfl rfl rfl rfl rfl rfl rfl
    · have h2h := h2h hxy
      skip
      simp (config := {contextual := true, maxSteps := 3000000, dsimp := false}) [Tryd.f31, ↓br_dec, ↓ev_drawn dr0, setCells, hlt, hx, hy, wrap_small hbd, hu, hxl, hyl, hxo.plain, hyo.plain, hxo, hyo, hc38, h2h, hxy]
      all_goals (try simp (config := {contextual := true}))
      all_goals grind
theorem same31 (call : FuncId → List AV → Option AV)
    (hc38 : ∀ x y, OkL lay71 x → OkL lay71 y → call 38 [.agg x, .agg y] = some (.lit (.bool (decide (x = y))))) 
    {es fs : List (List AV)} (he : OkR lay71 es) (hf : OkR lay71 fs) : ∃ m, evBody Tryd.prog call m Tryd.f31 [.sl .sh es, .sl .sh fs] = some (.lit (.bool (decide (es = fs)))) := by
  refine ⟨es.length + 1, ?_⟩
  apply ends_eq
  rw [ev_body (c := _) rfl]
  rw [show entry Tryd.f31 [.sl .sh es, .sl .sh fs] = { s := [.sl .sh es, .sl .sh fs, .undef, .undef, .undef, .undef, .undef, .undef, .undef, .undef, .undef, .undef, .undef, .undef, .undef, .undef, .undef, .undef, .undef, .undef, .undef, .undef, .undef, .undef, .undef, .undef, .undef], live := fun _ _ => none } from rfl]
  by_cases hl : es.length = fs.length
  · have hl' : ((es.length : Int) = (fs.length : Int)) := by omega
    simp -dsimp [Tryd.f31, ↓br_dec, hl']
    try simp only [← hl']
    refine lp31 call _ hc38 rfl he hf hl (fun lv ui u2 u3 u6 u7 u8 u9 u10 u11 u12 u13 u14 u15 u16 u17 u18 u19 u20 u21 u22 u23 u24 u25 u26 h => ?_) (fun E' h hn => ?_) es.length _ 0 _ _ _ _ _ _ _ _ _ _ _ _ _ _ _ _ _ _ _ _ _ _ _ _ (by omega) (by omega) rfl (by simp [nc_lit])
    · simp -dsimp [Tryd.f31, ↓br_dec, h]
    · simp -dsimp [Tryd.f31, ↓br_dec, hn, h]
  · have hl' : ¬ ((es.length : Int) = (fs.length : Int)) := by omega
    have : es ≠ fs := fun h => hl (by rw [h])
    simp -dsimp [Tryd.f31, ↓br_dec, hl', this]
theorem dr32_0 : drawnA Tryd.prog (drawnIn Tryd.f32 0) = true := drawn_of (tab := [⟨some 17, [0], false, []⟩, ⟨some 18, [5], false, []⟩, ⟨some 19, [17, 18], false, [0, 1]⟩, ⟨some 20, [19], false, [2]⟩, ⟨some 21, [1], false, []⟩, ⟨some 22, [5], false, []⟩, ⟨some 23, [21, 22], false, [4, 5]⟩, ⟨some 24, [23], false, [6]⟩, ⟨some 25, [20, 24], false, [3, 7]⟩]) follows_mixed (by kernel_rfl) (by kernel_rfl)
theorem lp32 (call : FuncId → List AV → Option AV) (m : Nat) 
    {c : Code} (hcd : c = loopIn Tryd.f32 0) {es fs : List (List AV)} (he : OkR lay5 es) (hf : OkR lay5 fs) (hl : es.length = fs.length) {F : Ex × Env → Prop} (h1 : ∀ (lv : Nat → Nat → Option Nat) (ui u2 u3 u6 u7 u8 u9 u10 u11 u12 u13 u14 u15 u16 u17 u18 u19 u20 u21 u22 u23 u24 u25 : AV), es = fs → F (.exit 0, { s := [.sl .sh es, .sl .sh fs, u2, u3, .lit (.bool false), ui, u6, u7, u8, u9, u10, u11, u12, u13, u14, u15, u16, u17, u18, u19, u20, u21, u22, u23, u24, u25], live := lv })) (h2 : ∀ E', es ≠ fs → E'.s[4]? = some (.lit (.bool false)) → F (.ret, E')) :
    ∀ (k N i : Nat) (lv : Nat → Nat → Option Nat) (u2 u3 u6 u7 u8 u9 u10 u11 u12 u13 u14 u15 u16 u17 u18 u19 u20 u21 u22 u23 u24 u25 : AV), k < N → k + i = es.length → es.take i = fs.take i →
      (∀ u ∈ [u17, u18, u19, u20, u21, u22, u23, u24, u25], notCell u = true) →
      Ends (evLoop (evCode Tryd.prog call m c) N { s := [.sl .sh es, .sl .sh fs, u2, u3, .lit (.bool false), .lit (.int .i64 (i : Int)), u6, u7, u8, u9, u10, u11, u12, u13, u14, u15, u16, u17, u18, u19, u20, u21, u22, u23, u24, u25], live := lv }) F := by
  intro k
  induction k with
  | zero =>
    intro N i lv u2 u3 u6 u7 u8 u9 u10 u11 u12 u13 u14 u15 u16 u17 u18 u19 u20 u21 u22 u23 u24 u25 hN hk hp hu
    obtain ⟨N, rfl⟩ : ∃ N', N = N' + 1 := ⟨N - 1, by omega⟩
    have hi : i = es.length := by omega
    subst hi
    rw [List.take_of_length_le (Nat.le_refl _), List.take_of_length_le (by omega)] at hp
    rw [ev_turn hcd]
    simp -dsimp [Tryd.f32, ↓br_dec]
    exact h1 _ _ _ _ _ _ _ _ _ _ _ _ _ _ _ _ _ _ _ _ _ _ _ _ hp
  | succ k ih =>
    intro N i lv u2 u3 u6 u7 u8 u9 u10 u11 u12 u13 u14 u15 u16 u17 u18 u19 u20 u21 u22 u23 u24 u25 hN hk hp hu
    obtain ⟨N, rfl⟩ : ∃ N', N = N' + 1 := ⟨N - 1, by omega⟩
    obtain ⟨x, hx, hxo, hxt⟩ := he.get (i := i) (by omega)
    obtain ⟨y, hy, hyo, hyt⟩ := hf.get (i := i) (by omega)
    have hlt : ((i : Int) < (es.length : Int)) := by omega
    have hbd : i < 9223372036854775807 := by have := he.1; omega
    simp only [List.mem_cons, List.not_mem_nil, or_false, forall_eq_or_imp, forall_eq] at hu
    obtain ⟨c, r, rfl, hc, tp0⟩ := hxo.cons_inv
    obtain ⟨p0, rfl, wp0⟩ := hc.int_inv
    have := tp0.nil_inv; subst this
    obtain ⟨c, r, rfl, hc, tq0⟩ := hyo.cons_inv
    obtain ⟨q0, rfl, wq0⟩ := hc.int_inv
    have := tq0.nil_inv; subst this
    have dr0 := dr32_0
    simp only [drawnIn, drawnsOf, Tryd.f32, List.getD_cons_succ, List.getD_cons_zero, List.nil_append, List.append_nil, List.cons_append] at dr0
    rw [ev_turn hcd]
    have ihh : ([.lit (.int .u8 p0)] : List AV) = ([.lit (.int .u8 q0)] : List AV) → ∀ (lv : Nat → Nat → Option Nat) (u2 u3 u6 u7 u8 u9 u10 u11 u12 u13 u14 u15 u16 u17 u18 u19 u20 u21 u22 u23 u24 u25 : AV), notCell u17 = true → notCell u18 = true → notCell u19 = true → notCell u20 = true → notCell u21 = true → notCell u22 = true → notCell u23 = true → notCell u24 = true → notCell u25 = true → Ends (evLoop (evCode Tryd.prog call m c) N { s := [.sl .sh es, .sl .sh fs, u2, u3, .lit (.bool false), .lit (.int .i64 ((i + 1 : Nat) : Int)), u6, u7, u8, u9, u10, u11, u12, u13, u14, u15, u16, u17, u18, u19, u20, u21, u22, u23, u24, u25], live := lv }) F := fun hxy lv u2 u3 u6 u7 u8 u9 u10 u11 u12 u13 u14 u15 u16 u17 u18 u19 u20 u21 u22 u23 u24 u25 nu17 nu18 nu19 nu20 nu21 nu22 nu23 nu24 nu25 => ih N (i + 1) lv u2 u3 u6 u7 u8 u9 u10 u11 u12 u13 u14 u15 u16 u17 u18 u19 u20 u21 u22 u23 u24 u25 (by omega) (by omega) (by rw [hxt, hyt, hp, hxy]) (by simp [nu17, nu18, nu19, nu20, nu21, nu22, nu23, nu24, nu25])
    have h2h : ¬ (([.lit (.int .u8 p0)] : List AV) = ([.lit (.int .u8 q0)] : List AV)) → ∀ E', E'.s[4]? = some (.lit (.bool false)) → F (.ret, E') := fun hxy E' => h2 E' (fun h => hxy (by have hy' := hy; rw [← h, hx] at hy'; exact Option.some.inj hy'))
    clear ih h2
    by_cases hxy : ([.lit (.int .u8 p0)] : List AV) = ([.lit (.int .u8 q0)] : List AV)
    · have ihh := ihh hxy
      simp -dsimp [Tryd.f32, ↓br_dec, ↓ev_drawn dr0, setCells, hlt, hx, hy, wrap_small hbd, hu, wp0, wq0, hxy]
      exact ihh _ _ _ _ _ _ _ _ _ _ _ _ _ _ _ _ _ _ _ _ _ _ _ rfl rfl rfl rfl rfl rfl rfl rfl rfl
    · have h2h := h2h hxy
      simp only [List.cons.injEq, AV.lit.injEq, Value.int.injEq, Value.string.injEq, Value.bool.injEq, AV.sl.injEq, true_and, and_true] at hxy
      simp (config := {contextual := true, maxSteps := 3000000, dsimp := false}) [Tryd.f32, ↓br_dec, ↓ev_drawn dr0, setCells, hlt, hx, hy, wrap_small hbd, hu, wp0, wq0, h2h, hxy]
      all_goals (try simp (config := {contextual := true}))
      all_goals grind
theorem same32 (call : FuncId → List AV → Option AV) 
    {es fs : List (List AV)} (he : OkR lay5 es) (hf : OkR lay5 fs) : ∃ m, evBody Tryd.prog call m Tryd.f32 [.sl .sh es, .sl .sh fs] = some (.lit (.bool (decide (es = fs)))) := by
  refine ⟨es.length + 1, ?_⟩
  apply ends_eq
  rw [ev_body (c := _) rfl]
  rw [show entry Tryd.f32 [.sl .sh es, .sl .sh fs] = { s := [.sl .sh es, .sl .sh fs, .undef, .undef, .undef, .undef, .undef, .undef, .undef, .undef, .undef, .undef, .undef, .undef, .undef, .undef, .undef, .undef, .undef, .undef, .undef, .undef, .undef, .undef, .undef, .undef], live := fun _ _ => none } from rfl]
  by_cases hl : es.length = fs.length
  · have hl' : ((es.length : Int) = (fs.length : Int)) := by omega
    simp -dsimp [Tryd.f32, ↓br_dec, hl']
    try simp only [← hl']
    refine lp32 call _ rfl he hf hl (fun lv ui u2 u3 u6 u7 u8 u9 u10 u11 u12 u13 u14 u15 u16 u17 u18 u19 u20 u21 u22 u23 u24 u25 h => ?_) (fun E' h hn => ?_) es.length _ 0 _ _ _ _ _ _ _ _ _ _ _ _ _ _ _ _ _ _ _ _ _ _ _ (by omega) (by omega) rfl (by simp [nc_lit])
    · simp -dsimp [Tryd.f32, ↓br_dec, h]
    · simp -dsimp [Tryd.f32, ↓br_dec, hn, h]
  · have hl' : ¬ ((es.length : Int) = (fs.length : Int)) := by omega
    have : es ≠ fs := fun h => hl (by rw [h])
    simp -dsimp [Tryd.f32, ↓br_dec, hl', this]
theorem same38 (call : FuncId → List AV → Option AV) (m : Nat)
    {x y : List AV} (hx : OkL lay71 x) (hy : OkL lay71 y) : evBody Tryd.prog call m Tryd.f38 [.agg x, .agg y] = some (.lit (.bool (decide (x = y)))) := by
  obtain ⟨c, r, rfl, hc, tx0⟩ := hx.cons_inv
  obtain ⟨x0, rfl, wx0⟩ := hc.str_inv
  obtain ⟨c, r, rfl, hc, tx1⟩ := tx0.cons_inv
  obtain ⟨x1, rfl, wx1⟩ := hc.str_inv
  have := tx1.nil_inv; subst this
  obtain ⟨c, r, rfl, hc, ty0⟩ := hy.cons_inv
  obtain ⟨y0, rfl, wy0⟩ := hc.str_inv
  obtain ⟨c, r, rfl, hc, ty1⟩ := ty0.cons_inv
  obtain ⟨y1, rfl, wy1⟩ := hc.str_inv
  have := ty1.nil_inv; subst this
  apply ends_eq
  rw [ev_body (c := _) rfl]
  rw [show entry Tryd.f38 [.agg [.lit (.string x0), .lit (.string x1)], .agg [.lit (.string y0), .lit (.string y1)]] = { s := [.agg [.lit (.string x0), .lit (.string x1)], .agg [.lit (.string y0), .lit (.string y1)], .undef, .undef, .undef, .undef, .undef, .undef, .undef, .undef, .undef, .undef, .undef, .undef, .undef], live := fun _ _ => none } from rfl]
  simp (config := {contextual := true, maxSteps := 3000000, dsimp := false}) [Tryd.f38, ↓br_dec, setCells, wx0, wy0, wx1, wy1]
  all_goals (try simp (config := {contextual := true}))
  all_goals grind
end Go.Proofs.YtiagpplidnfabaaDoor.EV
