/- Contracts, by same.py. -/
import Derived.Test.YtlgdhdelhpklbaaGreatSq
set_option maxHeartbeats 4000000
set_option maxRecDepth 20000
set_option linter.unusedSimpArgs false
set_option linter.unusedVariables false
namespace Go.Proofs.YtlgdhdelhpklbaaGreat.EV
open Go.RowKit
open Classical
theorem same14 (call : FuncId → List AV → Option AV) (m : Nat)
    (hc36 : ∀ x y, OkR lay119 x → OkR lay119 y → call 36 [.sl .sh x, .sl .sh y] = some (.lit (.bool (decide (x = y)))))
    {x y : List AV} (hx : OkL lay44 x) (hy : OkL lay44 y) : evBody Tryz.prog call m Tryz.f14 [.agg x, .agg y] = some (.lit (.bool (decide (x = y)))) := by
  obtain ⟨c, r, rfl, hc, tx0⟩ := hx.cons_inv
  obtain ⟨x0, rfl, wx0⟩ := hc.int_inv
  obtain ⟨c, r, rfl, hc, tx1⟩ := tx0.cons_inv
  obtain ⟨x1, rfl, wx1⟩ := hc.int_inv
  obtain ⟨c, r, rfl, hc, tx2⟩ := tx1.cons_inv
  obtain ⟨x2, rfl, wx2⟩ := hc.sl_inv
  obtain ⟨c, r, rfl, hc, tx3⟩ := tx2.cons_inv
  obtain ⟨x3, rfl, wx3⟩ := hc.sl_inv
  have := tx3.nil_inv; subst this
  obtain ⟨c, r, rfl, hc, ty0⟩ := hy.cons_inv
  obtain ⟨y0, rfl, wy0⟩ := hc.int_inv
  obtain ⟨c, r, rfl, hc, ty1⟩ := ty0.cons_inv
  obtain ⟨y1, rfl, wy1⟩ := hc.int_inv
  obtain ⟨c, r, rfl, hc, ty2⟩ := ty1.cons_inv
  obtain ⟨y2, rfl, wy2⟩ := hc.sl_inv
  obtain ⟨c, r, rfl, hc, ty3⟩ := ty2.cons_inv
  obtain ⟨y3, rfl, wy3⟩ := hc.sl_inv
  have := ty3.nil_inv; subst this
  apply ends_eq
  rw [ev_body (c := _) rfl]
  rw [show entry Tryz.f14 [.agg [.lit (.int .i64 x0), .lit (.int .i64 x1), .sl .sh x2, .sl .sh x3], .agg [.lit (.int .i64 y0), .lit (.int .i64 y1), .sl .sh y2, .sl .sh y3]] = { s := [.agg [.lit (.int .i64 x0), .lit (.int .i64 x1), .sl .sh x2, .sl .sh x3], .agg [.lit (.int .i64 y0), .lit (.int .i64 y1), .sl .sh y2, .sl .sh y3], .undef, .undef, .undef, .undef, .undef, .undef, .undef, .undef, .undef, .undef, .undef, .undef, .undef, .undef, .undef, .undef, .undef, .undef, .undef, .undef, .undef, .undef, .undef, .undef, .undef, .undef, .undef, .undef, .undef], live := fun _ _ => none } from rfl]
  simp (config := {contextual := true, maxSteps := 3000000, dsimp := false}) [Tryz.f14, ↓br_dec, setCells, hc36, wx0, wy0, wx1, wy1, wx2, wy2, wx3, wy3]
  all_goals (try simp (config := {contextual := true}))
  all_goals grind
theorem dr16_0 : drawnA Tryz.prog (drawnIn Tryz.f16 0) = true := drawn_of (tab := [⟨some 27, [2], false, []⟩, ⟨some 28, [27], false, [0]⟩, ⟨some 29, [5], false, []⟩, ⟨some 30, [28, 29], false, [1, 2]⟩, ⟨some 31, [30], false, [3]⟩, ⟨some 32, [3], false, []⟩, ⟨some 33, [32], false, [5]⟩, ⟨some 34, [5], false, []⟩, ⟨some 35, [33, 34], false, [6, 7]⟩, ⟨some 36, [35], false, [8]⟩, ⟨some 37, [31, 36], false, [4, 9]⟩]) follows_mixed (by kernel_rfl) (by kernel_rfl)
theorem lp16 (call : FuncId → List AV → Option AV) (m : Nat) 
    {c : Code} (hcd : c = loopIn Tryz.f16 0) {x0 : Int} {x1 : List (List AV)} {y0 : Int} {y1 : List (List AV)} (wx0 : IntKind.i64.wrap x0 = x0) (wx1 : OkR lay106 x1) (wy0 : IntKind.i64.wrap y0 = y0) (wy1 : OkR lay106 y1) (hl : x1.length = y1.length) {F : Ex × Env → Prop} (h1 : ∀ (lv : Nat → Nat → Option Nat) (ui u0 u1 u6 u7 u8 u9 u10 u11 u12 u13 u14 u15 u16 u17 u18 u19 u20 u21 u22 u23 u24 u25 u26 u27 u28 u29 u30 u31 u32 u33 u34 u35 u36 u37 : AV), x1 = y1 → F (.exit 0, { s := [u0, u1, .cell [.lit (.int .i64 x0), .sl .sh x1], .cell [.lit (.int .i64 y0), .sl .sh y1], .lit (.bool false), ui, u6, u7, u8, u9, u10, u11, u12, u13, u14, u15, u16, u17, u18, u19, u20, u21, u22, u23, u24, u25, u26, u27, u28, u29, u30, u31, u32, u33, u34, u35, u36, u37], live := lv })) (h2 : ∀ E', x1 ≠ y1 → E'.s[4]? = some (.lit (.bool false)) → F (.ret, E')) :
    ∀ (k N i : Nat) (lv : Nat → Nat → Option Nat) (u0 u1 u6 u7 u8 u9 u10 u11 u12 u13 u14 u15 u16 u17 u18 u19 u20 u21 u22 u23 u24 u25 u26 u27 u28 u29 u30 u31 u32 u33 u34 u35 u36 u37 : AV), k < N → k + i = x1.length → x1.take i = y1.take i →
      (∀ u ∈ [u27, u28, u29, u30, u31, u32, u33, u34, u35, u36, u37], notCell u = true) →
      Ends (evLoop (evCode Tryz.prog call m c) N { s := [u0, u1, .cell [.lit (.int .i64 x0), .sl .sh x1], .cell [.lit (.int .i64 y0), .sl .sh y1], .lit (.bool false), .lit (.int .i64 (i : Int)), u6, u7, u8, u9, u10, u11, u12, u13, u14, u15, u16, u17, u18, u19, u20, u21, u22, u23, u24, u25, u26, u27, u28, u29, u30, u31, u32, u33, u34, u35, u36, u37], live := lv }) F := by
  intro k
  induction k with
  | zero =>
    intro N i lv u0 u1 u6 u7 u8 u9 u10 u11 u12 u13 u14 u15 u16 u17 u18 u19 u20 u21 u22 u23 u24 u25 u26 u27 u28 u29 u30 u31 u32 u33 u34 u35 u36 u37 hN hk hp hu
    obtain ⟨N, rfl⟩ : ∃ N', N = N' + 1 := ⟨N - 1, by omega⟩
    have hi : i = x1.length := by omega
    subst hi
    rw [List.take_of_length_le (Nat.le_refl _), List.take_of_length_le (by omega)] at hp
    rw [ev_turn hcd]
    simp -dsimp [Tryz.f16, ↓br_dec]
    exact h1 _ _ _ _ _ _ _ _ _ _ _ _ _ _ _ _ _ _ _ _ _ _ _ _ _ _ _ _ _ _ _ _ _ _ _ _ hp
  | succ k ih =>
    intro N i lv u0 u1 u6 u7 u8 u9 u10 u11 u12 u13 u14 u15 u16 u17 u18 u19 u20 u21 u22 u23 u24 u25 u26 u27 u28 u29 u30 u31 u32 u33 u34 u35 u36 u37 hN hk hp hu
    obtain ⟨N, rfl⟩ : ∃ N', N = N' + 1 := ⟨N - 1, by omega⟩
    obtain ⟨x, hx, hxo, hxt⟩ := wx1.get (i := i) (by omega)
    obtain ⟨y, hy, hyo, hyt⟩ := wy1.get (i := i) (by omega)
    have hlt : ((i : Int) < (x1.length : Int)) := by omega
    have hbd : i < 9223372036854775807 := by have := wx1.1; omega
    simp only [List.mem_cons, List.not_mem_nil, or_false, forall_eq_or_imp, forall_eq] at hu
    have hxl : x.length = 2 := hxo.1
    have hyl : y.length = 2 := hyo.1
    have dr0 := dr16_0
    simp only [drawnIn, drawnsOf, Tryz.f16, List.getD_cons_succ, List.getD_cons_zero, List.nil_append, List.append_nil, List.cons_append] at dr0
    rw [ev_turn hcd]
    have ihh : x = y → ∀ (lv : Nat → Nat → Option Nat) (u0 u1 u6 u7 u8 u9 u10 u11 u12 u13 u14 u15 u16 u17 u18 u19 u20 u21 u22 u23 u24 u25 u26 u27 u28 u29 u30 u31 u32 u33 u34 u35 u36 u37 : AV), notCell u27 = true → notCell u28 = true → notCell u29 = true → notCell u30 = true → notCell u31 = true → notCell u32 = true → notCell u33 = true → notCell u34 = true → notCell u35 = true → notCell u36 = true → notCell u37 = true → Ends (evLoop (evCode Tryz.prog call m c) N { s := [u0, u1, .cell [.lit (.int .i64 x0), .sl .sh x1], .cell [.lit (.int .i64 y0), .sl .sh y1], .lit (.bool false), .lit (.int .i64 ((i + 1 : Nat) : Int)), u6, u7, u8, u9, u10, u11, u12, u13, u14, u15, u16, u17, u18, u19, u20, u21, u22, u23, u24, u25, u26, u27, u28, u29, u30, u31, u32, u33, u34, u35, u36, u37], live := lv }) F := fun hxy lv u0 u1 u6 u7 u8 u9 u10 u11 u12 u13 u14 u15 u16 u17 u18 u19 u20 u21 u22 u23 u24 u25 u26 u27 u28 u29 u30 u31 u32 u33 u34 u35 u36 u37 nu27 nu28 nu29 nu30 nu31 nu32 nu33 nu34 nu35 nu36 nu37 => ih N (i + 1) lv u0 u1 u6 u7 u8 u9 u10 u11 u12 u13 u14 u15 u16 u17 u18 u19 u20 u21 u22 u23 u24 u25 u26 u27 u28 u29 u30 u31 u32 u33 u34 u35 u36 u37 (by omega) (by omega) (by rw [hxt, hyt, hp, hxy]) (by simp [nu27, nu28, nu29, nu30, nu31, nu32, nu33, nu34, nu35, nu36, nu37])
    have h2h : ¬ (x = y) → ∀ E', E'.s[4]? = some (.lit (.bool false)) → F (.ret, E') := fun hxy E' => h2 E' (fun h => hxy (by have hy' := hy; rw [← h, hx] at hy'; exact Option.some.inj hy'))
    clear ih h2
    by_cases hxy : x = y
    · subst hxy; have ihh := ihh rfl
      simp -dsimp [Tryz.f16, ↓br_dec, ↓ev_drawn dr0, setCells, hlt, hx, hy, wrap_small hbd, hu, hxl, hyl, hxo.plain, hyo.plain, hxo, hyo]
      exact ihh _ _ _ _ _ _ _ _ _ _ _ _ _ _ _ _ _ _ _ _ _ _ _ _ _ _ _ _ _ _ _ _ _ _ _ rfl rfl rfl rfl rfl rfl rfl rfl rfl rfl rfl
    · have h2h := h2h hxy
      skip
      simp (config := {contextual := true, maxSteps := 3000000, dsimp := false}) [Tryz.f16, ↓br_dec, ↓ev_drawn dr0, setCells, hlt, hx, hy, wrap_small hbd, hu, hxl, hyl, hxo.plain, hyo.plain, hxo, hyo, h2h, hxy]
      all_goals (try simp (config := {contextual := true}))
      all_goals grind
theorem same16 (call : FuncId → List AV → Option AV)
    {x y : List AV} (hx : OkL lay61 x) (hy : OkL lay61 y) : ∃ m, evBody Tryz.prog call m Tryz.f16 [.agg x, .agg y] = some (.lit (.bool (decide (x = y)))) := by
  obtain ⟨c, r, rfl, hc, tx0⟩ := hx.cons_inv
  obtain ⟨x0, rfl, wx0⟩ := hc.int_inv
  obtain ⟨c, r, rfl, hc, tx1⟩ := tx0.cons_inv
  obtain ⟨x1, rfl, wx1⟩ := hc.sl_inv
  have := tx1.nil_inv; subst this
  obtain ⟨c, r, rfl, hc, ty0⟩ := hy.cons_inv
  obtain ⟨y0, rfl, wy0⟩ := hc.int_inv
  obtain ⟨c, r, rfl, hc, ty1⟩ := ty0.cons_inv
  obtain ⟨y1, rfl, wy1⟩ := hc.sl_inv
  have := ty1.nil_inv; subst this
  refine ⟨x1.length + 1, ?_⟩
  apply ends_eq
  rw [ev_body (c := _) rfl]
  rw [show entry Tryz.f16 [.agg [.lit (.int .i64 x0), .sl .sh x1], .agg [.lit (.int .i64 y0), .sl .sh y1]] = { s := [.agg [.lit (.int .i64 x0), .sl .sh x1], .agg [.lit (.int .i64 y0), .sl .sh y1], .undef, .undef, .undef, .undef, .undef, .undef, .undef, .undef, .undef, .undef, .undef, .undef, .undef, .undef, .undef, .undef, .undef, .undef, .undef, .undef, .undef, .undef, .undef, .undef, .undef, .undef, .undef, .undef, .undef, .undef, .undef, .undef, .undef, .undef, .undef, .undef], live := fun _ _ => none } from rfl]
  by_cases hall : (x0 = y0) ∧ x1.length = y1.length
  · obtain ⟨rfl, hl⟩ := hall
    have hl' : ((x1.length : Int) = (y1.length : Int)) := by omega
    simp -dsimp [Tryz.f16, ↓br_dec, setCells, hl', wx0, wy0, wx1, wy1]
    try simp only [← hl']
    refine lp16 call _ rfl wx0 wx1 wy0 wy1 hl (fun lv ui u0 u1 u6 u7 u8 u9 u10 u11 u12 u13 u14 u15 u16 u17 u18 u19 u20 u21 u22 u23 u24 u25 u26 u27 u28 u29 u30 u31 u32 u33 u34 u35 u36 u37 h => ?_) (fun E' h hn => ?_) x1.length _ 0 _ _ _ _ _ _ _ _ _ _ _ _ _ _ _ _ _ _ _ _ _ _ _ _ _ _ _ _ _ _ _ _ _ _ _ (by omega) (by omega) rfl (by simp [nc_lit])
    · simp -dsimp [Tryz.f16, ↓br_dec, h]
    · simp -dsimp [Tryz.f16, ↓br_dec, hn, h]
  · have hl' : ∀ a b : List (List AV), ((a.length : Int) = (b.length : Int)) = (a.length = b.length) := fun a b => propext ⟨fun h => by omega, fun h => by omega⟩
    have hlx : x1 = y1 → x1.length = y1.length := fun h => by rw [h]
    simp (config := {contextual := true, maxSteps := 3000000, dsimp := false}) [Tryz.f16, ↓br_dec, setCells, hl', wx0, wy0, wx1, wy1]
    all_goals (try simp (config := {contextual := true}))
    all_goals grind
theorem same17 (call : FuncId → List AV → Option AV) (m : Nat)
    (hc39 : ∀ x y, OkR lay139 x → OkR lay139 y → call 39 [.sl .sh x, .sl .sh y] = some (.lit (.bool (decide (x = y)))))
    {x y : List AV} (hx : OkL lay64 x) (hy : OkL lay64 y) : evBody Tryz.prog call m Tryz.f17 [.agg x, .agg y] = some (.lit (.bool (decide (x = y)))) := by
  obtain ⟨c, r, rfl, hc, tx0⟩ := hx.cons_inv
  obtain ⟨x0, rfl, wx0⟩ := hc.int_inv
  obtain ⟨c, r, rfl, hc, tx1⟩ := tx0.cons_inv
  obtain ⟨x1, rfl, wx1⟩ := hc.int_inv
  obtain ⟨c, r, rfl, hc, tx2⟩ := tx1.cons_inv
  obtain ⟨x2, rfl, wx2⟩ := hc.int_inv
  obtain ⟨c, r, rfl, hc, tx3⟩ := tx2.cons_inv
  obtain ⟨x3, rfl, wx3⟩ := hc.sl_inv
  have := tx3.nil_inv; subst this
  obtain ⟨c, r, rfl, hc, ty0⟩ := hy.cons_inv
  obtain ⟨y0, rfl, wy0⟩ := hc.int_inv
  obtain ⟨c, r, rfl, hc, ty1⟩ := ty0.cons_inv
  obtain ⟨y1, rfl, wy1⟩ := hc.int_inv
  obtain ⟨c, r, rfl, hc, ty2⟩ := ty1.cons_inv
  obtain ⟨y2, rfl, wy2⟩ := hc.int_inv
  obtain ⟨c, r, rfl, hc, ty3⟩ := ty2.cons_inv
  obtain ⟨y3, rfl, wy3⟩ := hc.sl_inv
  have := ty3.nil_inv; subst this
  apply ends_eq
  rw [ev_body (c := _) rfl]
  rw [show entry Tryz.f17 [.agg [.lit (.int .i64 x0), .lit (.int .i64 x1), .lit (.int .i64 x2), .sl .sh x3], .agg [.lit (.int .i64 y0), .lit (.int .i64 y1), .lit (.int .i64 y2), .sl .sh y3]] = { s := [.agg [.lit (.int .i64 x0), .lit (.int .i64 x1), .lit (.int .i64 x2), .sl .sh x3], .agg [.lit (.int .i64 y0), .lit (.int .i64 y1), .lit (.int .i64 y2), .sl .sh y3], .undef, .undef, .undef, .undef, .undef, .undef, .undef, .undef, .undef, .undef, .undef, .undef, .undef, .undef, .undef, .undef, .undef, .undef, .undef, .undef, .undef, .undef, .undef, .undef, .undef, .undef, .undef, .undef, .undef], live := fun _ _ => none } from rfl]
  simp (config := {contextual := true, maxSteps := 3000000, dsimp := false}) [Tryz.f17, ↓br_dec, setCells, hc39, wx0, wy0, wx1, wy1, wx2, wy2, wx3, wy3]
  all_goals (try simp (config := {contextual := true}))
  all_goals grind
theorem same23 (call : FuncId → List AV → Option AV) (m : Nat)
    (hc47 : ∀ x y, OkR lay119 x → OkR lay119 y → call 47 [.sl .sh x, .sl .sh y, .fn 48 []] = some (.lit (.bool (decide (x = y)))))
    {x y : List AV} (hx : OkL lay44 x) (hy : OkL lay44 y) : evBody Tryz.prog call m Tryz.f23 [.agg x, .agg y] = some (.lit (.bool (decide (x = y)))) := by
  obtain ⟨c, r, rfl, hc, tx0⟩ := hx.cons_inv
  obtain ⟨x0, rfl, wx0⟩ := hc.int_inv
  obtain ⟨c, r, rfl, hc, tx1⟩ := tx0.cons_inv
  obtain ⟨x1, rfl, wx1⟩ := hc.int_inv
  obtain ⟨c, r, rfl, hc, tx2⟩ := tx1.cons_inv
  obtain ⟨x2, rfl, wx2⟩ := hc.sl_inv
  obtain ⟨c, r, rfl, hc, tx3⟩ := tx2.cons_inv
  obtain ⟨x3, rfl, wx3⟩ := hc.sl_inv
  have := tx3.nil_inv; subst this
  obtain ⟨c, r, rfl, hc, ty0⟩ := hy.cons_inv
  obtain ⟨y0, rfl, wy0⟩ := hc.int_inv
  obtain ⟨c, r, rfl, hc, ty1⟩ := ty0.cons_inv
  obtain ⟨y1, rfl, wy1⟩ := hc.int_inv
  obtain ⟨c, r, rfl, hc, ty2⟩ := ty1.cons_inv
  obtain ⟨y2, rfl, wy2⟩ := hc.sl_inv
  obtain ⟨c, r, rfl, hc, ty3⟩ := ty2.cons_inv
  obtain ⟨y3, rfl, wy3⟩ := hc.sl_inv
  have := ty3.nil_inv; subst this
  apply ends_eq
  rw [ev_body (c := _) rfl]
  rw [show entry Tryz.f23 [.agg [.lit (.int .i64 x0), .lit (.int .i64 x1), .sl .sh x2, .sl .sh x3], .agg [.lit (.int .i64 y0), .lit (.int .i64 y1), .sl .sh y2, .sl .sh y3]] = { s := [.agg [.lit (.int .i64 x0), .lit (.int .i64 x1), .sl .sh x2, .sl .sh x3], .agg [.lit (.int .i64 y0), .lit (.int .i64 y1), .sl .sh y2, .sl .sh y3], .undef, .undef, .undef, .undef, .undef, .undef, .undef, .undef, .undef, .undef, .undef, .undef, .undef, .undef, .undef, .undef, .undef, .undef, .undef, .undef, .undef, .undef, .undef, .undef, .undef, .undef, .undef, .undef, .undef], live := fun _ _ => none } from rfl]
  simp (config := {contextual := true, maxSteps := 3000000, dsimp := false}) [Tryz.f23, ↓br_dec, setCells, hc47, wx0, wy0, wx1, wy1, wx2, wy2, wx3, wy3]
  all_goals (try simp (config := {contextual := true}))
  all_goals grind
theorem lp24 (call : FuncId → List AV → Option AV) (m : Nat) {g : Nat} 
    (eng : entersA Tryz.prog g = true) (hcg : ∀ x y, OkL lay66 x → OkL lay66 y → call g [.agg x, .agg y] = some (.lit (.bool (decide (x = y)))))
    {c : Code} (hcd : c = loopIn Tryz.f24 0) {es fs : List (List AV)} (he : OkR lay66 es) (hf : OkR lay66 fs) (hl : es.length = fs.length) {F : Ex × Env → Prop} (h1 : ∀ (lv : Nat → Nat → Option Nat) (ui u0 u3 u4 u5 u7 u8 u9 u10 u11 u12 u13 u14 u18 u19 u20 u21 u22 u23 u24 u25 u26 u27 u28 u29 u30 u31 : AV), es = fs → F (.exit 0, { s := [u0, .sl .sh fs, .fn g [], u3, u4, u5, .lit (.bool false), u7, u8, u9, u10, u11, u12, u13, u14, .sl .sh es, .lit (.int .i64 (es.length : Int)), ui, u18, u19, u20, u21, u22, u23, u24, u25, u26, u27, u28, u29, u30, u31], live := lv })) (h2 : ∀ E', es ≠ fs → E'.s[6]? = some (.lit (.bool false)) → F (.ret, E')) :
    ∀ (k N i : Nat) (lv : Nat → Nat → Option Nat) (u0 u3 u4 u5 u7 u8 u9 u10 u11 u12 u13 u14 u18 u19 u20 u21 u22 u23 u24 u25 u26 u27 u28 u29 u30 u31 : AV), k < N → k + i = es.length → es.take i = fs.take i →
      Ends (evLoop (evCode Tryz.prog call m c) N { s := [u0, .sl .sh fs, .fn g [], u3, u4, u5, .lit (.bool false), u7, u8, u9, u10, u11, u12, u13, u14, .sl .sh es, .lit (.int .i64 (es.length : Int)), .lit (.int .i64 (i : Int)), u18, u19, u20, u21, u22, u23, u24, u25, u26, u27, u28, u29, u30, u31], live := lv }) F := by
  intro k
  induction k with
  | zero =>
    intro N i lv u0 u3 u4 u5 u7 u8 u9 u10 u11 u12 u13 u14 u18 u19 u20 u21 u22 u23 u24 u25 u26 u27 u28 u29 u30 u31 hN hk hp
    obtain ⟨N, rfl⟩ : ∃ N', N = N' + 1 := ⟨N - 1, by omega⟩
    have hi : i = es.length := by omega
    subst hi
    rw [List.take_of_length_le (Nat.le_refl _), List.take_of_length_le (by omega)] at hp
    rw [ev_turn hcd]
    simp -dsimp [Tryz.f24, ↓br_dec]
    exact h1 _ _ _ _ _ _ _ _ _ _ _ _ _ _ _ _ _ _ _ _ _ _ _ _ _ _ _ _ hp
  | succ k ih =>
    intro N i lv u0 u3 u4 u5 u7 u8 u9 u10 u11 u12 u13 u14 u18 u19 u20 u21 u22 u23 u24 u25 u26 u27 u28 u29 u30 u31 hN hk hp
    obtain ⟨N, rfl⟩ : ∃ N', N = N' + 1 := ⟨N - 1, by omega⟩
    obtain ⟨x, hx, hxo, hxt⟩ := he.get (i := i) (by omega)
    obtain ⟨y, hy, hyo, hyt⟩ := hf.get (i := i) (by omega)
    have hlt : ((i : Int) < (es.length : Int)) := by omega
    have hbd : i < 9223372036854775807 := by have := he.1; omega
    obtain ⟨c, r, rfl, hc, tp0⟩ := hxo.cons_inv
    obtain ⟨p0, rfl, wp0⟩ := hc.str_inv
    obtain ⟨c, r, rfl, hc, tp1⟩ := tp0.cons_inv
    obtain ⟨p1, rfl, wp1⟩ := hc.int_inv
    obtain ⟨c, r, rfl, hc, tp2⟩ := tp1.cons_inv
    obtain ⟨p2, rfl, wp2⟩ := hc.sl_inv
    obtain ⟨c, r, rfl, hc, tp3⟩ := tp2.cons_inv
    obtain ⟨p3, rfl, wp3⟩ := hc.int_inv
    obtain ⟨c, r, rfl, hc, tp4⟩ := tp3.cons_inv
    obtain ⟨p4, rfl, wp4⟩ := hc.int_inv
    obtain ⟨c, r, rfl, hc, tp5⟩ := tp4.cons_inv
    obtain ⟨p5, rfl, wp5⟩ := hc.int_inv
    obtain ⟨c, r, rfl, hc, tp6⟩ := tp5.cons_inv
    obtain ⟨p6, rfl, wp6⟩ := hc.sl_inv
    have := tp6.nil_inv; subst this
    obtain ⟨c, r, rfl, hc, tq0⟩ := hyo.cons_inv
    obtain ⟨q0, rfl, wq0⟩ := hc.str_inv
    obtain ⟨c, r, rfl, hc, tq1⟩ := tq0.cons_inv
    obtain ⟨q1, rfl, wq1⟩ := hc.int_inv
    obtain ⟨c, r, rfl, hc, tq2⟩ := tq1.cons_inv
    obtain ⟨q2, rfl, wq2⟩ := hc.sl_inv
    obtain ⟨c, r, rfl, hc, tq3⟩ := tq2.cons_inv
    obtain ⟨q3, rfl, wq3⟩ := hc.int_inv
    obtain ⟨c, r, rfl, hc, tq4⟩ := tq3.cons_inv
    obtain ⟨q4, rfl, wq4⟩ := hc.int_inv
    obtain ⟨c, r, rfl, hc, tq5⟩ := tq4.cons_inv
    obtain ⟨q5, rfl, wq5⟩ := hc.int_inv
    obtain ⟨c, r, rfl, hc, tq6⟩ := tq5.cons_inv
    obtain ⟨q6, rfl, wq6⟩ := hc.sl_inv
    have := tq6.nil_inv; subst this
    rw [ev_turn hcd]
    have ihh : ([.lit (.string p0), .lit (.int .i64 p1), .sl .sh p2, .lit (.int .i64 p3), .lit (.int .i64 p4), .lit (.int .i64 p5), .sl .sh p6] : List AV) = ([.lit (.string q0), .lit (.int .i64 q1), .sl .sh q2, .lit (.int .i64 q3), .lit (.int .i64 q4), .lit (.int .i64 q5), .sl .sh q6] : List AV) → ∀ (lv : Nat → Nat → Option Nat) (u0 u3 u4 u5 u7 u8 u9 u10 u11 u12 u13 u14 u18 u19 u20 u21 u22 u23 u24 u25 u26 u27 u28 u29 u30 u31 : AV), Ends (evLoop (evCode Tryz.prog call m c) N { s := [u0, .sl .sh fs, .fn g [], u3, u4, u5, .lit (.bool false), u7, u8, u9, u10, u11, u12, u13, u14, .sl .sh es, .lit (.int .i64 (es.length : Int)), .lit (.int .i64 ((i + 1 : Nat) : Int)), u18, u19, u20, u21, u22, u23, u24, u25, u26, u27, u28, u29, u30, u31], live := lv }) F := fun hxy lv u0 u3 u4 u5 u7 u8 u9 u10 u11 u12 u13 u14 u18 u19 u20 u21 u22 u23 u24 u25 u26 u27 u28 u29 u30 u31 => ih N (i + 1) lv u0 u3 u4 u5 u7 u8 u9 u10 u11 u12 u13 u14 u18 u19 u20 u21 u22 u23 u24 u25 u26 u27 u28 u29 u30 u31 (by omega) (by omega) (by rw [hxt, hyt, hp, hxy])
    have h2h : ¬ (([.lit (.string p0), .lit (.int .i64 p1), .sl .sh p2, .lit (.int .i64 p3), .lit (.int .i64 p4), .lit (.int .i64 p5), .sl .sh p6] : List AV) = ([.lit (.string q0), .lit (.int .i64 q1), .sl .sh q2, .lit (.int .i64 q3), .lit (.int .i64 q4), .lit (.int .i64 q5), .sl .sh q6] : List AV)) → ∀ E', E'.s[6]? = some (.lit (.bool false)) → F (.ret, E') := fun hxy E' => h2 E' (fun h => hxy (by have hy' := hy; rw [← h, hx] at hy'; exact Option.some.inj hy'))
    clear ih h2
    by_cases hxy : ([.lit (.string p0), .lit (.int .i64 p1), .sl .sh p2, .lit (.int .i64 p3), .lit (.int .i64 p4), .lit (.int .i64 p5), .sl .sh p6] : List AV) = ([.lit (.string q0), .lit (.int .i64 q1), .sl .sh q2, .lit (.int .i64 q3), .lit (.int .i64 q4), .lit (.int .i64 q5), .sl .sh q6] : List AV)
    · have ihh := ihh hxy
      simp -dsimp [Tryz.f24, ↓br_dec, setCells, hlt, hx, hy, wrap_small hbd, wp0, wq0, wp1, wq1, wp2, wq2, wp3, wq3, wp4, wq4, wp5, wq5, wp6, wq6, eng, hcg, hxy]
      exact ihh _ _ _ _ _ _ _ _ _ _ _ _ _ _ _ _ _ _ _ _ _ _ _ _ _ _ _
    · have h2h := h2h hxy
      simp only [List.cons.injEq, AV.lit.injEq, Value.int.injEq, Value.string.injEq, Value.bool.injEq, AV.sl.injEq, true_and, and_true] at hxy
      simp (config := {contextual := true, maxSteps := 3000000, dsimp := false}) [Tryz.f24, ↓br_dec, setCells, hlt, hx, hy, wrap_small hbd, wp0, wq0, wp1, wq1, wp2, wq2, wp3, wq3, wp4, wq4, wp5, wq5, wp6, wq6, eng, hcg, h2h, hxy]
      all_goals (try simp (config := {contextual := true}))
      all_goals grind
theorem same24 (call : FuncId → List AV → Option AV) {g : Nat} 
    (eng : entersA Tryz.prog g = true) (hcg : ∀ x y, OkL lay66 x → OkL lay66 y → call g [.agg x, .agg y] = some (.lit (.bool (decide (x = y)))))
    {es fs : List (List AV)} (he : OkR lay66 es) (hf : OkR lay66 fs) : ∃ m, evBody Tryz.prog call m Tryz.f24 [.sl .sh es, .sl .sh fs, .fn g []] = some (.lit (.bool (decide (es = fs)))) := by
  refine ⟨es.length + 1, ?_⟩
  apply ends_eq
  rw [ev_body (c := _) rfl]
  rw [show entry Tryz.f24 [.sl .sh es, .sl .sh fs, .fn g []] = { s := [.sl .sh es, .sl .sh fs, .fn g [], .undef, .undef, .undef, .undef, .undef, .undef, .undef, .undef, .undef, .undef, .undef, .undef, .undef, .undef, .undef, .undef, .undef, .undef, .undef, .undef, .undef, .undef, .undef, .undef, .undef, .undef, .undef, .undef, .undef], live := fun _ _ => none } from rfl]
  by_cases hl : es.length = fs.length
  · have hl' : ((es.length : Int) = (fs.length : Int)) := by omega
    simp -dsimp [Tryz.f24, ↓br_dec, hl']
    try simp only [← hl']
    refine lp24 call _ eng hcg rfl he hf hl (fun lv ui u0 u3 u4 u5 u7 u8 u9 u10 u11 u12 u13 u14 u18 u19 u20 u21 u22 u23 u24 u25 u26 u27 u28 u29 u30 u31 h => ?_) (fun E' h hn => ?_) es.length _ 0 _ _ _ _ _ _ _ _ _ _ _ _ _ _ _ _ _ _ _ _ _ _ _ _ _ _ _ (by omega) (by omega) rfl
    · simp -dsimp [Tryz.f24, ↓br_dec, h]
    · simp -dsimp [Tryz.f24, ↓br_dec, hn, h]
  · have hl' : ¬ ((es.length : Int) = (fs.length : Int)) := by omega
    have : es ≠ fs := fun h => hl (by rw [h])
    simp -dsimp [Tryz.f24, ↓br_dec, hl', this]
theorem same26 (call : FuncId → List AV → Option AV) (m : Nat)
    (hc51 : ∀ x y, OkR lay102 x → OkR lay102 y → call 51 [.sl .sh x, .sl .sh y, .fn 52 []] = some (.lit (.bool (decide (x = y)))))
    {es fs : List (List AV)} (he : OkR lay102 es) (hf : OkR lay102 fs) : evBody Tryz.prog call m Tryz.f26 [.sl .sh es, .sl .sh fs] = some (.lit (.bool (decide (es = fs)))) := by
  apply ends_eq
  rw [ev_body (c := _) rfl]
  rw [show entry Tryz.f26 [.sl .sh es, .sl .sh fs] = { s := [.sl .sh es, .sl .sh fs, .undef, .undef, .undef, .undef, .undef, .undef], live := fun _ _ => none } from rfl]
  simp (config := {contextual := true, maxSteps := 3000000, dsimp := false}) [Tryz.f26, ↓br_dec, setCells, hc51, he, hf]
  all_goals (try simp (config := {contextual := true}))
  all_goals grind
theorem dr35_0 : drawnA Tryz.prog (drawnIn Tryz.f35 0) = true := drawn_of (tab := [⟨some 17, [0], false, []⟩, ⟨some 18, [5], false, []⟩, ⟨some 19, [17, 18], false, [0, 1]⟩, ⟨some 20, [19], false, [2]⟩, ⟨some 21, [1], false, []⟩, ⟨some 22, [5], false, []⟩, ⟨some 23, [21, 22], false, [4, 5]⟩, ⟨some 24, [23], false, [6]⟩, ⟨some 25, [20, 24], false, [3, 7]⟩]) follows_mixed (by kernel_rfl) (by kernel_rfl)
theorem lp35 (call : FuncId → List AV → Option AV) (m : Nat) 
    {c : Code} (hcd : c = loopIn Tryz.f35 0) {es fs : List (List AV)} (he : OkR lay9 es) (hf : OkR lay9 fs) (hl : es.length = fs.length) {F : Ex × Env → Prop} (h1 : ∀ (lv : Nat → Nat → Option Nat) (ui u2 u3 u6 u7 u8 u9 u10 u11 u12 u13 u14 u15 u16 u17 u18 u19 u20 u21 u22 u23 u24 u25 : AV), es = fs → F (.exit 0, { s := [.sl .sh es, .sl .sh fs, u2, u3, .lit (.bool false), ui, u6, u7, u8, u9, u10, u11, u12, u13, u14, u15, u16, u17, u18, u19, u20, u21, u22, u23, u24, u25], live := lv })) (h2 : ∀ E', es ≠ fs → E'.s[4]? = some (.lit (.bool false)) → F (.ret, E')) :
    ∀ (k N i : Nat) (lv : Nat → Nat → Option Nat) (u2 u3 u6 u7 u8 u9 u10 u11 u12 u13 u14 u15 u16 u17 u18 u19 u20 u21 u22 u23 u24 u25 : AV), k < N → k + i = es.length → es.take i = fs.take i →
      (∀ u ∈ [u17, u18, u19, u20, u21, u22, u23, u24, u25], notCell u = true) →
      Ends (evLoop (evCode Tryz.prog call m c) N { s := [.sl .sh es, .sl .sh fs, u2, u3, .lit (.bool false), .lit (.int .i64 (i : Int)), u6, u7, u8, u9, u10, u11, u12, u13, u14, u15, u16, u17, u18, u19, u20, u21, u22, u23, u24, u25], live := lv }) F := by
  intro k
  induction k with
  | zero =>
    intro N i lv u2 u3 u6 u7 u8 u9 u10 u11 u12 u13 u14 u15 u16 u17 u18 u19 u20 u21 u22 u23 u24 u25 hN hk hp hu
    obtain ⟨N, rfl⟩ : ∃ N', N = N' + 1 := ⟨N - 1, by omega⟩
    have hi : i = es.length := by omega
    subst hi
    rw [List.take_of_length_le (Nat.le_refl _), List.take_of_length_le (by omega)] at hp
    rw [ev_turn hcd]
    simp -dsimp [Tryz.f35, ↓br_dec]
    exact h1 _ _ _ _ _ _ _ _ _ _ _ _ _ _ _ _ _ _ _ _ _ _ _ _ hp
  | succ k ih =>
    intro N i lv u2 u3 u6 u7 u8 u9 u10 u11 u12 u13 u14 u15 u16 u17 u18 u19 u20 u21 u22 u23 u24 u25 hN hk hp hu
    obtain ⟨N, rfl⟩ : ∃ N', N = N' + 1 := ⟨N - 1, by omega⟩
    obtain ⟨x, hx, hxo, hxt⟩ := he.get (i := i) (by omega)
    obtain ⟨y, hy, hyo, hyt⟩ := hf.get (i := i) (by omega)
    have hlt : ((i : Int) < (es.length : Int)) := by omega
    have hbd : i < 9223372036854775807 := by have := he.1; omega
    simp only [List.mem_cons, List.not_mem_nil, or_false, forall_eq_or_imp, forall_eq] at hu
    obtain ⟨c, r, rfl, hc, tp0⟩ := hxo.cons_inv
    obtain ⟨p0, rfl, wp0⟩ := hc.str_inv
    have := tp0.nil_inv; subst this
    obtain ⟨c, r, rfl, hc, tq0⟩ := hyo.cons_inv
    obtain ⟨q0, rfl, wq0⟩ := hc.str_inv
    have := tq0.nil_inv; subst this
    have dr0 := dr35_0
    simp only [drawnIn, drawnsOf, Tryz.f35, List.getD_cons_succ, List.getD_cons_zero, List.nil_append, List.append_nil, List.cons_append] at dr0
    rw [ev_turn hcd]
    have ihh : ([.lit (.string p0)] : List AV) = ([.lit (.string q0)] : List AV) → ∀ (lv : Nat → Nat → Option Nat) (u2 u3 u6 u7 u8 u9 u10 u11 u12 u13 u14 u15 u16 u17 u18 u19 u20 u21 u22 u23 u24 u25 : AV), notCell u17 = true → notCell u18 = true → notCell u19 = true → notCell u20 = true → notCell u21 = true → notCell u22 = true → notCell u23 = true → notCell u24 = true → notCell u25 = true → Ends (evLoop (evCode Tryz.prog call m c) N { s := [.sl .sh es, .sl .sh fs, u2, u3, .lit (.bool false), .lit (.int .i64 ((i + 1 : Nat) : Int)), u6, u7, u8, u9, u10, u11, u12, u13, u14, u15, u16, u17, u18, u19, u20, u21, u22, u23, u24, u25], live := lv }) F := fun hxy lv u2 u3 u6 u7 u8 u9 u10 u11 u12 u13 u14 u15 u16 u17 u18 u19 u20 u21 u22 u23 u24 u25 nu17 nu18 nu19 nu20 nu21 nu22 nu23 nu24 nu25 => ih N (i + 1) lv u2 u3 u6 u7 u8 u9 u10 u11 u12 u13 u14 u15 u16 u17 u18 u19 u20 u21 u22 u23 u24 u25 (by omega) (by omega) (by rw [hxt, hyt, hp, hxy]) (by simp [nu17, nu18, nu19, nu20, nu21, nu22, nu23, nu24, nu25])
    have h2h : ¬ (([.lit (.string p0)] : List AV) = ([.lit (.string q0)] : List AV)) → ∀ E', E'.s[4]? = some (.lit (.bool false)) → F (.ret, E') := fun hxy E' => h2 E' (fun h => hxy (by have hy' := hy; rw [← h, hx] at hy'; exact Option.some.inj hy'))
    clear ih h2
    by_cases hxy : ([.lit (.string p0)] : List AV) = ([.lit (.string q0)] : List AV)
    · have ihh := ihh hxy
      simp -dsimp [Tryz.f35, ↓br_dec, ↓ev_drawn dr0, setCells, hlt, hx, hy, wrap_small hbd, hu, wp0, wq0, hxy]
      exact ihh _ _ _ _ _ _ _ _ _ _ _ _ _ _ _ _ _ _ _ _ _ _ _ rfl rfl rfl rfl rfl rfl rfl rfl rfl
    · have h2h := h2h hxy
      simp only [List.cons.injEq, AV.lit.injEq, Value.int.injEq, Value.string.injEq, Value.bool.injEq, AV.sl.injEq, true_and, and_true] at hxy
      simp (config := {contextual := true, maxSteps := 3000000, dsimp := false}) [Tryz.f35, ↓br_dec, ↓ev_drawn dr0, setCells, hlt, hx, hy, wrap_small hbd, hu, wp0, wq0, h2h, hxy]
      all_goals (try simp (config := {contextual := true}))
      all_goals grind
theorem same35 (call : FuncId → List AV → Option AV) 
    {es fs : List (List AV)} (he : OkR lay9 es) (hf : OkR lay9 fs) : ∃ m, evBody Tryz.prog call m Tryz.f35 [.sl .sh es, .sl .sh fs] = some (.lit (.bool (decide (es = fs)))) := by
  refine ⟨es.length + 1, ?_⟩
  apply ends_eq
  rw [ev_body (c := _) rfl]
  rw [show entry Tryz.f35 [.sl .sh es, .sl .sh fs] = { s := [.sl .sh es, .sl .sh fs, .undef, .undef, .undef, .undef, .undef, .undef, .undef, .undef, .undef, .undef, .undef, .undef, .undef, .undef, .undef, .undef, .undef, .undef, .undef, .undef, .undef, .undef, .undef, .undef], live := fun _ _ => none } from rfl]
  by_cases hl : es.length = fs.length
  · have hl' : ((es.length : Int) = (fs.length : Int)) := by omega
    simp -dsimp [Tryz.f35, ↓br_dec, hl']
    try simp only [← hl']
    refine lp35 call _ rfl he hf hl (fun lv ui u2 u3 u6 u7 u8 u9 u10 u11 u12 u13 u14 u15 u16 u17 u18 u19 u20 u21 u22 u23 u24 u25 h => ?_) (fun E' h hn => ?_) es.length _ 0 _ _ _ _ _ _ _ _ _ _ _ _ _ _ _ _ _ _ _ _ _ _ _ (by omega) (by omega) rfl (by simp [nc_lit])
    · simp -dsimp [Tryz.f35, ↓br_dec, h]
    · simp -dsimp [Tryz.f35, ↓br_dec, hn, h]
  · have hl' : ¬ ((es.length : Int) = (fs.length : Int)) := by omega
    have : es ≠ fs := fun h => hl (by rw [h])
    simp -dsimp [Tryz.f35, ↓br_dec, hl', this]
theorem dr36_0 : drawnA Tryz.prog (drawnIn Tryz.f36 0) = true := drawn_of (tab := [⟨some 17, [0], false, []⟩, ⟨some 18, [5], false, []⟩, ⟨some 19, [17, 18], false, [0, 1]⟩, ⟨some 20, [1], false, []⟩, ⟨some 21, [5], false, []⟩, ⟨some 22, [20, 21], false, [3, 4]⟩, ⟨some 23, [19, 22], false, [2, 5]⟩, ⟨some 24, [23], false, [6]⟩]) follows_mixed (by kernel_rfl) (by kernel_rfl)
theorem lp36 (call : FuncId → List AV → Option AV) (m : Nat)
    (hc64 : ∀ x y rx ry, OkL lay119 x → OkL lay119 y → call 64 [.eptr (x ++ rx), .eptr (y ++ ry)] = some (.lit (.bool (decide (x = y))))) 
    {c : Code} (hcd : c = loopIn Tryz.f36 0) {es fs : List (List AV)} (he : OkR lay119 es) (hf : OkR lay119 fs) (hl : es.length = fs.length) {F : Ex × Env → Prop} (h1 : ∀ (lv : Nat → Nat → Option Nat) (ui u2 u3 u6 u7 u8 u9 u10 u11 u12 u13 u14 u15 u16 u17 u18 u19 u20 u21 u22 u23 u24 : AV), es = fs → F (.exit 0, { s := [.sl .sh es, .sl .sh fs, u2, u3, .lit (.bool false), ui, u6, u7, u8, u9, u10, u11, u12, u13, u14, u15, u16, u17, u18, u19, u20, u21, u22, u23, u24], live := lv })) (h2 : ∀ E', es ≠ fs → E'.s[4]? = some (.lit (.bool false)) → F (.ret, E')) :
    ∀ (k N i : Nat) (lv : Nat → Nat → Option Nat) (u2 u3 u6 u7 u8 u9 u10 u11 u12 u13 u14 u15 u16 u17 u18 u19 u20 u21 u22 u23 u24 : AV), k < N → k + i = es.length → es.take i = fs.take i →
      (∀ u ∈ [u17, u18, u19, u20, u21, u22, u23, u24], notCell u = true) →
      Ends (evLoop (evCode Tryz.prog call m c) N { s := [.sl .sh es, .sl .sh fs, u2, u3, .lit (.bool false), .lit (.int .i64 (i : Int)), u6, u7, u8, u9, u10, u11, u12, u13, u14, u15, u16, u17, u18, u19, u20, u21, u22, u23, u24], live := lv }) F := by
  intro k
  induction k with
  | zero =>
    intro N i lv u2 u3 u6 u7 u8 u9 u10 u11 u12 u13 u14 u15 u16 u17 u18 u19 u20 u21 u22 u23 u24 hN hk hp hu
    obtain ⟨N, rfl⟩ : ∃ N', N = N' + 1 := ⟨N - 1, by omega⟩
    have hi : i = es.length := by omega
    subst hi
    rw [List.take_of_length_le (Nat.le_refl _), List.take_of_length_le (by omega)] at hp
    rw [ev_turn hcd]
    simp -dsimp [Tryz.f36, ↓br_dec]
    exact h1 _ _ _ _ _ _ _ _ _ _ _ _ _ _ _ _ _ _ _ _ _ _ _ hp
  | succ k ih =>
    intro N i lv u2 u3 u6 u7 u8 u9 u10 u11 u12 u13 u14 u15 u16 u17 u18 u19 u20 u21 u22 u23 u24 hN hk hp hu
    obtain ⟨N, rfl⟩ : ∃ N', N = N' + 1 := ⟨N - 1, by omega⟩
    obtain ⟨x, hx, hxo, hxt⟩ := he.get (i := i) (by omega)
    obtain ⟨y, hy, hyo, hyt⟩ := hf.get (i := i) (by omega)
    have hlt : ((i : Int) < (es.length : Int)) := by omega
    have hbd : i < 9223372036854775807 := by have := he.1; omega
    simp only [List.mem_cons, List.not_mem_nil, or_false, forall_eq_or_imp, forall_eq] at hu
    have hxl : x.length = 13 := hxo.1
    have hyl : y.length = 13 := hyo.1
    have hp64 := hc64 x y [] [] hxo hyo
    simp only [List.append_nil] at hp64
    have dr0 := dr36_0
    simp only [drawnIn, drawnsOf, Tryz.f36, List.getD_cons_succ, List.getD_cons_zero, List.nil_append, List.append_nil, List.cons_append] at dr0
    rw [ev_turn hcd]
    have ihh : x = y → ∀ (lv : Nat → Nat → Option Nat) (u2 u3 u6 u7 u8 u9 u10 u11 u12 u13 u14 u15 u16 u17 u18 u19 u20 u21 u22 u23 u24 : AV), notCell u17 = true → notCell u18 = true → notCell u19 = true → notCell u20 = true → notCell u21 = true → notCell u22 = true → notCell u23 = true → notCell u24 = true → Ends (evLoop (evCode Tryz.prog call m c) N { s := [.sl .sh es, .sl .sh fs, u2, u3, .lit (.bool false), .lit (.int .i64 ((i + 1 : Nat) : Int)), u6, u7, u8, u9, u10, u11, u12, u13, u14, u15, u16, u17, u18, u19, u20, u21, u22, u23, u24], live := lv }) F := fun hxy lv u2 u3 u6 u7 u8 u9 u10 u11 u12 u13 u14 u15 u16 u17 u18 u19 u20 u21 u22 u23 u24 nu17 nu18 nu19 nu20 nu21 nu22 nu23 nu24 => ih N (i + 1) lv u2 u3 u6 u7 u8 u9 u10 u11 u12 u13 u14 u15 u16 u17 u18 u19 u20 u21 u22 u23 u24 (by omega) (by omega) (by rw [hxt, hyt, hp, hxy]) (by simp [nu17, nu18, nu19, nu20, nu21, nu22, nu23, nu24])
    have h2h : ¬ (x = y) → ∀ E', E'.s[4]? = some (.lit (.bool false)) → F (.ret, E') := fun hxy E' => h2 E' (fun h => hxy (by have hy' := hy; rw [← h, hx] at hy'; exact Option.some.inj hy'))
    clear ih h2
    by_cases hxy : x = y
    · subst hxy; have ihh := ihh rfl
      simp -dsimp [Tryz.f36, ↓br_dec, ↓ev_drawn dr0, setCells, hlt, hx, hy, wrap_small hbd, hu, hxl, hyl, hxo.plain, hyo.plain, hxo, hyo, hp64]
      exact ihh _ _ _ _ _ _ _ _ _ _ _ _ _ _ _ _ _ _ _ _ _ _ rfl rfl rfl rfl rfl rfl rfl rfl
    · have h2h := h2h hxy
      skip
      simp (config := {contextual := true, maxSteps := 3000000, dsimp := false}) [Tryz.f36, ↓br_dec, ↓ev_drawn dr0, setCells, hlt, hx, hy, wrap_small hbd, hu, hxl, hyl, hxo.plain, hyo.plain, hxo, hyo, hp64, h2h, hxy]
      all_goals (try simp (config := {contextual := true}))
      all_goals grind
theorem same36 (call : FuncId → List AV → Option AV)
    (hc64 : ∀ x y rx ry, OkL lay119 x → OkL lay119 y → call 64 [.eptr (x ++ rx), .eptr (y ++ ry)] = some (.lit (.bool (decide (x = y))))) 
    {es fs : List (List AV)} (he : OkR lay119 es) (hf : OkR lay119 fs) : ∃ m, evBody Tryz.prog call m Tryz.f36 [.sl .sh es, .sl .sh fs] = some (.lit (.bool (decide (es = fs)))) := by
  refine ⟨es.length + 1, ?_⟩
  apply ends_eq
  rw [ev_body (c := _) rfl]
  rw [show entry Tryz.f36 [.sl .sh es, .sl .sh fs] = { s := [.sl .sh es, .sl .sh fs, .undef, .undef, .undef, .undef, .undef, .undef, .undef, .undef, .undef, .undef, .undef, .undef, .undef, .undef, .undef, .undef, .undef, .undef, .undef, .undef, .undef, .undef, .undef], live := fun _ _ => none } from rfl]
  by_cases hl : es.length = fs.length
  · have hl' : ((es.length : Int) = (fs.length : Int)) := by omega
    simp -dsimp [Tryz.f36, ↓br_dec, hl']
    try simp only [← hl']
    refine lp36 call _ hc64 rfl he hf hl (fun lv ui u2 u3 u6 u7 u8 u9 u10 u11 u12 u13 u14 u15 u16 u17 u18 u19 u20 u21 u22 u23 u24 h => ?_) (fun E' h hn => ?_) es.length _ 0 _ _ _ _ _ _ _ _ _ _ _ _ _ _ _ _ _ _ _ _ _ _ (by omega) (by omega) rfl (by simp [nc_lit])
    · simp -dsimp [Tryz.f36, ↓br_dec, h]
    · simp -dsimp [Tryz.f36, ↓br_dec, hn, h]
  · have hl' : ¬ ((es.length : Int) = (fs.length : Int)) := by omega
    have : es ≠ fs := fun h => hl (by rw [h])
    simp -dsimp [Tryz.f36, ↓br_dec, hl', this]
theorem same37 (call : FuncId → List AV → Option AV) (m : Nat)
    (hc65 : ∀ x y, OkR lay146 x → OkR lay146 y → call 65 [.sl .sh x, .sl .sh y] = some (.lit (.bool (decide (x = y)))))
    {x y : List AV} (hx : OkL lay99 x) (hy : OkL lay99 y) : evBody Tryz.prog call m Tryz.f37 [.agg x, .agg y] = some (.lit (.bool (decide (x = y)))) := by
  obtain ⟨c, r, rfl, hc, tx0⟩ := hx.cons_inv
  obtain ⟨x0, rfl, wx0⟩ := hc.str_inv
  obtain ⟨c, r, rfl, hc, tx1⟩ := tx0.cons_inv
  obtain ⟨x1, rfl, wx1⟩ := hc.str_inv
  obtain ⟨c, r, rfl, hc, tx2⟩ := tx1.cons_inv
  obtain ⟨x2, rfl, wx2⟩ := hc.str_inv
  obtain ⟨c, r, rfl, hc, tx3⟩ := tx2.cons_inv
  obtain ⟨x3, rfl, wx3⟩ := hc.sl_inv
  have := tx3.nil_inv; subst this
  obtain ⟨c, r, rfl, hc, ty0⟩ := hy.cons_inv
  obtain ⟨y0, rfl, wy0⟩ := hc.str_inv
  obtain ⟨c, r, rfl, hc, ty1⟩ := ty0.cons_inv
  obtain ⟨y1, rfl, wy1⟩ := hc.str_inv
  obtain ⟨c, r, rfl, hc, ty2⟩ := ty1.cons_inv
  obtain ⟨y2, rfl, wy2⟩ := hc.str_inv
  obtain ⟨c, r, rfl, hc, ty3⟩ := ty2.cons_inv
  obtain ⟨y3, rfl, wy3⟩ := hc.sl_inv
  have := ty3.nil_inv; subst this
  apply ends_eq
  rw [ev_body (c := _) rfl]
  rw [show entry Tryz.f37 [.agg [.lit (.string x0), .lit (.string x1), .lit (.string x2), .sl .sh x3], .agg [.lit (.string y0), .lit (.string y1), .lit (.string y2), .sl .sh y3]] = { s := [.agg [.lit (.string x0), .lit (.string x1), .lit (.string x2), .sl .sh x3], .agg [.lit (.string y0), .lit (.string y1), .lit (.string y2), .sl .sh y3], .undef, .undef, .undef, .undef, .undef, .undef, .undef, .undef, .undef, .undef, .undef, .undef, .undef, .undef, .undef, .undef, .undef, .undef, .undef, .undef, .undef, .undef, .undef, .undef, .undef, .undef, .undef, .undef, .undef], live := fun _ _ => none } from rfl]
  simp (config := {contextual := true, maxSteps := 3000000, dsimp := false}) [Tryz.f37, ↓br_dec, setCells, hc65, wx0, wy0, wx1, wy1, wx2, wy2, wx3, wy3]
  all_goals (try simp (config := {contextual := true}))
  all_goals grind
theorem dr38_0 : drawnA Tryz.prog (drawnIn Tryz.f38 0) = true := drawn_of (tab := [⟨some 17, [0], false, []⟩, ⟨some 18, [5], false, []⟩, ⟨some 19, [17, 18], false, [0, 1]⟩, ⟨some 20, [19], false, [2]⟩, ⟨some 21, [1], false, []⟩, ⟨some 22, [5], false, []⟩, ⟨some 23, [21, 22], false, [4, 5]⟩, ⟨some 24, [23], false, [6]⟩, ⟨some 25, [20, 24], false, [3, 7]⟩]) follows_mixed (by kernel_rfl) (by kernel_rfl)
theorem lp38 (call : FuncId → List AV → Option AV) (m : Nat) 
    {c : Code} (hcd : c = loopIn Tryz.f38 0) {es fs : List (List AV)} (he : OkR lay137 es) (hf : OkR lay137 fs) (hl : es.length = fs.length) {F : Ex × Env → Prop} (h1 : ∀ (lv : Nat → Nat → Option Nat) (ui u2 u3 u6 u7 u8 u9 u10 u11 u12 u13 u14 u15 u16 u17 u18 u19 u20 u21 u22 u23 u24 u25 : AV), es = fs → F (.exit 0, { s := [.sl .sh es, .sl .sh fs, u2, u3, .lit (.bool false), ui, u6, u7, u8, u9, u10, u11, u12, u13, u14, u15, u16, u17, u18, u19, u20, u21, u22, u23, u24, u25], live := lv })) (h2 : ∀ E', es ≠ fs → E'.s[4]? = some (.lit (.bool false)) → F (.ret, E')) :
    ∀ (k N i : Nat) (lv : Nat → Nat → Option Nat) (u2 u3 u6 u7 u8 u9 u10 u11 u12 u13 u14 u15 u16 u17 u18 u19 u20 u21 u22 u23 u24 u25 : AV), k < N → k + i = es.length → es.take i = fs.take i →
      (∀ u ∈ [u17, u18, u19, u20, u21, u22, u23, u24, u25], notCell u = true) →
      Ends (evLoop (evCode Tryz.prog call m c) N { s := [.sl .sh es, .sl .sh fs, u2, u3, .lit (.bool false), .lit (.int .i64 (i : Int)), u6, u7, u8, u9, u10, u11, u12, u13, u14, u15, u16, u17, u18, u19, u20, u21, u22, u23, u24, u25], live := lv }) F := by
  intro k
  induction k with
  | zero =>
    intro N i lv u2 u3 u6 u7 u8 u9 u10 u11 u12 u13 u14 u15 u16 u17 u18 u19 u20 u21 u22 u23 u24 u25 hN hk hp hu
    obtain ⟨N, rfl⟩ : ∃ N', N = N' + 1 := ⟨N - 1, by omega⟩
    have hi : i = es.length := by omega
    subst hi
    rw [List.take_of_length_le (Nat.le_refl _), List.take_of_length_le (by omega)] at hp
    rw [ev_turn hcd]
    simp -dsimp [Tryz.f38, ↓br_dec]
    exact h1 _ _ _ _ _ _ _ _ _ _ _ _ _ _ _ _ _ _ _ _ _ _ _ _ hp
  | succ k ih =>
    intro N i lv u2 u3 u6 u7 u8 u9 u10 u11 u12 u13 u14 u15 u16 u17 u18 u19 u20 u21 u22 u23 u24 u25 hN hk hp hu
    obtain ⟨N, rfl⟩ : ∃ N', N = N' + 1 := ⟨N - 1, by omega⟩
    obtain ⟨x, hx, hxo, hxt⟩ := he.get (i := i) (by omega)
    obtain ⟨y, hy, hyo, hyt⟩ := hf.get (i := i) (by omega)
    have hlt : ((i : Int) < (es.length : Int)) := by omega
    have hbd : i < 9223372036854775807 := by have := he.1; omega
    simp only [List.mem_cons, List.not_mem_nil, or_false, forall_eq_or_imp, forall_eq] at hu
    have hxl : x.length = 4 := hxo.1
    have hyl : y.length = 4 := hyo.1
    have dr0 := dr38_0
    simp only [drawnIn, drawnsOf, Tryz.f38, List.getD_cons_succ, List.getD_cons_zero, List.nil_append, List.append_nil, List.cons_append] at dr0
    rw [ev_turn hcd]
    have ihh : x = y → ∀ (lv : Nat → Nat → Option Nat) (u2 u3 u6 u7 u8 u9 u10 u11 u12 u13 u14 u15 u16 u17 u18 u19 u20 u21 u22 u23 u24 u25 : AV), notCell u17 = true → notCell u18 = true → notCell u19 = true → notCell u20 = true → notCell u21 = true → notCell u22 = true → notCell u23 = true → notCell u24 = true → notCell u25 = true → Ends (evLoop (evCode Tryz.prog call m c) N { s := [.sl .sh es, .sl .sh fs, u2, u3, .lit (.bool false), .lit (.int .i64 ((i + 1 : Nat) : Int)), u6, u7, u8, u9, u10, u11, u12, u13, u14, u15, u16, u17, u18, u19, u20, u21, u22, u23, u24, u25], live := lv }) F := fun hxy lv u2 u3 u6 u7 u8 u9 u10 u11 u12 u13 u14 u15 u16 u17 u18 u19 u20 u21 u22 u23 u24 u25 nu17 nu18 nu19 nu20 nu21 nu22 nu23 nu24 nu25 => ih N (i + 1) lv u2 u3 u6 u7 u8 u9 u10 u11 u12 u13 u14 u15 u16 u17 u18 u19 u20 u21 u22 u23 u24 u25 (by omega) (by omega) (by rw [hxt, hyt, hp, hxy]) (by simp [nu17, nu18, nu19, nu20, nu21, nu22, nu23, nu24, nu25])
    have h2h : ¬ (x = y) → ∀ E', E'.s[4]? = some (.lit (.bool false)) → F (.ret, E') := fun hxy E' => h2 E' (fun h => hxy (by have hy' := hy; rw [← h, hx] at hy'; exact Option.some.inj hy'))
    clear ih h2
    by_cases hxy : x = y
    · subst hxy; have ihh := ihh rfl
      simp -dsimp [Tryz.f38, ↓br_dec, ↓ev_drawn dr0, setCells, hlt, hx, hy, wrap_small hbd, hu, hxl, hyl, hxo.plain, hyo.plain, hxo, hyo]
      exact ihh _ _ _ _ _ _ _ _ _ _ _ _ _ _ _ _ _ _ _ _ _ _ _ rfl rfl rfl rfl rfl rfl rfl rfl rfl
    · have h2h := h2h hxy
      skip
      simp (config := {contextual := true, maxSteps := 3000000, dsimp := false}) [Tryz.f38, ↓br_dec, ↓ev_drawn dr0, setCells, hlt, hx, hy, wrap_small hbd, hu, hxl, hyl, hxo.plain, hyo.plain, hxo, hyo, h2h, hxy]
      all_goals (try simp (config := {contextual := true}))
      all_goals grind
theorem same38 (call : FuncId → List AV → Option AV) 
    {es fs : List (List AV)} (he : OkR lay137 es) (hf : OkR lay137 fs) : ∃ m, evBody Tryz.prog call m Tryz.f38 [.sl .sh es, .sl .sh fs] = some (.lit (.bool (decide (es = fs)))) := by
  refine ⟨es.length + 1, ?_⟩
  apply ends_eq
  rw [ev_body (c := _) rfl]
  rw [show entry Tryz.f38 [.sl .sh es, .sl .sh fs] = { s := [.sl .sh es, .sl .sh fs, .undef, .undef, .undef, .undef, .undef, .undef, .undef, .undef, .undef, .undef, .undef, .undef, .undef, .undef, .undef, .undef, .undef, .undef, .undef, .undef, .undef, .undef, .undef, .undef], live := fun _ _ => none } from rfl]
  by_cases hl : es.length = fs.length
  · have hl' : ((es.length : Int) = (fs.length : Int)) := by omega
    simp -dsimp [Tryz.f38, ↓br_dec, hl']
    try simp only [← hl']
    refine lp38 call _ rfl he hf hl (fun lv ui u2 u3 u6 u7 u8 u9 u10 u11 u12 u13 u14 u15 u16 u17 u18 u19 u20 u21 u22 u23 u24 u25 h => ?_) (fun E' h hn => ?_) es.length _ 0 _ _ _ _ _ _ _ _ _ _ _ _ _ _ _ _ _ _ _ _ _ _ _ (by omega) (by omega) rfl (by simp [nc_lit])
    · simp -dsimp [Tryz.f38, ↓br_dec, h]
    · simp -dsimp [Tryz.f38, ↓br_dec, hn, h]
  · have hl' : ¬ ((es.length : Int) = (fs.length : Int)) := by omega
    have : es ≠ fs := fun h => hl (by rw [h])
    simp -dsimp [Tryz.f38, ↓br_dec, hl', this]
theorem dr39_0 : drawnA Tryz.prog (drawnIn Tryz.f39 0) = true := drawn_of (tab := [⟨some 17, [0], false, []⟩, ⟨some 18, [5], false, []⟩, ⟨some 19, [17, 18], false, [0, 1]⟩, ⟨some 20, [19], false, [2]⟩, ⟨some 21, [1], false, []⟩, ⟨some 22, [5], false, []⟩, ⟨some 23, [21, 22], false, [4, 5]⟩, ⟨some 24, [23], false, [6]⟩, ⟨some 25, [20, 24], false, [3, 7]⟩]) follows_mixed (by kernel_rfl) (by kernel_rfl)
theorem lp39 (call : FuncId → List AV → Option AV) (m : Nat) 
    {c : Code} (hcd : c = loopIn Tryz.f39 0) {es fs : List (List AV)} (he : OkR lay139 es) (hf : OkR lay139 fs) (hl : es.length = fs.length) {F : Ex × Env → Prop} (h1 : ∀ (lv : Nat → Nat → Option Nat) (ui u2 u3 u6 u7 u8 u9 u10 u11 u12 u13 u14 u15 u16 u17 u18 u19 u20 u21 u22 u23 u24 u25 : AV), es = fs → F (.exit 0, { s := [.sl .sh es, .sl .sh fs, u2, u3, .lit (.bool false), ui, u6, u7, u8, u9, u10, u11, u12, u13, u14, u15, u16, u17, u18, u19, u20, u21, u22, u23, u24, u25], live := lv })) (h2 : ∀ E', es ≠ fs → E'.s[4]? = some (.lit (.bool false)) → F (.ret, E')) :
    ∀ (k N i : Nat) (lv : Nat → Nat → Option Nat) (u2 u3 u6 u7 u8 u9 u10 u11 u12 u13 u14 u15 u16 u17 u18 u19 u20 u21 u22 u23 u24 u25 : AV), k < N → k + i = es.length → es.take i = fs.take i →
      (∀ u ∈ [u17, u18, u19, u20, u21, u22, u23, u24, u25], notCell u = true) →
      Ends (evLoop (evCode Tryz.prog call m c) N { s := [.sl .sh es, .sl .sh fs, u2, u3, .lit (.bool false), .lit (.int .i64 (i : Int)), u6, u7, u8, u9, u10, u11, u12, u13, u14, u15, u16, u17, u18, u19, u20, u21, u22, u23, u24, u25], live := lv }) F := by
  intro k
  induction k with
  | zero =>
    intro N i lv u2 u3 u6 u7 u8 u9 u10 u11 u12 u13 u14 u15 u16 u17 u18 u19 u20 u21 u22 u23 u24 u25 hN hk hp hu
    obtain ⟨N, rfl⟩ : ∃ N', N = N' + 1 := ⟨N - 1, by omega⟩
    have hi : i = es.length := by omega
    subst hi
    rw [List.take_of_length_le (Nat.le_refl _), List.take_of_length_le (by omega)] at hp
    rw [ev_turn hcd]
    simp -dsimp [Tryz.f39, ↓br_dec]
    exact h1 _ _ _ _ _ _ _ _ _ _ _ _ _ _ _ _ _ _ _ _ _ _ _ _ hp
  | succ k ih =>
    intro N i lv u2 u3 u6 u7 u8 u9 u10 u11 u12 u13 u14 u15 u16 u17 u18 u19 u20 u21 u22 u23 u24 u25 hN hk hp hu
    obtain ⟨N, rfl⟩ : ∃ N', N = N' + 1 := ⟨N - 1, by omega⟩
    obtain ⟨x, hx, hxo, hxt⟩ := he.get (i := i) (by omega)
    obtain ⟨y, hy, hyo, hyt⟩ := hf.get (i := i) (by omega)
    have hlt : ((i : Int) < (es.length : Int)) := by omega
    have hbd : i < 9223372036854775807 := by have := he.1; omega
    simp only [List.mem_cons, List.not_mem_nil, or_false, forall_eq_or_imp, forall_eq] at hu
    have hxl : x.length = 2 := hxo.1
    have hyl : y.length = 2 := hyo.1
    have dr0 := dr39_0
    simp only [drawnIn, drawnsOf, Tryz.f39, List.getD_cons_succ, List.getD_cons_zero, List.nil_append, List.append_nil, List.cons_append] at dr0
    rw [ev_turn hcd]
    have ihh : x = y → ∀ (lv : Nat → Nat → Option Nat) (u2 u3 u6 u7 u8 u9 u10 u11 u12 u13 u14 u15 u16 u17 u18 u19 u20 u21 u22 u23 u24 u25 : AV), notCell u17 = true → notCell u18 = true → notCell u19 = true → notCell u20 = true → notCell u21 = true → notCell u22 = true → notCell u23 = true → notCell u24 = true → notCell u25 = true → Ends (evLoop (evCode Tryz.prog call m c) N { s := [.sl .sh es, .sl .sh fs, u2, u3, .lit (.bool false), .lit (.int .i64 ((i + 1 : Nat) : Int)), u6, u7, u8, u9, u10, u11, u12, u13, u14, u15, u16, u17, u18, u19, u20, u21, u22, u23, u24, u25], live := lv }) F := fun hxy lv u2 u3 u6 u7 u8 u9 u10 u11 u12 u13 u14 u15 u16 u17 u18 u19 u20 u21 u22 u23 u24 u25 nu17 nu18 nu19 nu20 nu21 nu22 nu23 nu24 nu25 => ih N (i + 1) lv u2 u3 u6 u7 u8 u9 u10 u11 u12 u13 u14 u15 u16 u17 u18 u19 u20 u21 u22 u23 u24 u25 (by omega) (by omega) (by rw [hxt, hyt, hp, hxy]) (by simp [nu17, nu18, nu19, nu20, nu21, nu22, nu23, nu24, nu25])
    have h2h : ¬ (x = y) → ∀ E', E'.s[4]? = some (.lit (.bool false)) → F (.ret, E') := fun hxy E' => h2 E' (fun h => hxy (by have hy' := hy; rw [← h, hx] at hy'; exact Option.some.inj hy'))
    clear ih h2
    by_cases hxy : x = y
    · subst hxy; have ihh := ihh rfl
      simp -dsimp [Tryz.f39, ↓br_dec, ↓ev_drawn dr0, setCells, hlt, hx, hy, wrap_small hbd, hu, hxl, hyl, hxo.plain, hyo.plain, hxo, hyo]
      exact ihh _ _ _ _ _ _ _ _ _ _ _ _ _ _ _ _ _ _ _ _ _ _ _ rfl rfl rfl rfl rfl rfl rfl rfl rfl
    · have h2h := h2h hxy
      skip
      simp (config := {contextual := true, maxSteps := 3000000, dsimp := false}) [Tryz.f39, ↓br_dec, ↓ev_drawn dr0, setCells, hlt, hx, hy, wrap_small hbd, hu, hxl, hyl, hxo.plain, hyo.plain, hxo, hyo, h2h, hxy]
      all_goals (try simp (config := {contextual := true}))
      all_goals grind
theorem same39 (call : FuncId → List AV → Option AV) 
    {es fs : List (List AV)} (he : OkR lay139 es) (hf : OkR lay139 fs) : ∃ m, evBody Tryz.prog call m Tryz.f39 [.sl .sh es, .sl .sh fs] = some (.lit (.bool (decide (es = fs)))) := by
  refine ⟨es.length + 1, ?_⟩
  apply ends_eq
  rw [ev_body (c := _) rfl]
  rw [show entry Tryz.f39 [.sl .sh es, .sl .sh fs] = { s := [.sl .sh es, .sl .sh fs, .undef, .undef, .undef, .undef, .undef, .undef, .undef, .undef, .undef, .undef, .undef, .undef, .undef, .undef, .undef, .undef, .undef, .undef, .undef, .undef, .undef, .undef, .undef, .undef], live := fun _ _ => none } from rfl]
  by_cases hl : es.length = fs.length
  · have hl' : ((es.length : Int) = (fs.length : Int)) := by omega
    simp -dsimp [Tryz.f39, ↓br_dec, hl']
    try simp only [← hl']
    refine lp39 call _ rfl he hf hl (fun lv ui u2 u3 u6 u7 u8 u9 u10 u11 u12 u13 u14 u15 u16 u17 u18 u19 u20 u21 u22 u23 u24 u25 h => ?_) (fun E' h hn => ?_) es.length _ 0 _ _ _ _ _ _ _ _ _ _ _ _ _ _ _ _ _ _ _ _ _ _ _ (by omega) (by omega) rfl (by simp [nc_lit])
    · simp -dsimp [Tryz.f39, ↓br_dec, h]
    · simp -dsimp [Tryz.f39, ↓br_dec, hn, h]
  · have hl' : ¬ ((es.length : Int) = (fs.length : Int)) := by omega
    have : es ≠ fs := fun h => hl (by rw [h])
    simp -dsimp [Tryz.f39, ↓br_dec, hl', this]
theorem dr46_0 : drawnA Tryz.prog (drawnIn Tryz.f46 0) = true := drawn_of (tab := [⟨some 16, [0], false, []⟩, ⟨some 17, [5], false, []⟩, ⟨some 18, [16, 17], false, [0, 1]⟩, ⟨some 19, [18], false, [2]⟩, ⟨some 20, [1], false, []⟩, ⟨some 21, [5], false, []⟩, ⟨some 22, [20, 21], false, [4, 5]⟩, ⟨some 23, [22], false, [6]⟩, ⟨some 24, [19, 23], false, [3, 7]⟩]) follows_mixed (by kernel_rfl) (by kernel_rfl)
theorem lp46 (call : FuncId → List AV → Option AV) (m : Nat) 
    {c : Code} (hcd : c = loopIn Tryz.f46 0) {es fs : List (List AV)} (he : OkR lay9 es) (hf : OkR lay9 fs) (hl : es.length = fs.length) {F : Ex × Env → Prop} (h1 : ∀ (lv : Nat → Nat → Option Nat) (ui u2 u3 u5 u6 u7 u8 u9 u10 u11 u14 u15 u16 u17 u18 u19 u20 u21 u22 u23 u24 u25 : AV), es = fs → F (.exit 0, { s := [.sl .sh es, .sl .sh fs, u2, u3, .lit (.bool false), u5, u6, u7, u8, u9, u10, u11, .lit (.int .i64 (es.length : Int)), ui, u14, u15, u16, u17, u18, u19, u20, u21, u22, u23, u24, u25], live := lv })) (h2 : ∀ E', es ≠ fs → E'.s[4]? = some (.lit (.bool false)) → F (.ret, E')) :
    ∀ (k N i : Nat) (lv : Nat → Nat → Option Nat) (u2 u3 u5 u6 u7 u8 u9 u10 u11 u14 u15 u16 u17 u18 u19 u20 u21 u22 u23 u24 u25 : AV), k < N → k + i = es.length → es.take i = fs.take i →
      (∀ u ∈ [u16, u17, u18, u19, u20, u21, u22, u23, u24], notCell u = true) →
      Ends (evLoop (evCode Tryz.prog call m c) N { s := [.sl .sh es, .sl .sh fs, u2, u3, .lit (.bool false), u5, u6, u7, u8, u9, u10, u11, .lit (.int .i64 (es.length : Int)), .lit (.int .i64 (i : Int)), u14, u15, u16, u17, u18, u19, u20, u21, u22, u23, u24, u25], live := lv }) F := by
  intro k
  induction k with
  | zero =>
    intro N i lv u2 u3 u5 u6 u7 u8 u9 u10 u11 u14 u15 u16 u17 u18 u19 u20 u21 u22 u23 u24 u25 hN hk hp hu
    obtain ⟨N, rfl⟩ : ∃ N', N = N' + 1 := ⟨N - 1, by omega⟩
    have hi : i = es.length := by omega
    subst hi
    rw [List.take_of_length_le (Nat.le_refl _), List.take_of_length_le (by omega)] at hp
    rw [ev_turn hcd]
    simp -dsimp [Tryz.f46, ↓br_dec]
    exact h1 _ _ _ _ _ _ _ _ _ _ _ _ _ _ _ _ _ _ _ _ _ _ _ hp
  | succ k ih =>
    intro N i lv u2 u3 u5 u6 u7 u8 u9 u10 u11 u14 u15 u16 u17 u18 u19 u20 u21 u22 u23 u24 u25 hN hk hp hu
    obtain ⟨N, rfl⟩ : ∃ N', N = N' + 1 := ⟨N - 1, by omega⟩
    obtain ⟨x, hx, hxo, hxt⟩ := he.get (i := i) (by omega)
    obtain ⟨y, hy, hyo, hyt⟩ := hf.get (i := i) (by omega)
    have hlt : ((i : Int) < (es.length : Int)) := by omega
    have hbd : i < 9223372036854775807 := by have := he.1; omega
    simp only [List.mem_cons, List.not_mem_nil, or_false, forall_eq_or_imp, forall_eq] at hu
    obtain ⟨c, r, rfl, hc, tp0⟩ := hxo.cons_inv
    obtain ⟨p0, rfl, wp0⟩ := hc.str_inv
    have := tp0.nil_inv; subst this
    obtain ⟨c, r, rfl, hc, tq0⟩ := hyo.cons_inv
    obtain ⟨q0, rfl, wq0⟩ := hc.str_inv
    have := tq0.nil_inv; subst this
    have dr0 := dr46_0
    simp only [drawnIn, drawnsOf, Tryz.f46, List.getD_cons_succ, List.getD_cons_zero, List.nil_append, List.append_nil, List.cons_append] at dr0
    rw [ev_turn hcd]
    have ihh : ([.lit (.string p0)] : List AV) = ([.lit (.string q0)] : List AV) → ∀ (lv : Nat → Nat → Option Nat) (u2 u3 u5 u6 u7 u8 u9 u10 u11 u14 u15 u16 u17 u18 u19 u20 u21 u22 u23 u24 u25 : AV), notCell u16 = true → notCell u17 = true → notCell u18 = true → notCell u19 = true → notCell u20 = true → notCell u21 = true → notCell u22 = true → notCell u23 = true → notCell u24 = true → Ends (evLoop (evCode Tryz.prog call m c) N { s := [.sl .sh es, .sl .sh fs, u2, u3, .lit (.bool false), u5, u6, u7, u8, u9, u10, u11, .lit (.int .i64 (es.length : Int)), .lit (.int .i64 ((i + 1 : Nat) : Int)), u14, u15, u16, u17, u18, u19, u20, u21, u22, u23, u24, u25], live := lv }) F := fun hxy lv u2 u3 u5 u6 u7 u8 u9 u10 u11 u14 u15 u16 u17 u18 u19 u20 u21 u22 u23 u24 u25 nu16 nu17 nu18 nu19 nu20 nu21 nu22 nu23 nu24 => ih N (i + 1) lv u2 u3 u5 u6 u7 u8 u9 u10 u11 u14 u15 u16 u17 u18 u19 u20 u21 u22 u23 u24 u25 (by omega) (by omega) (by rw [hxt, hyt, hp, hxy]) (by simp [nu16, nu17, nu18, nu19, nu20, nu21, nu22, nu23, nu24])
    have h2h : ¬ (([.lit (.string p0)] : List AV) = ([.lit (.string q0)] : List AV)) → ∀ E', E'.s[4]? = some (.lit (.bool false)) → F (.ret, E') := fun hxy E' => h2 E' (fun h => hxy (by have hy' := hy; rw [← h, hx] at hy'; exact Option.some.inj hy'))
    clear ih h2
    by_cases hxy : ([.lit (.string p0)] : List AV) = ([.lit (.string q0)] : List AV)
    · have ihh := ihh hxy
      simp -dsimp [Tryz.f46, ↓br_dec, ↓ev_drawn dr0, setCells, hlt, hx, hy, wrap_small hbd, hu, wp0, wq0, hxy]
      exact ihh _ _ _ _ _ _ _ _ _ _ _ _ _ _ _ _ _ _ _ _ _ _ rfl rfl rfl rfl rfl rfl rfl rfl rfl
    · have h2h := h2h hxy
      simp only [List.cons.injEq, AV.lit.injEq, Value.int.injEq, Value.string.injEq, Value.bool.injEq, AV.sl.injEq, true_and, and_true] at hxy
      simp (config := {contextual := true, maxSteps := 3000000, dsimp := false}) [Tryz.f46, ↓br_dec, ↓ev_drawn dr0, setCells, hlt, hx, hy, wrap_small hbd, hu, wp0, wq0, h2h, hxy]
      all_goals (try simp (config := {contextual := true}))
      all_goals grind
theorem same46 (call : FuncId → List AV → Option AV) 
    {es fs : List (List AV)} (he : OkR lay9 es) (hf : OkR lay9 fs) : ∃ m, evBody Tryz.prog call m Tryz.f46 [.sl .sh es, .sl .sh fs] = some (.lit (.bool (decide (es = fs)))) := by
  refine ⟨es.length + 1, ?_⟩
  apply ends_eq
  rw [ev_body (c := _) rfl]
  rw [show entry Tryz.f46 [.sl .sh es, .sl .sh fs] = { s := [.sl .sh es, .sl .sh fs, .undef, .undef, .undef, .undef, .undef, .undef, .undef, .undef, .undef, .undef, .undef, .undef, .undef, .undef, .undef, .undef, .undef, .undef, .undef, .undef, .undef, .undef, .undef, .undef], live := fun _ _ => none } from rfl]
  by_cases hl : es.length = fs.length
  · have hl' : ((es.length : Int) = (fs.length : Int)) := by omega
    simp -dsimp [Tryz.f46, ↓br_dec, hl']
    try simp only [← hl']
    refine lp46 call _ rfl he hf hl (fun lv ui u2 u3 u5 u6 u7 u8 u9 u10 u11 u14 u15 u16 u17 u18 u19 u20 u21 u22 u23 u24 u25 h => ?_) (fun E' h hn => ?_) es.length _ 0 _ _ _ _ _ _ _ _ _ _ _ _ _ _ _ _ _ _ _ _ _ _ (by omega) (by omega) rfl (by simp [nc_lit])
    · simp -dsimp [Tryz.f46, ↓br_dec, h]
    · simp -dsimp [Tryz.f46, ↓br_dec, hn, h]
  · have hl' : ¬ ((es.length : Int) = (fs.length : Int)) := by omega
    have : es ≠ fs := fun h => hl (by rw [h])
    simp -dsimp [Tryz.f46, ↓br_dec, hl', this]
theorem lp47 (call : FuncId → List AV → Option AV) (m : Nat) {g : Nat} 
    (eng : entersA Tryz.prog g = true) (hcg : ∀ x y, OkL lay119 x → OkL lay119 y → call g [.agg x, .agg y] = some (.lit (.bool (decide (x = y)))))
    {c : Code} (hcd : c = loopIn Tryz.f47 0) {es fs : List (List AV)} (he : OkR lay119 es) (hf : OkR lay119 fs) (hl : es.length = fs.length) {F : Ex × Env → Prop} (h1 : ∀ (lv : Nat → Nat → Option Nat) (ui u0 u3 u4 u5 u7 u8 u9 u10 u11 u12 u13 u14 u18 u19 u20 u21 u22 u23 u24 u25 u26 u27 u28 u29 u30 u31 : AV), es = fs → F (.exit 0, { s := [u0, .sl .sh fs, .fn g [], u3, u4, u5, .lit (.bool false), u7, u8, u9, u10, u11, u12, u13, u14, .sl .sh es, .lit (.int .i64 (es.length : Int)), ui, u18, u19, u20, u21, u22, u23, u24, u25, u26, u27, u28, u29, u30, u31], live := lv })) (h2 : ∀ E', es ≠ fs → E'.s[6]? = some (.lit (.bool false)) → F (.ret, E')) :
    ∀ (k N i : Nat) (lv : Nat → Nat → Option Nat) (u0 u3 u4 u5 u7 u8 u9 u10 u11 u12 u13 u14 u18 u19 u20 u21 u22 u23 u24 u25 u26 u27 u28 u29 u30 u31 : AV), k < N → k + i = es.length → es.take i = fs.take i →
      Ends (evLoop (evCode Tryz.prog call m c) N { s := [u0, .sl .sh fs, .fn g [], u3, u4, u5, .lit (.bool false), u7, u8, u9, u10, u11, u12, u13, u14, .sl .sh es, .lit (.int .i64 (es.length : Int)), .lit (.int .i64 (i : Int)), u18, u19, u20, u21, u22, u23, u24, u25, u26, u27, u28, u29, u30, u31], live := lv }) F := by
  intro k
  induction k with
  | zero =>
    intro N i lv u0 u3 u4 u5 u7 u8 u9 u10 u11 u12 u13 u14 u18 u19 u20 u21 u22 u23 u24 u25 u26 u27 u28 u29 u30 u31 hN hk hp
    obtain ⟨N, rfl⟩ : ∃ N', N = N' + 1 := ⟨N - 1, by omega⟩
    have hi : i = es.length := by omega
    subst hi
    rw [List.take_of_length_le (Nat.le_refl _), List.take_of_length_le (by omega)] at hp
    rw [ev_turn hcd]
    simp -dsimp [Tryz.f47, ↓br_dec]
    exact h1 _ _ _ _ _ _ _ _ _ _ _ _ _ _ _ _ _ _ _ _ _ _ _ _ _ _ _ _ hp
  | succ k ih =>
    intro N i lv u0 u3 u4 u5 u7 u8 u9 u10 u11 u12 u13 u14 u18 u19 u20 u21 u22 u23 u24 u25 u26 u27 u28 u29 u30 u31 hN hk hp
    obtain ⟨N, rfl⟩ : ∃ N', N = N' + 1 := ⟨N - 1, by omega⟩
    obtain ⟨x, hx, hxo, hxt⟩ := he.get (i := i) (by omega)
    obtain ⟨y, hy, hyo, hyt⟩ := hf.get (i := i) (by omega)
    have hlt : ((i : Int) < (es.length : Int)) := by omega
    have hbd : i < 9223372036854775807 := by have := he.1; omega
    obtain ⟨c, r, rfl, hc, tp0⟩ := hxo.cons_inv
    obtain ⟨p0, rfl, wp0⟩ := hc.str_inv
    obtain ⟨c, r, rfl, hc, tp1⟩ := tp0.cons_inv
    obtain ⟨p1, rfl, wp1⟩ := hc.int_inv
    obtain ⟨c, r, rfl, hc, tp2⟩ := tp1.cons_inv
    obtain ⟨p2, rfl, wp2⟩ := hc.sl_inv
    obtain ⟨c, r, rfl, hc, tp3⟩ := tp2.cons_inv
    obtain ⟨p3, rfl, wp3⟩ := hc.sl_inv
    obtain ⟨c, r, rfl, hc, tp4⟩ := tp3.cons_inv
    obtain ⟨p4, rfl, wp4⟩ := hc.int_inv
    obtain ⟨c, r, rfl, hc, tp5⟩ := tp4.cons_inv
    obtain ⟨p5, rfl, wp5⟩ := hc.int_inv
    obtain ⟨c, r, rfl, hc, tp6⟩ := tp5.cons_inv
    obtain ⟨p6, rfl, wp6⟩ := hc.int_inv
    obtain ⟨c, r, rfl, hc, tp7⟩ := tp6.cons_inv
    obtain ⟨p7, rfl, wp7⟩ := hc.int_inv
    obtain ⟨c, r, rfl, hc, tp8⟩ := tp7.cons_inv
    obtain ⟨p8, rfl, wp8⟩ := hc.int_inv
    obtain ⟨c, r, rfl, hc, tp9⟩ := tp8.cons_inv
    obtain ⟨p9, rfl⟩ := hc.bool_inv
    obtain ⟨c, r, rfl, hc, tp10⟩ := tp9.cons_inv
    obtain ⟨p10, rfl⟩ := hc.bool_inv
    obtain ⟨c, r, rfl, hc, tp11⟩ := tp10.cons_inv
    obtain ⟨p11, rfl, wp11⟩ := hc.sl_inv
    obtain ⟨c, r, rfl, hc, tp12⟩ := tp11.cons_inv
    obtain ⟨p12, rfl, wp12⟩ := hc.int_inv
    have := tp12.nil_inv; subst this
    obtain ⟨c, r, rfl, hc, tq0⟩ := hyo.cons_inv
    obtain ⟨q0, rfl, wq0⟩ := hc.str_inv
    obtain ⟨c, r, rfl, hc, tq1⟩ := tq0.cons_inv
    obtain ⟨q1, rfl, wq1⟩ := hc.int_inv
    obtain ⟨c, r, rfl, hc, tq2⟩ := tq1.cons_inv
    obtain ⟨q2, rfl, wq2⟩ := hc.sl_inv
    obtain ⟨c, r, rfl, hc, tq3⟩ := tq2.cons_inv
    obtain ⟨q3, rfl, wq3⟩ := hc.sl_inv
    obtain ⟨c, r, rfl, hc, tq4⟩ := tq3.cons_inv
    obtain ⟨q4, rfl, wq4⟩ := hc.int_inv
    obtain ⟨c, r, rfl, hc, tq5⟩ := tq4.cons_inv
    obtain ⟨q5, rfl, wq5⟩ := hc.int_inv
    obtain ⟨c, r, rfl, hc, tq6⟩ := tq5.cons_inv
    obtain ⟨q6, rfl, wq6⟩ := hc.int_inv
    obtain ⟨c, r, rfl, hc, tq7⟩ := tq6.cons_inv
    obtain ⟨q7, rfl, wq7⟩ := hc.int_inv
    obtain ⟨c, r, rfl, hc, tq8⟩ := tq7.cons_inv
    obtain ⟨q8, rfl, wq8⟩ := hc.int_inv
    obtain ⟨c, r, rfl, hc, tq9⟩ := tq8.cons_inv
    obtain ⟨q9, rfl⟩ := hc.bool_inv
    obtain ⟨c, r, rfl, hc, tq10⟩ := tq9.cons_inv
    obtain ⟨q10, rfl⟩ := hc.bool_inv
    obtain ⟨c, r, rfl, hc, tq11⟩ := tq10.cons_inv
    obtain ⟨q11, rfl, wq11⟩ := hc.sl_inv
    obtain ⟨c, r, rfl, hc, tq12⟩ := tq11.cons_inv
    obtain ⟨q12, rfl, wq12⟩ := hc.int_inv
    have := tq12.nil_inv; subst this
    rw [ev_turn hcd]
    have ihh : ([.lit (.string p0), .lit (.int .i64 p1), .sl .sh p2, .sl .sh p3, .lit (.int .i64 p4), .lit (.int .i64 p5), .lit (.int .i64 p6), .lit (.int .i64 p7), .lit (.int .i64 p8), .lit (.bool p9), .lit (.bool p10), .sl .sh p11, .lit (.int .i64 p12)] : List AV) = ([.lit (.string q0), .lit (.int .i64 q1), .sl .sh q2, .sl .sh q3, .lit (.int .i64 q4), .lit (.int .i64 q5), .lit (.int .i64 q6), .lit (.int .i64 q7), .lit (.int .i64 q8), .lit (.bool q9), .lit (.bool q10), .sl .sh q11, .lit (.int .i64 q12)] : List AV) → ∀ (lv : Nat → Nat → Option Nat) (u0 u3 u4 u5 u7 u8 u9 u10 u11 u12 u13 u14 u18 u19 u20 u21 u22 u23 u24 u25 u26 u27 u28 u29 u30 u31 : AV), Ends (evLoop (evCode Tryz.prog call m c) N { s := [u0, .sl .sh fs, .fn g [], u3, u4, u5, .lit (.bool false), u7, u8, u9, u10, u11, u12, u13, u14, .sl .sh es, .lit (.int .i64 (es.length : Int)), .lit (.int .i64 ((i + 1 : Nat) : Int)), u18, u19, u20, u21, u22, u23, u24, u25, u26, u27, u28, u29, u30, u31], live := lv }) F := fun hxy lv u0 u3 u4 u5 u7 u8 u9 u10 u11 u12 u13 u14 u18 u19 u20 u21 u22 u23 u24 u25 u26 u27 u28 u29 u30 u31 => ih N (i + 1) lv u0 u3 u4 u5 u7 u8 u9 u10 u11 u12 u13 u14 u18 u19 u20 u21 u22 u23 u24 u25 u26 u27 u28 u29 u30 u31 (by omega) (by omega) (by rw [hxt, hyt, hp, hxy])
    have h2h : ¬ (([.lit (.string p0), .lit (.int .i64 p1), .sl .sh p2, .sl .sh p3, .lit (.int .i64 p4), .lit (.int .i64 p5), .lit (.int .i64 p6), .lit (.int .i64 p7), .lit (.int .i64 p8), .lit (.bool p9), .lit (.bool p10), .sl .sh p11, .lit (.int .i64 p12)] : List AV) = ([.lit (.string q0), .lit (.int .i64 q1), .sl .sh q2, .sl .sh q3, .lit (.int .i64 q4), .lit (.int .i64 q5), .lit (.int .i64 q6), .lit (.int .i64 q7), .lit (.int .i64 q8), .lit (.bool q9), .lit (.bool q10), .sl .sh q11, .lit (.int .i64 q12)] : List AV)) → ∀ E', E'.s[6]? = some (.lit (.bool false)) → F (.ret, E') := fun hxy E' => h2 E' (fun h => hxy (by have hy' := hy; rw [← h, hx] at hy'; exact Option.some.inj hy'))
    clear ih h2
    by_cases hxy : ([.lit (.string p0), .lit (.int .i64 p1), .sl .sh p2, .sl .sh p3, .lit (.int .i64 p4), .lit (.int .i64 p5), .lit (.int .i64 p6), .lit (.int .i64 p7), .lit (.int .i64 p8), .lit (.bool p9), .lit (.bool p10), .sl .sh p11, .lit (.int .i64 p12)] : List AV) = ([.lit (.string q0), .lit (.int .i64 q1), .sl .sh q2, .sl .sh q3, .lit (.int .i64 q4), .lit (.int .i64 q5), .lit (.int .i64 q6), .lit (.int .i64 q7), .lit (.int .i64 q8), .lit (.bool q9), .lit (.bool q10), .sl .sh q11, .lit (.int .i64 q12)] : List AV)
    · have ihh := ihh hxy
      simp -dsimp [Tryz.f47, ↓br_dec, setCells, hlt, hx, hy, wrap_small hbd, wp0, wq0, wp1, wq1, wp2, wq2, wp3, wq3, wp4, wq4, wp5, wq5, wp6, wq6, wp7, wq7, wp8, wq8, wp11, wq11, wp12, wq12, eng, hcg, hxy]
      exact ihh _ _ _ _ _ _ _ _ _ _ _ _ _ _ _ _ _ _ _ _ _ _ _ _ _ _ _
    · have h2h := h2h hxy
      simp only [List.cons.injEq, AV.lit.injEq, Value.int.injEq, Value.string.injEq, Value.bool.injEq, AV.sl.injEq, true_and, and_true] at hxy
      simp (config := {contextual := true, maxSteps := 3000000, dsimp := false}) [Tryz.f47, ↓br_dec, setCells, hlt, hx, hy, wrap_small hbd, wp0, wq0, wp1, wq1, wp2, wq2, wp3, wq3, wp4, wq4, wp5, wq5, wp6, wq6, wp7, wq7, wp8, wq8, wp11, wq11, wp12, wq12, eng, hcg, h2h, hxy]
      all_goals (try simp (config := {contextual := true}))
      all_goals grind
theorem same47 (call : FuncId → List AV → Option AV) {g : Nat} 
    (eng : entersA Tryz.prog g = true) (hcg : ∀ x y, OkL lay119 x → OkL lay119 y → call g [.agg x, .agg y] = some (.lit (.bool (decide (x = y)))))
    {es fs : List (List AV)} (he : OkR lay119 es) (hf : OkR lay119 fs) : ∃ m, evBody Tryz.prog call m Tryz.f47 [.sl .sh es, .sl .sh fs, .fn g []] = some (.lit (.bool (decide (es = fs)))) := by
  refine ⟨es.length + 1, ?_⟩
  apply ends_eq
  rw [ev_body (c := _) rfl]
  rw [show entry Tryz.f47 [.sl .sh es, .sl .sh fs, .fn g []] = { s := [.sl .sh es, .sl .sh fs, .fn g [], .undef, .undef, .undef, .undef, .undef, .undef, .undef, .undef, .undef, .undef, .undef, .undef, .undef, .undef, .undef, .undef, .undef, .undef, .undef, .undef, .undef, .undef, .undef, .undef, .undef, .undef, .undef, .undef, .undef], live := fun _ _ => none } from rfl]
  by_cases hl : es.length = fs.length
  · have hl' : ((es.length : Int) = (fs.length : Int)) := by omega
    simp -dsimp [Tryz.f47, ↓br_dec, hl']
    try simp only [← hl']
    refine lp47 call _ eng hcg rfl he hf hl (fun lv ui u0 u3 u4 u5 u7 u8 u9 u10 u11 u12 u13 u14 u18 u19 u20 u21 u22 u23 u24 u25 u26 u27 u28 u29 u30 u31 h => ?_) (fun E' h hn => ?_) es.length _ 0 _ _ _ _ _ _ _ _ _ _ _ _ _ _ _ _ _ _ _ _ _ _ _ _ _ _ _ (by omega) (by omega) rfl
    · simp -dsimp [Tryz.f47, ↓br_dec, h]
    · simp -dsimp [Tryz.f47, ↓br_dec, hn, h]
  · have hl' : ¬ ((es.length : Int) = (fs.length : Int)) := by omega
    have : es ≠ fs := fun h => hl (by rw [h])
    simp -dsimp [Tryz.f47, ↓br_dec, hl', this]
theorem same49 (call : FuncId → List AV → Option AV) (m : Nat)
    (hc73 : ∀ x y, OkR lay106 x → OkR lay106 y → call 73 [.sl .sh x, .sl .sh y] = some (.lit (.bool (decide (x = y)))))
    {x y : List AV} (hx : OkL lay61 x) (hy : OkL lay61 y) : evBody Tryz.prog call m Tryz.f49 [.agg x, .agg y] = some (.lit (.bool (decide (x = y)))) := by
  obtain ⟨c, r, rfl, hc, tx0⟩ := hx.cons_inv
  obtain ⟨x0, rfl, wx0⟩ := hc.int_inv
  obtain ⟨c, r, rfl, hc, tx1⟩ := tx0.cons_inv
  obtain ⟨x1, rfl, wx1⟩ := hc.sl_inv
  have := tx1.nil_inv; subst this
  obtain ⟨c, r, rfl, hc, ty0⟩ := hy.cons_inv
  obtain ⟨y0, rfl, wy0⟩ := hc.int_inv
  obtain ⟨c, r, rfl, hc, ty1⟩ := ty0.cons_inv
  obtain ⟨y1, rfl, wy1⟩ := hc.sl_inv
  have := ty1.nil_inv; subst this
  apply ends_eq
  rw [ev_body (c := _) rfl]
  rw [show entry Tryz.f49 [.agg [.lit (.int .i64 x0), .sl .sh x1], .agg [.lit (.int .i64 y0), .sl .sh y1]] = { s := [.agg [.lit (.int .i64 x0), .sl .sh x1], .agg [.lit (.int .i64 y0), .sl .sh y1], .undef, .undef, .undef, .undef, .undef, .undef, .undef, .undef, .undef, .undef, .undef, .undef, .undef, .undef, .undef], live := fun _ _ => none } from rfl]
  simp (config := {contextual := true, maxSteps := 3000000, dsimp := false}) [Tryz.f49, ↓br_dec, setCells, hc73, wx0, wy0, wx1, wy1]
  all_goals (try simp (config := {contextual := true}))
  all_goals grind
theorem same50 (call : FuncId → List AV → Option AV) (m : Nat)
    (hc74 : ∀ x y, OkR lay139 x → OkR lay139 y → call 74 [.sl .sh x, .sl .sh y] = some (.lit (.bool (decide (x = y)))))
    {x y : List AV} (hx : OkL lay64 x) (hy : OkL lay64 y) : evBody Tryz.prog call m Tryz.f50 [.agg x, .agg y] = some (.lit (.bool (decide (x = y)))) := by
  obtain ⟨c, r, rfl, hc, tx0⟩ := hx.cons_inv
  obtain ⟨x0, rfl, wx0⟩ := hc.int_inv
  obtain ⟨c, r, rfl, hc, tx1⟩ := tx0.cons_inv
  obtain ⟨x1, rfl, wx1⟩ := hc.int_inv
  obtain ⟨c, r, rfl, hc, tx2⟩ := tx1.cons_inv
  obtain ⟨x2, rfl, wx2⟩ := hc.int_inv
  obtain ⟨c, r, rfl, hc, tx3⟩ := tx2.cons_inv
  obtain ⟨x3, rfl, wx3⟩ := hc.sl_inv
  have := tx3.nil_inv; subst this
  obtain ⟨c, r, rfl, hc, ty0⟩ := hy.cons_inv
  obtain ⟨y0, rfl, wy0⟩ := hc.int_inv
  obtain ⟨c, r, rfl, hc, ty1⟩ := ty0.cons_inv
  obtain ⟨y1, rfl, wy1⟩ := hc.int_inv
  obtain ⟨c, r, rfl, hc, ty2⟩ := ty1.cons_inv
  obtain ⟨y2, rfl, wy2⟩ := hc.int_inv
  obtain ⟨c, r, rfl, hc, ty3⟩ := ty2.cons_inv
  obtain ⟨y3, rfl, wy3⟩ := hc.sl_inv
  have := ty3.nil_inv; subst this
  apply ends_eq
  rw [ev_body (c := _) rfl]
  rw [show entry Tryz.f50 [.agg [.lit (.int .i64 x0), .lit (.int .i64 x1), .lit (.int .i64 x2), .sl .sh x3], .agg [.lit (.int .i64 y0), .lit (.int .i64 y1), .lit (.int .i64 y2), .sl .sh y3]] = { s := [.agg [.lit (.int .i64 x0), .lit (.int .i64 x1), .lit (.int .i64 x2), .sl .sh x3], .agg [.lit (.int .i64 y0), .lit (.int .i64 y1), .lit (.int .i64 y2), .sl .sh y3], .undef, .undef, .undef, .undef, .undef, .undef, .undef, .undef, .undef, .undef, .undef, .undef, .undef, .undef, .undef, .undef, .undef, .undef, .undef, .undef, .undef, .undef, .undef, .undef, .undef, .undef, .undef, .undef, .undef], live := fun _ _ => none } from rfl]
  simp (config := {contextual := true, maxSteps := 3000000, dsimp := false}) [Tryz.f50, ↓br_dec, setCells, hc74, wx0, wy0, wx1, wy1, wx2, wy2, wx3, wy3]
  all_goals (try simp (config := {contextual := true}))
  all_goals grind
theorem lp51 (call : FuncId → List AV → Option AV) (m : Nat) {g : Nat} 
    (eng : entersA Tryz.prog g = true) (hcg : ∀ x y, OkL lay102 x → OkL lay102 y → call g [.agg x, .agg y] = some (.lit (.bool (decide (x = y)))))
    {c : Code} (hcd : c = loopIn Tryz.f51 0) {es fs : List (List AV)} (he : OkR lay102 es) (hf : OkR lay102 fs) (hl : es.length = fs.length) {F : Ex × Env → Prop} (h1 : ∀ (lv : Nat → Nat → Option Nat) (ui u0 u3 u4 u5 u7 u8 u9 u10 u11 u12 u13 u14 u18 u19 u20 u21 u22 u23 u24 u25 u26 u27 u28 u29 u30 u31 : AV), es = fs → F (.exit 0, { s := [u0, .sl .sh fs, .fn g [], u3, u4, u5, .lit (.bool false), u7, u8, u9, u10, u11, u12, u13, u14, .sl .sh es, .lit (.int .i64 (es.length : Int)), ui, u18, u19, u20, u21, u22, u23, u24, u25, u26, u27, u28, u29, u30, u31], live := lv })) (h2 : ∀ E', es ≠ fs → E'.s[6]? = some (.lit (.bool false)) → F (.ret, E')) :
    ∀ (k N i : Nat) (lv : Nat → Nat → Option Nat) (u0 u3 u4 u5 u7 u8 u9 u10 u11 u12 u13 u14 u18 u19 u20 u21 u22 u23 u24 u25 u26 u27 u28 u29 u30 u31 : AV), k < N → k + i = es.length → es.take i = fs.take i →
      Ends (evLoop (evCode Tryz.prog call m c) N { s := [u0, .sl .sh fs, .fn g [], u3, u4, u5, .lit (.bool false), u7, u8, u9, u10, u11, u12, u13, u14, .sl .sh es, .lit (.int .i64 (es.length : Int)), .lit (.int .i64 (i : Int)), u18, u19, u20, u21, u22, u23, u24, u25, u26, u27, u28, u29, u30, u31], live := lv }) F := by
  intro k
  induction k with
  | zero =>
    intro N i lv u0 u3 u4 u5 u7 u8 u9 u10 u11 u12 u13 u14 u18 u19 u20 u21 u22 u23 u24 u25 u26 u27 u28 u29 u30 u31 hN hk hp
    obtain ⟨N, rfl⟩ : ∃ N', N = N' + 1 := ⟨N - 1, by omega⟩
    have hi : i = es.length := by omega
    subst hi
    rw [List.take_of_length_le (Nat.le_refl _), List.take_of_length_le (by omega)] at hp
    rw [ev_turn hcd]
    simp -dsimp [Tryz.f51, ↓br_dec]
    exact h1 _ _ _ _ _ _ _ _ _ _ _ _ _ _ _ _ _ _ _ _ _ _ _ _ _ _ _ _ hp
  | succ k ih =>
    intro N i lv u0 u3 u4 u5 u7 u8 u9 u10 u11 u12 u13 u14 u18 u19 u20 u21 u22 u23 u24 u25 u26 u27 u28 u29 u30 u31 hN hk hp
    obtain ⟨N, rfl⟩ : ∃ N', N = N' + 1 := ⟨N - 1, by omega⟩
    obtain ⟨x, hx, hxo, hxt⟩ := he.get (i := i) (by omega)
    obtain ⟨y, hy, hyo, hyt⟩ := hf.get (i := i) (by omega)
    have hlt : ((i : Int) < (es.length : Int)) := by omega
    have hbd : i < 9223372036854775807 := by have := he.1; omega
    obtain ⟨c, r, rfl, hc, tp0⟩ := hxo.cons_inv
    obtain ⟨p0, rfl, wp0⟩ := hc.int_inv
    obtain ⟨c, r, rfl, hc, tp1⟩ := tp0.cons_inv
    obtain ⟨p1, rfl, wp1⟩ := hc.str_inv
    obtain ⟨c, r, rfl, hc, tp2⟩ := tp1.cons_inv
    obtain ⟨p2, rfl⟩ := hc.bool_inv
    obtain ⟨c, r, rfl, hc, tp3⟩ := tp2.cons_inv
    obtain ⟨p3, rfl⟩ := hc.bool_inv
    obtain ⟨c, r, rfl, hc, tp4⟩ := tp3.cons_inv
    obtain ⟨p4, rfl, wp4⟩ := hc.int_inv
    obtain ⟨c, r, rfl, hc, tp5⟩ := tp4.cons_inv
    obtain ⟨p5, rfl⟩ := hc.bool_inv
    obtain ⟨c, r, rfl, hc, tp6⟩ := tp5.cons_inv
    obtain ⟨p6, rfl, wp6⟩ := hc.str_inv
    obtain ⟨c, r, rfl, hc, tp7⟩ := tp6.cons_inv
    obtain ⟨p7, rfl, wp7⟩ := hc.str_inv
    obtain ⟨c, r, rfl, hc, tp8⟩ := tp7.cons_inv
    obtain ⟨p8, rfl, wp8⟩ := hc.str_inv
    obtain ⟨c, r, rfl, hc, tp9⟩ := tp8.cons_inv
    obtain ⟨p9, rfl, wp9⟩ := hc.sl_inv
    obtain ⟨c, r, rfl, hc, tp10⟩ := tp9.cons_inv
    obtain ⟨p10, rfl, wp10⟩ := hc.sl_inv
    have := tp10.nil_inv; subst this
    obtain ⟨c, r, rfl, hc, tq0⟩ := hyo.cons_inv
    obtain ⟨q0, rfl, wq0⟩ := hc.int_inv
    obtain ⟨c, r, rfl, hc, tq1⟩ := tq0.cons_inv
    obtain ⟨q1, rfl, wq1⟩ := hc.str_inv
    obtain ⟨c, r, rfl, hc, tq2⟩ := tq1.cons_inv
    obtain ⟨q2, rfl⟩ := hc.bool_inv
    obtain ⟨c, r, rfl, hc, tq3⟩ := tq2.cons_inv
    obtain ⟨q3, rfl⟩ := hc.bool_inv
    obtain ⟨c, r, rfl, hc, tq4⟩ := tq3.cons_inv
    obtain ⟨q4, rfl, wq4⟩ := hc.int_inv
    obtain ⟨c, r, rfl, hc, tq5⟩ := tq4.cons_inv
    obtain ⟨q5, rfl⟩ := hc.bool_inv
    obtain ⟨c, r, rfl, hc, tq6⟩ := tq5.cons_inv
    obtain ⟨q6, rfl, wq6⟩ := hc.str_inv
    obtain ⟨c, r, rfl, hc, tq7⟩ := tq6.cons_inv
    obtain ⟨q7, rfl, wq7⟩ := hc.str_inv
    obtain ⟨c, r, rfl, hc, tq8⟩ := tq7.cons_inv
    obtain ⟨q8, rfl, wq8⟩ := hc.str_inv
    obtain ⟨c, r, rfl, hc, tq9⟩ := tq8.cons_inv
    obtain ⟨q9, rfl, wq9⟩ := hc.sl_inv
    obtain ⟨c, r, rfl, hc, tq10⟩ := tq9.cons_inv
    obtain ⟨q10, rfl, wq10⟩ := hc.sl_inv
    have := tq10.nil_inv; subst this
    rw [ev_turn hcd]
    have ihh : ([.lit (.int .i64 p0), .lit (.string p1), .lit (.bool p2), .lit (.bool p3), .lit (.int .i64 p4), .lit (.bool p5), .lit (.string p6), .lit (.string p7), .lit (.string p8), .sl .sh p9, .sl .sh p10] : List AV) = ([.lit (.int .i64 q0), .lit (.string q1), .lit (.bool q2), .lit (.bool q3), .lit (.int .i64 q4), .lit (.bool q5), .lit (.string q6), .lit (.string q7), .lit (.string q8), .sl .sh q9, .sl .sh q10] : List AV) → ∀ (lv : Nat → Nat → Option Nat) (u0 u3 u4 u5 u7 u8 u9 u10 u11 u12 u13 u14 u18 u19 u20 u21 u22 u23 u24 u25 u26 u27 u28 u29 u30 u31 : AV), Ends (evLoop (evCode Tryz.prog call m c) N { s := [u0, .sl .sh fs, .fn g [], u3, u4, u5, .lit (.bool false), u7, u8, u9, u10, u11, u12, u13, u14, .sl .sh es, .lit (.int .i64 (es.length : Int)), .lit (.int .i64 ((i + 1 : Nat) : Int)), u18, u19, u20, u21, u22, u23, u24, u25, u26, u27, u28, u29, u30, u31], live := lv }) F := fun hxy lv u0 u3 u4 u5 u7 u8 u9 u10 u11 u12 u13 u14 u18 u19 u20 u21 u22 u23 u24 u25 u26 u27 u28 u29 u30 u31 => ih N (i + 1) lv u0 u3 u4 u5 u7 u8 u9 u10 u11 u12 u13 u14 u18 u19 u20 u21 u22 u23 u24 u25 u26 u27 u28 u29 u30 u31 (by omega) (by omega) (by rw [hxt, hyt, hp, hxy])
    have h2h : ¬ (([.lit (.int .i64 p0), .lit (.string p1), .lit (.bool p2), .lit (.bool p3), .lit (.int .i64 p4), .lit (.bool p5), .lit (.string p6), .lit (.string p7), .lit (.string p8), .sl .sh p9, .sl .sh p10] : List AV) = ([.lit (.int .i64 q0), .lit (.string q1), .lit (.bool q2), .lit (.bool q3), .lit (.int .i64 q4), .lit (.bool q5), .lit (.string q6), .lit (.string q7), .lit (.string q8), .sl .sh q9, .sl .sh q10] : List AV)) → ∀ E', E'.s[6]? = some (.lit (.bool false)) → F (.ret, E') := fun hxy E' => h2 E' (fun h => hxy (by have hy' := hy; rw [← h, hx] at hy'; exact Option.some.inj hy'))
    clear ih h2
    by_cases hxy : ([.lit (.int .i64 p0), .lit (.string p1), .lit (.bool p2), .lit (.bool p3), .lit (.int .i64 p4), .lit (.bool p5), .lit (.string p6), .lit (.string p7), .lit (.string p8), .sl .sh p9, .sl .sh p10] : List AV) = ([.lit (.int .i64 q0), .lit (.string q1), .lit (.bool q2), .lit (.bool q3), .lit (.int .i64 q4), .lit (.bool q5), .lit (.string q6), .lit (.string q7), .lit (.string q8), .sl .sh q9, .sl .sh q10] : List AV)
    · have ihh := ihh hxy
      simp -dsimp [Tryz.f51, ↓br_dec, setCells, hlt, hx, hy, wrap_small hbd, wp0, wq0, wp1, wq1, wp4, wq4, wp6, wq6, wp7, wq7, wp8, wq8, wp9, wq9, wp10, wq10, eng, hcg, hxy]
      exact ihh _ _ _ _ _ _ _ _ _ _ _ _ _ _ _ _ _ _ _ _ _ _ _ _ _ _ _
    · have h2h := h2h hxy
      simp only [List.cons.injEq, AV.lit.injEq, Value.int.injEq, Value.string.injEq, Value.bool.injEq, AV.sl.injEq, true_and, and_true] at hxy
      simp (config := {contextual := true, maxSteps := 3000000, dsimp := false}) [Tryz.f51, ↓br_dec, setCells, hlt, hx, hy, wrap_small hbd, wp0, wq0, wp1, wq1, wp4, wq4, wp6, wq6, wp7, wq7, wp8, wq8, wp9, wq9, wp10, wq10, eng, hcg, h2h, hxy]
      all_goals (try simp (config := {contextual := true}))
      all_goals grind
theorem same51 (call : FuncId → List AV → Option AV) {g : Nat} 
    (eng : entersA Tryz.prog g = true) (hcg : ∀ x y, OkL lay102 x → OkL lay102 y → call g [.agg x, .agg y] = some (.lit (.bool (decide (x = y)))))
    {es fs : List (List AV)} (he : OkR lay102 es) (hf : OkR lay102 fs) : ∃ m, evBody Tryz.prog call m Tryz.f51 [.sl .sh es, .sl .sh fs, .fn g []] = some (.lit (.bool (decide (es = fs)))) := by
  refine ⟨es.length + 1, ?_⟩
  apply ends_eq
  rw [ev_body (c := _) rfl]
  rw [show entry Tryz.f51 [.sl .sh es, .sl .sh fs, .fn g []] = { s := [.sl .sh es, .sl .sh fs, .fn g [], .undef, .undef, .undef, .undef, .undef, .undef, .undef, .undef, .undef, .undef, .undef, .undef, .undef, .undef, .undef, .undef, .undef, .undef, .undef, .undef, .undef, .undef, .undef, .undef, .undef, .undef, .undef, .undef, .undef], live := fun _ _ => none } from rfl]
  by_cases hl : es.length = fs.length
  · have hl' : ((es.length : Int) = (fs.length : Int)) := by omega
    simp -dsimp [Tryz.f51, ↓br_dec, hl']
    try simp only [← hl']
    refine lp51 call _ eng hcg rfl he hf hl (fun lv ui u0 u3 u4 u5 u7 u8 u9 u10 u11 u12 u13 u14 u18 u19 u20 u21 u22 u23 u24 u25 u26 u27 u28 u29 u30 u31 h => ?_) (fun E' h hn => ?_) es.length _ 0 _ _ _ _ _ _ _ _ _ _ _ _ _ _ _ _ _ _ _ _ _ _ _ _ _ _ _ (by omega) (by omega) rfl
    · simp -dsimp [Tryz.f51, ↓br_dec, h]
    · simp -dsimp [Tryz.f51, ↓br_dec, hn, h]
  · have hl' : ¬ ((es.length : Int) = (fs.length : Int)) := by omega
    have : es ≠ fs := fun h => hl (by rw [h])
    simp -dsimp [Tryz.f51, ↓br_dec, hl', this]
theorem dr65_0 : drawnA Tryz.prog (drawnIn Tryz.f65 0) = true := drawn_of (tab := [⟨some 17, [0], false, []⟩, ⟨some 18, [5], false, []⟩, ⟨some 19, [17, 18], false, [0, 1]⟩, ⟨some 20, [19], false, [2]⟩, ⟨some 21, [1], false, []⟩, ⟨some 22, [5], false, []⟩, ⟨some 23, [21, 22], false, [4, 5]⟩, ⟨some 24, [23], false, [6]⟩, ⟨some 25, [20, 24], false, [3, 7]⟩]) follows_mixed (by kernel_rfl) (by kernel_rfl)
theorem lp65 (call : FuncId → List AV → Option AV) (m : Nat) 
    {c : Code} (hcd : c = loopIn Tryz.f65 0) {es fs : List (List AV)} (he : OkR lay146 es) (hf : OkR lay146 fs) (hl : es.length = fs.length) {F : Ex × Env → Prop} (h1 : ∀ (lv : Nat → Nat → Option Nat) (ui u2 u3 u6 u7 u8 u9 u10 u11 u12 u13 u14 u15 u16 u17 u18 u19 u20 u21 u22 u23 u24 u25 : AV), es = fs → F (.exit 0, { s := [.sl .sh es, .sl .sh fs, u2, u3, .lit (.bool false), ui, u6, u7, u8, u9, u10, u11, u12, u13, u14, u15, u16, u17, u18, u19, u20, u21, u22, u23, u24, u25], live := lv })) (h2 : ∀ E', es ≠ fs → E'.s[4]? = some (.lit (.bool false)) → F (.ret, E')) :
    ∀ (k N i : Nat) (lv : Nat → Nat → Option Nat) (u2 u3 u6 u7 u8 u9 u10 u11 u12 u13 u14 u15 u16 u17 u18 u19 u20 u21 u22 u23 u24 u25 : AV), k < N → k + i = es.length → es.take i = fs.take i →
      (∀ u ∈ [u17, u18, u19, u20, u21, u22, u23, u24, u25], notCell u = true) →
      Ends (evLoop (evCode Tryz.prog call m c) N { s := [.sl .sh es, .sl .sh fs, u2, u3, .lit (.bool false), .lit (.int .i64 (i : Int)), u6, u7, u8, u9, u10, u11, u12, u13, u14, u15, u16, u17, u18, u19, u20, u21, u22, u23, u24, u25], live := lv }) F := by
  intro k
  induction k with
  | zero =>
    intro N i lv u2 u3 u6 u7 u8 u9 u10 u11 u12 u13 u14 u15 u16 u17 u18 u19 u20 u21 u22 u23 u24 u25 hN hk hp hu
    obtain ⟨N, rfl⟩ : ∃ N', N = N' + 1 := ⟨N - 1, by omega⟩
    have hi : i = es.length := by omega
    subst hi
    rw [List.take_of_length_le (Nat.le_refl _), List.take_of_length_le (by omega)] at hp
    rw [ev_turn hcd]
    simp -dsimp [Tryz.f65, ↓br_dec]
    exact h1 _ _ _ _ _ _ _ _ _ _ _ _ _ _ _ _ _ _ _ _ _ _ _ _ hp
  | succ k ih =>
    intro N i lv u2 u3 u6 u7 u8 u9 u10 u11 u12 u13 u14 u15 u16 u17 u18 u19 u20 u21 u22 u23 u24 u25 hN hk hp hu
    obtain ⟨N, rfl⟩ : ∃ N', N = N' + 1 := ⟨N - 1, by omega⟩
    obtain ⟨x, hx, hxo, hxt⟩ := he.get (i := i) (by omega)
    obtain ⟨y, hy, hyo, hyt⟩ := hf.get (i := i) (by omega)
    have hlt : ((i : Int) < (es.length : Int)) := by omega
    have hbd : i < 9223372036854775807 := by have := he.1; omega
    simp only [List.mem_cons, List.not_mem_nil, or_false, forall_eq_or_imp, forall_eq] at hu
    have hxl : x.length = 2 := hxo.1
    have hyl : y.length = 2 := hyo.1
    have dr0 := dr65_0
    simp only [drawnIn, drawnsOf, Tryz.f65, List.getD_cons_succ, List.getD_cons_zero, List.nil_append, List.append_nil, List.cons_append] at dr0
    rw [ev_turn hcd]
    have ihh : x = y → ∀ (lv : Nat → Nat → Option Nat) (u2 u3 u6 u7 u8 u9 u10 u11 u12 u13 u14 u15 u16 u17 u18 u19 u20 u21 u22 u23 u24 u25 : AV), notCell u17 = true → notCell u18 = true → notCell u19 = true → notCell u20 = true → notCell u21 = true → notCell u22 = true → notCell u23 = true → notCell u24 = true → notCell u25 = true → Ends (evLoop (evCode Tryz.prog call m c) N { s := [.sl .sh es, .sl .sh fs, u2, u3, .lit (.bool false), .lit (.int .i64 ((i + 1 : Nat) : Int)), u6, u7, u8, u9, u10, u11, u12, u13, u14, u15, u16, u17, u18, u19, u20, u21, u22, u23, u24, u25], live := lv }) F := fun hxy lv u2 u3 u6 u7 u8 u9 u10 u11 u12 u13 u14 u15 u16 u17 u18 u19 u20 u21 u22 u23 u24 u25 nu17 nu18 nu19 nu20 nu21 nu22 nu23 nu24 nu25 => ih N (i + 1) lv u2 u3 u6 u7 u8 u9 u10 u11 u12 u13 u14 u15 u16 u17 u18 u19 u20 u21 u22 u23 u24 u25 (by omega) (by omega) (by rw [hxt, hyt, hp, hxy]) (by simp [nu17, nu18, nu19, nu20, nu21, nu22, nu23, nu24, nu25])
    have h2h : ¬ (x = y) → ∀ E', E'.s[4]? = some (.lit (.bool false)) → F (.ret, E') := fun hxy E' => h2 E' (fun h => hxy (by have hy' := hy; rw [← h, hx] at hy'; exact Option.some.inj hy'))
    clear ih h2
    by_cases hxy : x = y
    · subst hxy; have ihh := ihh rfl
      simp -dsimp [Tryz.f65, ↓br_dec, ↓ev_drawn dr0, setCells, hlt, hx, hy, wrap_small hbd, hu, hxl, hyl, hxo.plain, hyo.plain, hxo, hyo]
      exact ihh _ _ _ _ _ _ _ _ _ _ _ _ _ _ _ _ _ _ _ _ _ _ _ rfl rfl rfl rfl rfl rfl rfl rfl rfl
    · have h2h := h2h hxy
      skip
      simp (config := {contextual := true, maxSteps := 3000000, dsimp := false}) [Tryz.f65, ↓br_dec, ↓ev_drawn dr0, setCells, hlt, hx, hy, wrap_small hbd, hu, hxl, hyl, hxo.plain, hyo.plain, hxo, hyo, h2h, hxy]
      all_goals (try simp (config := {contextual := true}))
      all_goals grind
theorem same65 (call : FuncId → List AV → Option AV) 
    {es fs : List (List AV)} (he : OkR lay146 es) (hf : OkR lay146 fs) : ∃ m, evBody Tryz.prog call m Tryz.f65 [.sl .sh es, .sl .sh fs] = some (.lit (.bool (decide (es = fs)))) := by
  refine ⟨es.length + 1, ?_⟩
  apply ends_eq
  rw [ev_body (c := _) rfl]
  rw [show entry Tryz.f65 [.sl .sh es, .sl .sh fs] = { s := [.sl .sh es, .sl .sh fs, .undef, .undef, .undef, .undef, .undef, .undef, .undef, .undef, .undef, .undef, .undef, .undef, .undef, .undef, .undef, .undef, .undef, .undef, .undef, .undef, .undef, .undef, .undef, .undef], live := fun _ _ => none } from rfl]
  by_cases hl : es.length = fs.length
  · have hl' : ((es.length : Int) = (fs.length : Int)) := by omega
    simp -dsimp [Tryz.f65, ↓br_dec, hl']
    try simp only [← hl']
    refine lp65 call _ rfl he hf hl (fun lv ui u2 u3 u6 u7 u8 u9 u10 u11 u12 u13 u14 u15 u16 u17 u18 u19 u20 u21 u22 u23 u24 u25 h => ?_) (fun E' h hn => ?_) es.length _ 0 _ _ _ _ _ _ _ _ _ _ _ _ _ _ _ _ _ _ _ _ _ _ _ (by omega) (by omega) rfl (by simp [nc_lit])
    · simp -dsimp [Tryz.f65, ↓br_dec, h]
    · simp -dsimp [Tryz.f65, ↓br_dec, hn, h]
  · have hl' : ¬ ((es.length : Int) = (fs.length : Int)) := by omega
    have : es ≠ fs := fun h => hl (by rw [h])
    simp -dsimp [Tryz.f65, ↓br_dec, hl', this]
theorem dr71_0 : drawnA Tryz.prog (drawnIn Tryz.f71 0) = true := drawn_of (tab := [⟨some 16, [0], false, []⟩, ⟨some 17, [5], false, []⟩, ⟨some 18, [16, 17], false, [0, 1]⟩, ⟨some 19, [18], false, [2]⟩, ⟨some 20, [1], false, []⟩, ⟨some 21, [5], false, []⟩, ⟨some 22, [20, 21], false, [4, 5]⟩, ⟨some 23, [22], false, [6]⟩, ⟨some 24, [19, 23], false, [3, 7]⟩]) follows_mixed (by kernel_rfl) (by kernel_rfl)
theorem lp71 (call : FuncId → List AV → Option AV) (m : Nat) 
    {c : Code} (hcd : c = loopIn Tryz.f71 0) {es fs : List (List AV)} (he : OkR lay146 es) (hf : OkR lay146 fs) (hl : es.length = fs.length) {F : Ex × Env → Prop} (h1 : ∀ (lv : Nat → Nat → Option Nat) (ui u2 u3 u5 u6 u7 u8 u9 u10 u11 u14 u15 u16 u17 u18 u19 u20 u21 u22 u23 u24 u25 : AV), es = fs → F (.exit 0, { s := [.sl .sh es, .sl .sh fs, u2, u3, .lit (.bool false), u5, u6, u7, u8, u9, u10, u11, .lit (.int .i64 (es.length : Int)), ui, u14, u15, u16, u17, u18, u19, u20, u21, u22, u23, u24, u25], live := lv })) (h2 : ∀ E', es ≠ fs → E'.s[4]? = some (.lit (.bool false)) → F (.ret, E')) :
    ∀ (k N i : Nat) (lv : Nat → Nat → Option Nat) (u2 u3 u5 u6 u7 u8 u9 u10 u11 u14 u15 u16 u17 u18 u19 u20 u21 u22 u23 u24 u25 : AV), k < N → k + i = es.length → es.take i = fs.take i →
      (∀ u ∈ [u16, u17, u18, u19, u20, u21, u22, u23, u24], notCell u = true) →
      Ends (evLoop (evCode Tryz.prog call m c) N { s := [.sl .sh es, .sl .sh fs, u2, u3, .lit (.bool false), u5, u6, u7, u8, u9, u10, u11, .lit (.int .i64 (es.length : Int)), .lit (.int .i64 (i : Int)), u14, u15, u16, u17, u18, u19, u20, u21, u22, u23, u24, u25], live := lv }) F := by
  intro k
  induction k with
  | zero =>
    intro N i lv u2 u3 u5 u6 u7 u8 u9 u10 u11 u14 u15 u16 u17 u18 u19 u20 u21 u22 u23 u24 u25 hN hk hp hu
    obtain ⟨N, rfl⟩ : ∃ N', N = N' + 1 := ⟨N - 1, by omega⟩
    have hi : i = es.length := by omega
    subst hi
    rw [List.take_of_length_le (Nat.le_refl _), List.take_of_length_le (by omega)] at hp
    rw [ev_turn hcd]
    simp -dsimp [Tryz.f71, ↓br_dec]
    exact h1 _ _ _ _ _ _ _ _ _ _ _ _ _ _ _ _ _ _ _ _ _ _ _ hp
  | succ k ih =>
    intro N i lv u2 u3 u5 u6 u7 u8 u9 u10 u11 u14 u15 u16 u17 u18 u19 u20 u21 u22 u23 u24 u25 hN hk hp hu
    obtain ⟨N, rfl⟩ : ∃ N', N = N' + 1 := ⟨N - 1, by omega⟩
    obtain ⟨x, hx, hxo, hxt⟩ := he.get (i := i) (by omega)
    obtain ⟨y, hy, hyo, hyt⟩ := hf.get (i := i) (by omega)
    have hlt : ((i : Int) < (es.length : Int)) := by omega
    have hbd : i < 9223372036854775807 := by have := he.1; omega
    simp only [List.mem_cons, List.not_mem_nil, or_false, forall_eq_or_imp, forall_eq] at hu
    have hxl : x.length = 2 := hxo.1
    have hyl : y.length = 2 := hyo.1
    have dr0 := dr71_0
    simp only [drawnIn, drawnsOf, Tryz.f71, List.getD_cons_succ, List.getD_cons_zero, List.nil_append, List.append_nil, List.cons_append] at dr0
    rw [ev_turn hcd]
    have ihh : x = y → ∀ (lv : Nat → Nat → Option Nat) (u2 u3 u5 u6 u7 u8 u9 u10 u11 u14 u15 u16 u17 u18 u19 u20 u21 u22 u23 u24 u25 : AV), notCell u16 = true → notCell u17 = true → notCell u18 = true → notCell u19 = true → notCell u20 = true → notCell u21 = true → notCell u22 = true → notCell u23 = true → notCell u24 = true → Ends (evLoop (evCode Tryz.prog call m c) N { s := [.sl .sh es, .sl .sh fs, u2, u3, .lit (.bool false), u5, u6, u7, u8, u9, u10, u11, .lit (.int .i64 (es.length : Int)), .lit (.int .i64 ((i + 1 : Nat) : Int)), u14, u15, u16, u17, u18, u19, u20, u21, u22, u23, u24, u25], live := lv }) F := fun hxy lv u2 u3 u5 u6 u7 u8 u9 u10 u11 u14 u15 u16 u17 u18 u19 u20 u21 u22 u23 u24 u25 nu16 nu17 nu18 nu19 nu20 nu21 nu22 nu23 nu24 => ih N (i + 1) lv u2 u3 u5 u6 u7 u8 u9 u10 u11 u14 u15 u16 u17 u18 u19 u20 u21 u22 u23 u24 u25 (by omega) (by omega) (by rw [hxt, hyt, hp, hxy]) (by simp [nu16, nu17, nu18, nu19, nu20, nu21, nu22, nu23, nu24])
    have h2h : ¬ (x = y) → ∀ E', E'.s[4]? = some (.lit (.bool false)) → F (.ret, E') := fun hxy E' => h2 E' (fun h => hxy (by have hy' := hy; rw [← h, hx] at hy'; exact Option.some.inj hy'))
    clear ih h2
    by_cases hxy : x = y
    · subst hxy; have ihh := ihh rfl
      simp -dsimp [Tryz.f71, ↓br_dec, ↓ev_drawn dr0, setCells, hlt, hx, hy, wrap_small hbd, hu, hxl, hyl, hxo.plain, hyo.plain, hxo, hyo]
      exact ihh _ _ _ _ _ _ _ _ _ _ _ _ _ _ _ _ _ _ _ _ _ _ rfl rfl rfl rfl rfl rfl rfl rfl rfl
    · have h2h := h2h hxy
      skip
      simp (config := {contextual := true, maxSteps := 3000000, dsimp := false}) [Tryz.f71, ↓br_dec, ↓ev_drawn dr0, setCells, hlt, hx, hy, wrap_small hbd, hu, hxl, hyl, hxo.plain, hyo.plain, hxo, hyo, h2h, hxy]
      all_goals (try simp (config := {contextual := true}))
      all_goals grind
theorem same71 (call : FuncId → List AV → Option AV) 
    {es fs : List (List AV)} (he : OkR lay146 es) (hf : OkR lay146 fs) : ∃ m, evBody Tryz.prog call m Tryz.f71 [.sl .sh es, .sl .sh fs] = some (.lit (.bool (decide (es = fs)))) := by
  refine ⟨es.length + 1, ?_⟩
  apply ends_eq
  rw [ev_body (c := _) rfl]
  rw [show entry Tryz.f71 [.sl .sh es, .sl .sh fs] = { s := [.sl .sh es, .sl .sh fs, .undef, .undef, .undef, .undef, .undef, .undef, .undef, .undef, .undef, .undef, .undef, .undef, .undef, .undef, .undef, .undef, .undef, .undef, .undef, .undef, .undef, .undef, .undef, .undef], live := fun _ _ => none } from rfl]
  by_cases hl : es.length = fs.length
  · have hl' : ((es.length : Int) = (fs.length : Int)) := by omega
    simp -dsimp [Tryz.f71, ↓br_dec, hl']
    try simp only [← hl']
    refine lp71 call _ rfl he hf hl (fun lv ui u2 u3 u5 u6 u7 u8 u9 u10 u11 u14 u15 u16 u17 u18 u19 u20 u21 u22 u23 u24 u25 h => ?_) (fun E' h hn => ?_) es.length _ 0 _ _ _ _ _ _ _ _ _ _ _ _ _ _ _ _ _ _ _ _ _ _ (by omega) (by omega) rfl (by simp [nc_lit])
    · simp -dsimp [Tryz.f71, ↓br_dec, h]
    · simp -dsimp [Tryz.f71, ↓br_dec, hn, h]
  · have hl' : ¬ ((es.length : Int) = (fs.length : Int)) := by omega
    have : es ≠ fs := fun h => hl (by rw [h])
    simp -dsimp [Tryz.f71, ↓br_dec, hl', this]
theorem same72 (call : FuncId → List AV → Option AV) (m : Nat)
    {es fs : List (List AV)} (he : OkR lay5 es) (hf : OkR lay5 fs) : evBody Tryz.prog call m Tryz.f72 [.sl .sh es, .sl .sh fs] = some (.lit (.bool (decide (es = fs)))) := by
  have bx := (bytesOfA_ok he).1
  have by_ := (bytesOfA_ok hf).1
  have bi := bytesL_inj he hf
  apply ends_eq
  rw [ev_body (c := _) rfl]
  rw [show entry Tryz.f72 [.sl .sh es, .sl .sh fs] = { s := [.sl .sh es, .sl .sh fs, .undef, .undef, .undef, .undef, .undef, .undef, .undef, .undef], live := fun _ _ => none } from rfl]
  simp (config := {contextual := true, maxSteps := 3000000, dsimp := false}) [Tryz.f72, ↓br_dec, setCells, he, hf, bx, by_, bi]
  all_goals (try simp (config := {contextual := true}))
  all_goals grind
theorem dr73_0 : drawnA Tryz.prog (drawnIn Tryz.f73 0) = true := drawn_of (tab := [⟨some 16, [0], false, []⟩, ⟨some 17, [5], false, []⟩, ⟨some 18, [16, 17], false, [0, 1]⟩, ⟨some 19, [18], false, [2]⟩, ⟨some 20, [1], false, []⟩, ⟨some 21, [5], false, []⟩, ⟨some 22, [20, 21], false, [4, 5]⟩, ⟨some 23, [22], false, [6]⟩, ⟨some 24, [19, 23], false, [3, 7]⟩]) follows_mixed (by kernel_rfl) (by kernel_rfl)
theorem lp73 (call : FuncId → List AV → Option AV) (m : Nat) 
    {c : Code} (hcd : c = loopIn Tryz.f73 0) {es fs : List (List AV)} (he : OkR lay106 es) (hf : OkR lay106 fs) (hl : es.length = fs.length) {F : Ex × Env → Prop} (h1 : ∀ (lv : Nat → Nat → Option Nat) (ui u2 u3 u5 u6 u7 u8 u9 u10 u11 u14 u15 u16 u17 u18 u19 u20 u21 u22 u23 u24 u25 : AV), es = fs → F (.exit 0, { s := [.sl .sh es, .sl .sh fs, u2, u3, .lit (.bool false), u5, u6, u7, u8, u9, u10, u11, .lit (.int .i64 (es.length : Int)), ui, u14, u15, u16, u17, u18, u19, u20, u21, u22, u23, u24, u25], live := lv })) (h2 : ∀ E', es ≠ fs → E'.s[4]? = some (.lit (.bool false)) → F (.ret, E')) :
    ∀ (k N i : Nat) (lv : Nat → Nat → Option Nat) (u2 u3 u5 u6 u7 u8 u9 u10 u11 u14 u15 u16 u17 u18 u19 u20 u21 u22 u23 u24 u25 : AV), k < N → k + i = es.length → es.take i = fs.take i →
      (∀ u ∈ [u16, u17, u18, u19, u20, u21, u22, u23, u24], notCell u = true) →
      Ends (evLoop (evCode Tryz.prog call m c) N { s := [.sl .sh es, .sl .sh fs, u2, u3, .lit (.bool false), u5, u6, u7, u8, u9, u10, u11, .lit (.int .i64 (es.length : Int)), .lit (.int .i64 (i : Int)), u14, u15, u16, u17, u18, u19, u20, u21, u22, u23, u24, u25], live := lv }) F := by
  intro k
  induction k with
  | zero =>
    intro N i lv u2 u3 u5 u6 u7 u8 u9 u10 u11 u14 u15 u16 u17 u18 u19 u20 u21 u22 u23 u24 u25 hN hk hp hu
    obtain ⟨N, rfl⟩ : ∃ N', N = N' + 1 := ⟨N - 1, by omega⟩
    have hi : i = es.length := by omega
    subst hi
    rw [List.take_of_length_le (Nat.le_refl _), List.take_of_length_le (by omega)] at hp
    rw [ev_turn hcd]
    simp -dsimp [Tryz.f73, ↓br_dec]
    exact h1 _ _ _ _ _ _ _ _ _ _ _ _ _ _ _ _ _ _ _ _ _ _ _ hp
  | succ k ih =>
    intro N i lv u2 u3 u5 u6 u7 u8 u9 u10 u11 u14 u15 u16 u17 u18 u19 u20 u21 u22 u23 u24 u25 hN hk hp hu
    obtain ⟨N, rfl⟩ : ∃ N', N = N' + 1 := ⟨N - 1, by omega⟩
    obtain ⟨x, hx, hxo, hxt⟩ := he.get (i := i) (by omega)
    obtain ⟨y, hy, hyo, hyt⟩ := hf.get (i := i) (by omega)
    have hlt : ((i : Int) < (es.length : Int)) := by omega
    have hbd : i < 9223372036854775807 := by have := he.1; omega
    simp only [List.mem_cons, List.not_mem_nil, or_false, forall_eq_or_imp, forall_eq] at hu
    have hxl : x.length = 2 := hxo.1
    have hyl : y.length = 2 := hyo.1
    have dr0 := dr73_0
    simp only [drawnIn, drawnsOf, Tryz.f73, List.getD_cons_succ, List.getD_cons_zero, List.nil_append, List.append_nil, List.cons_append] at dr0
    rw [ev_turn hcd]
    have ihh : x = y → ∀ (lv : Nat → Nat → Option Nat) (u2 u3 u5 u6 u7 u8 u9 u10 u11 u14 u15 u16 u17 u18 u19 u20 u21 u22 u23 u24 u25 : AV), notCell u16 = true → notCell u17 = true → notCell u18 = true → notCell u19 = true → notCell u20 = true → notCell u21 = true → notCell u22 = true → notCell u23 = true → notCell u24 = true → Ends (evLoop (evCode Tryz.prog call m c) N { s := [.sl .sh es, .sl .sh fs, u2, u3, .lit (.bool false), u5, u6, u7, u8, u9, u10, u11, .lit (.int .i64 (es.length : Int)), .lit (.int .i64 ((i + 1 : Nat) : Int)), u14, u15, u16, u17, u18, u19, u20, u21, u22, u23, u24, u25], live := lv }) F := fun hxy lv u2 u3 u5 u6 u7 u8 u9 u10 u11 u14 u15 u16 u17 u18 u19 u20 u21 u22 u23 u24 u25 nu16 nu17 nu18 nu19 nu20 nu21 nu22 nu23 nu24 => ih N (i + 1) lv u2 u3 u5 u6 u7 u8 u9 u10 u11 u14 u15 u16 u17 u18 u19 u20 u21 u22 u23 u24 u25 (by omega) (by omega) (by rw [hxt, hyt, hp, hxy]) (by simp [nu16, nu17, nu18, nu19, nu20, nu21, nu22, nu23, nu24])
    have h2h : ¬ (x = y) → ∀ E', E'.s[4]? = some (.lit (.bool false)) → F (.ret, E') := fun hxy E' => h2 E' (fun h => hxy (by have hy' := hy; rw [← h, hx] at hy'; exact Option.some.inj hy'))
    clear ih h2
    by_cases hxy : x = y
    · subst hxy; have ihh := ihh rfl
      simp -dsimp [Tryz.f73, ↓br_dec, ↓ev_drawn dr0, setCells, hlt, hx, hy, wrap_small hbd, hu, hxl, hyl, hxo.plain, hyo.plain, hxo, hyo]
      exact ihh _ _ _ _ _ _ _ _ _ _ _ _ _ _ _ _ _ _ _ _ _ _ rfl rfl rfl rfl rfl rfl rfl rfl rfl
    · have h2h := h2h hxy
      skip
      simp (config := {contextual := true, maxSteps := 3000000, dsimp := false}) [Tryz.f73, ↓br_dec, ↓ev_drawn dr0, setCells, hlt, hx, hy, wrap_small hbd, hu, hxl, hyl, hxo.plain, hyo.plain, hxo, hyo, h2h, hxy]
      all_goals (try simp (config := {contextual := true}))
      all_goals grind
theorem same73 (call : FuncId → List AV → Option AV) 
    {es fs : List (List AV)} (he : OkR lay106 es) (hf : OkR lay106 fs) : ∃ m, evBody Tryz.prog call m Tryz.f73 [.sl .sh es, .sl .sh fs] = some (.lit (.bool (decide (es = fs)))) := by
  refine ⟨es.length + 1, ?_⟩
  apply ends_eq
  rw [ev_body (c := _) rfl]
  rw [show entry Tryz.f73 [.sl .sh es, .sl .sh fs] = { s := [.sl .sh es, .sl .sh fs, .undef, .undef, .undef, .undef, .undef, .undef, .undef, .undef, .undef, .undef, .undef, .undef, .undef, .undef, .undef, .undef, .undef, .undef, .undef, .undef, .undef, .undef, .undef, .undef], live := fun _ _ => none } from rfl]
  by_cases hl : es.length = fs.length
  · have hl' : ((es.length : Int) = (fs.length : Int)) := by omega
    simp -dsimp [Tryz.f73, ↓br_dec, hl']
    try simp only [← hl']
    refine lp73 call _ rfl he hf hl (fun lv ui u2 u3 u5 u6 u7 u8 u9 u10 u11 u14 u15 u16 u17 u18 u19 u20 u21 u22 u23 u24 u25 h => ?_) (fun E' h hn => ?_) es.length _ 0 _ _ _ _ _ _ _ _ _ _ _ _ _ _ _ _ _ _ _ _ _ _ (by omega) (by omega) rfl (by simp [nc_lit])
    · simp -dsimp [Tryz.f73, ↓br_dec, h]
    · simp -dsimp [Tryz.f73, ↓br_dec, hn, h]
  · have hl' : ¬ ((es.length : Int) = (fs.length : Int)) := by omega
    have : es ≠ fs := fun h => hl (by rw [h])
    simp -dsimp [Tryz.f73, ↓br_dec, hl', this]
theorem dr74_0 : drawnA Tryz.prog (drawnIn Tryz.f74 0) = true := drawn_of (tab := [⟨some 16, [0], false, []⟩, ⟨some 17, [5], false, []⟩, ⟨some 18, [16, 17], false, [0, 1]⟩, ⟨some 19, [18], false, [2]⟩, ⟨some 20, [1], false, []⟩, ⟨some 21, [5], false, []⟩, ⟨some 22, [20, 21], false, [4, 5]⟩, ⟨some 23, [22], false, [6]⟩, ⟨some 24, [19, 23], false, [3, 7]⟩]) follows_mixed (by kernel_rfl) (by kernel_rfl)
theorem lp74 (call : FuncId → List AV → Option AV) (m : Nat) 
    {c : Code} (hcd : c = loopIn Tryz.f74 0) {es fs : List (List AV)} (he : OkR lay139 es) (hf : OkR lay139 fs) (hl : es.length = fs.length) {F : Ex × Env → Prop} (h1 : ∀ (lv : Nat → Nat → Option Nat) (ui u2 u3 u5 u6 u7 u8 u9 u10 u11 u14 u15 u16 u17 u18 u19 u20 u21 u22 u23 u24 u25 : AV), es = fs → F (.exit 0, { s := [.sl .sh es, .sl .sh fs, u2, u3, .lit (.bool false), u5, u6, u7, u8, u9, u10, u11, .lit (.int .i64 (es.length : Int)), ui, u14, u15, u16, u17, u18, u19, u20, u21, u22, u23, u24, u25], live := lv })) (h2 : ∀ E', es ≠ fs → E'.s[4]? = some (.lit (.bool false)) → F (.ret, E')) :
    ∀ (k N i : Nat) (lv : Nat → Nat → Option Nat) (u2 u3 u5 u6 u7 u8 u9 u10 u11 u14 u15 u16 u17 u18 u19 u20 u21 u22 u23 u24 u25 : AV), k < N → k + i = es.length → es.take i = fs.take i →
      (∀ u ∈ [u16, u17, u18, u19, u20, u21, u22, u23, u24], notCell u = true) →
      Ends (evLoop (evCode Tryz.prog call m c) N { s := [.sl .sh es, .sl .sh fs, u2, u3, .lit (.bool false), u5, u6, u7, u8, u9, u10, u11, .lit (.int .i64 (es.length : Int)), .lit (.int .i64 (i : Int)), u14, u15, u16, u17, u18, u19, u20, u21, u22, u23, u24, u25], live := lv }) F := by
  intro k
  induction k with
  | zero =>
    intro N i lv u2 u3 u5 u6 u7 u8 u9 u10 u11 u14 u15 u16 u17 u18 u19 u20 u21 u22 u23 u24 u25 hN hk hp hu
    obtain ⟨N, rfl⟩ : ∃ N', N = N' + 1 := ⟨N - 1, by omega⟩
    have hi : i = es.length := by omega
    subst hi
    rw [List.take_of_length_le (Nat.le_refl _), List.take_of_length_le (by omega)] at hp
    rw [ev_turn hcd]
    simp -dsimp [Tryz.f74, ↓br_dec]
    exact h1 _ _ _ _ _ _ _ _ _ _ _ _ _ _ _ _ _ _ _ _ _ _ _ hp
  | succ k ih =>
    intro N i lv u2 u3 u5 u6 u7 u8 u9 u10 u11 u14 u15 u16 u17 u18 u19 u20 u21 u22 u23 u24 u25 hN hk hp hu
    obtain ⟨N, rfl⟩ : ∃ N', N = N' + 1 := ⟨N - 1, by omega⟩
    obtain ⟨x, hx, hxo, hxt⟩ := he.get (i := i) (by omega)
    obtain ⟨y, hy, hyo, hyt⟩ := hf.get (i := i) (by omega)
    have hlt : ((i : Int) < (es.length : Int)) := by omega
    have hbd : i < 9223372036854775807 := by have := he.1; omega
    simp only [List.mem_cons, List.not_mem_nil, or_false, forall_eq_or_imp, forall_eq] at hu
    have hxl : x.length = 2 := hxo.1
    have hyl : y.length = 2 := hyo.1
    have dr0 := dr74_0
    simp only [drawnIn, drawnsOf, Tryz.f74, List.getD_cons_succ, List.getD_cons_zero, List.nil_append, List.append_nil, List.cons_append] at dr0
    rw [ev_turn hcd]
    have ihh : x = y → ∀ (lv : Nat → Nat → Option Nat) (u2 u3 u5 u6 u7 u8 u9 u10 u11 u14 u15 u16 u17 u18 u19 u20 u21 u22 u23 u24 u25 : AV), notCell u16 = true → notCell u17 = true → notCell u18 = true → notCell u19 = true → notCell u20 = true → notCell u21 = true → notCell u22 = true → notCell u23 = true → notCell u24 = true → Ends (evLoop (evCode Tryz.prog call m c) N { s := [.sl .sh es, .sl .sh fs, u2, u3, .lit (.bool false), u5, u6, u7, u8, u9, u10, u11, .lit (.int .i64 (es.length : Int)), .lit (.int .i64 ((i + 1 : Nat) : Int)), u14, u15, u16, u17, u18, u19, u20, u21, u22, u23, u24, u25], live := lv }) F := fun hxy lv u2 u3 u5 u6 u7 u8 u9 u10 u11 u14 u15 u16 u17 u18 u19 u20 u21 u22 u23 u24 u25 nu16 nu17 nu18 nu19 nu20 nu21 nu22 nu23 nu24 => ih N (i + 1) lv u2 u3 u5 u6 u7 u8 u9 u10 u11 u14 u15 u16 u17 u18 u19 u20 u21 u22 u23 u24 u25 (by omega) (by omega) (by rw [hxt, hyt, hp, hxy]) (by simp [nu16, nu17, nu18, nu19, nu20, nu21, nu22, nu23, nu24])
    have h2h : ¬ (x = y) → ∀ E', E'.s[4]? = some (.lit (.bool false)) → F (.ret, E') := fun hxy E' => h2 E' (fun h => hxy (by have hy' := hy; rw [← h, hx] at hy'; exact Option.some.inj hy'))
    clear ih h2
    by_cases hxy : x = y
    · subst hxy; have ihh := ihh rfl
      simp -dsimp [Tryz.f74, ↓br_dec, ↓ev_drawn dr0, setCells, hlt, hx, hy, wrap_small hbd, hu, hxl, hyl, hxo.plain, hyo.plain, hxo, hyo]
      exact ihh _ _ _ _ _ _ _ _ _ _ _ _ _ _ _ _ _ _ _ _ _ _ rfl rfl rfl rfl rfl rfl rfl rfl rfl
    · have h2h := h2h hxy
      skip
      simp (config := {contextual := true, maxSteps := 3000000, dsimp := false}) [Tryz.f74, ↓br_dec, ↓ev_drawn dr0, setCells, hlt, hx, hy, wrap_small hbd, hu, hxl, hyl, hxo.plain, hyo.plain, hxo, hyo, h2h, hxy]
      all_goals (try simp (config := {contextual := true}))
      all_goals grind
theorem same74 (call : FuncId → List AV → Option AV) 
    {es fs : List (List AV)} (he : OkR lay139 es) (hf : OkR lay139 fs) : ∃ m, evBody Tryz.prog call m Tryz.f74 [.sl .sh es, .sl .sh fs] = some (.lit (.bool (decide (es = fs)))) := by
  refine ⟨es.length + 1, ?_⟩
  apply ends_eq
  rw [ev_body (c := _) rfl]
  rw [show entry Tryz.f74 [.sl .sh es, .sl .sh fs] = { s := [.sl .sh es, .sl .sh fs, .undef, .undef, .undef, .undef, .undef, .undef, .undef, .undef, .undef, .undef, .undef, .undef, .undef, .undef, .undef, .undef, .undef, .undef, .undef, .undef, .undef, .undef, .undef, .undef], live := fun _ _ => none } from rfl]
  by_cases hl : es.length = fs.length
  · have hl' : ((es.length : Int) = (fs.length : Int)) := by omega
    simp -dsimp [Tryz.f74, ↓br_dec, hl']
    try simp only [← hl']
    refine lp74 call _ rfl he hf hl (fun lv ui u2 u3 u5 u6 u7 u8 u9 u10 u11 u14 u15 u16 u17 u18 u19 u20 u21 u22 u23 u24 u25 h => ?_) (fun E' h hn => ?_) es.length _ 0 _ _ _ _ _ _ _ _ _ _ _ _ _ _ _ _ _ _ _ _ _ _ (by omega) (by omega) rfl (by simp [nc_lit])
    · simp -dsimp [Tryz.f74, ↓br_dec, h]
    · simp -dsimp [Tryz.f74, ↓br_dec, hn, h]
  · have hl' : ¬ ((es.length : Int) = (fs.length : Int)) := by omega
    have : es ≠ fs := fun h => hl (by rw [h])
    simp -dsimp [Tryz.f74, ↓br_dec, hl', this]
theorem same75 (call : FuncId → List AV → Option AV) (m : Nat)
    (hc71 : ∀ x y, OkR lay146 x → OkR lay146 y → call 71 [.sl .sh x, .sl .sh y] = some (.lit (.bool (decide (x = y)))))
    {x y : List AV} (hx : OkL lay99 x) (hy : OkL lay99 y) : evBody Tryz.prog call m Tryz.f75 [.agg x, .agg y] = some (.lit (.bool (decide (x = y)))) := by
  obtain ⟨c, r, rfl, hc, tx0⟩ := hx.cons_inv
  obtain ⟨x0, rfl, wx0⟩ := hc.str_inv
  obtain ⟨c, r, rfl, hc, tx1⟩ := tx0.cons_inv
  obtain ⟨x1, rfl, wx1⟩ := hc.str_inv
  obtain ⟨c, r, rfl, hc, tx2⟩ := tx1.cons_inv
  obtain ⟨x2, rfl, wx2⟩ := hc.str_inv
  obtain ⟨c, r, rfl, hc, tx3⟩ := tx2.cons_inv
  obtain ⟨x3, rfl, wx3⟩ := hc.sl_inv
  have := tx3.nil_inv; subst this
  obtain ⟨c, r, rfl, hc, ty0⟩ := hy.cons_inv
  obtain ⟨y0, rfl, wy0⟩ := hc.str_inv
  obtain ⟨c, r, rfl, hc, ty1⟩ := ty0.cons_inv
  obtain ⟨y1, rfl, wy1⟩ := hc.str_inv
  obtain ⟨c, r, rfl, hc, ty2⟩ := ty1.cons_inv
  obtain ⟨y2, rfl, wy2⟩ := hc.str_inv
  obtain ⟨c, r, rfl, hc, ty3⟩ := ty2.cons_inv
  obtain ⟨y3, rfl, wy3⟩ := hc.sl_inv
  have := ty3.nil_inv; subst this
  apply ends_eq
  rw [ev_body (c := _) rfl]
  rw [show entry Tryz.f75 [.agg [.lit (.string x0), .lit (.string x1), .lit (.string x2), .sl .sh x3], .agg [.lit (.string y0), .lit (.string y1), .lit (.string y2), .sl .sh y3]] = { s := [.agg [.lit (.string x0), .lit (.string x1), .lit (.string x2), .sl .sh x3], .agg [.lit (.string y0), .lit (.string y1), .lit (.string y2), .sl .sh y3], .undef, .undef, .undef, .undef, .undef, .undef, .undef, .undef, .undef, .undef, .undef, .undef, .undef, .undef, .undef, .undef, .undef, .undef, .undef, .undef, .undef, .undef, .undef, .undef, .undef, .undef, .undef, .undef, .undef], live := fun _ _ => none } from rfl]
  simp (config := {contextual := true, maxSteps := 3000000, dsimp := false}) [Tryz.f75, ↓br_dec, setCells, hc71, wx0, wy0, wx1, wy1, wx2, wy2, wx3, wy3]
  all_goals (try simp (config := {contextual := true}))
  all_goals grind
theorem dr76_0 : drawnA Tryz.prog (drawnIn Tryz.f76 0) = true := drawn_of (tab := [⟨some 16, [0], false, []⟩, ⟨some 17, [5], false, []⟩, ⟨some 18, [16, 17], false, [0, 1]⟩, ⟨some 19, [18], false, [2]⟩, ⟨some 20, [1], false, []⟩, ⟨some 21, [5], false, []⟩, ⟨some 22, [20, 21], false, [4, 5]⟩, ⟨some 23, [22], false, [6]⟩, ⟨some 24, [19, 23], false, [3, 7]⟩]) follows_mixed (by kernel_rfl) (by kernel_rfl)
theorem lp76 (call : FuncId → List AV → Option AV) (m : Nat) 
    {c : Code} (hcd : c = loopIn Tryz.f76 0) {es fs : List (List AV)} (he : OkR lay137 es) (hf : OkR lay137 fs) (hl : es.length = fs.length) {F : Ex × Env → Prop} (h1 : ∀ (lv : Nat → Nat → Option Nat) (ui u2 u3 u5 u6 u7 u8 u9 u10 u11 u14 u15 u16 u17 u18 u19 u20 u21 u22 u23 u24 u25 : AV), es = fs → F (.exit 0, { s := [.sl .sh es, .sl .sh fs, u2, u3, .lit (.bool false), u5, u6, u7, u8, u9, u10, u11, .lit (.int .i64 (es.length : Int)), ui, u14, u15, u16, u17, u18, u19, u20, u21, u22, u23, u24, u25], live := lv })) (h2 : ∀ E', es ≠ fs → E'.s[4]? = some (.lit (.bool false)) → F (.ret, E')) :
    ∀ (k N i : Nat) (lv : Nat → Nat → Option Nat) (u2 u3 u5 u6 u7 u8 u9 u10 u11 u14 u15 u16 u17 u18 u19 u20 u21 u22 u23 u24 u25 : AV), k < N → k + i = es.length → es.take i = fs.take i →
      (∀ u ∈ [u16, u17, u18, u19, u20, u21, u22, u23, u24], notCell u = true) →
      Ends (evLoop (evCode Tryz.prog call m c) N { s := [.sl .sh es, .sl .sh fs, u2, u3, .lit (.bool false), u5, u6, u7, u8, u9, u10, u11, .lit (.int .i64 (es.length : Int)), .lit (.int .i64 (i : Int)), u14, u15, u16, u17, u18, u19, u20, u21, u22, u23, u24, u25], live := lv }) F := by
  intro k
  induction k with
  | zero =>
    intro N i lv u2 u3 u5 u6 u7 u8 u9 u10 u11 u14 u15 u16 u17 u18 u19 u20 u21 u22 u23 u24 u25 hN hk hp hu
    obtain ⟨N, rfl⟩ : ∃ N', N = N' + 1 := ⟨N - 1, by omega⟩
    have hi : i = es.length := by omega
    subst hi
    rw [List.take_of_length_le (Nat.le_refl _), List.take_of_length_le (by omega)] at hp
    rw [ev_turn hcd]
    simp -dsimp [Tryz.f76, ↓br_dec]
    exact h1 _ _ _ _ _ _ _ _ _ _ _ _ _ _ _ _ _ _ _ _ _ _ _ hp
  | succ k ih =>
    intro N i lv u2 u3 u5 u6 u7 u8 u9 u10 u11 u14 u15 u16 u17 u18 u19 u20 u21 u22 u23 u24 u25 hN hk hp hu
    obtain ⟨N, rfl⟩ : ∃ N', N = N' + 1 := ⟨N - 1, by omega⟩
    obtain ⟨x, hx, hxo, hxt⟩ := he.get (i := i) (by omega)
    obtain ⟨y, hy, hyo, hyt⟩ := hf.get (i := i) (by omega)
    have hlt : ((i : Int) < (es.length : Int)) := by omega
    have hbd : i < 9223372036854775807 := by have := he.1; omega
    simp only [List.mem_cons, List.not_mem_nil, or_false, forall_eq_or_imp, forall_eq] at hu
    have hxl : x.length = 4 := hxo.1
    have hyl : y.length = 4 := hyo.1
    have dr0 := dr76_0
    simp only [drawnIn, drawnsOf, Tryz.f76, List.getD_cons_succ, List.getD_cons_zero, List.nil_append, List.append_nil, List.cons_append] at dr0
    rw [ev_turn hcd]
    have ihh : x = y → ∀ (lv : Nat → Nat → Option Nat) (u2 u3 u5 u6 u7 u8 u9 u10 u11 u14 u15 u16 u17 u18 u19 u20 u21 u22 u23 u24 u25 : AV), notCell u16 = true → notCell u17 = true → notCell u18 = true → notCell u19 = true → notCell u20 = true → notCell u21 = true → notCell u22 = true → notCell u23 = true → notCell u24 = true → Ends (evLoop (evCode Tryz.prog call m c) N { s := [.sl .sh es, .sl .sh fs, u2, u3, .lit (.bool false), u5, u6, u7, u8, u9, u10, u11, .lit (.int .i64 (es.length : Int)), .lit (.int .i64 ((i + 1 : Nat) : Int)), u14, u15, u16, u17, u18, u19, u20, u21, u22, u23, u24, u25], live := lv }) F := fun hxy lv u2 u3 u5 u6 u7 u8 u9 u10 u11 u14 u15 u16 u17 u18 u19 u20 u21 u22 u23 u24 u25 nu16 nu17 nu18 nu19 nu20 nu21 nu22 nu23 nu24 => ih N (i + 1) lv u2 u3 u5 u6 u7 u8 u9 u10 u11 u14 u15 u16 u17 u18 u19 u20 u21 u22 u23 u24 u25 (by omega) (by omega) (by rw [hxt, hyt, hp, hxy]) (by simp [nu16, nu17, nu18, nu19, nu20, nu21, nu22, nu23, nu24])
    have h2h : ¬ (x = y) → ∀ E', E'.s[4]? = some (.lit (.bool false)) → F (.ret, E') := fun hxy E' => h2 E' (fun h => hxy (by have hy' := hy; rw [← h, hx] at hy'; exact Option.some.inj hy'))
    clear ih h2
    by_cases hxy : x = y
    · subst hxy; have ihh := ihh rfl
      simp -dsimp [Tryz.f76, ↓br_dec, ↓ev_drawn dr0, setCells, hlt, hx, hy, wrap_small hbd, hu, hxl, hyl, hxo.plain, hyo.plain, hxo, hyo]
      exact ihh _ _ _ _ _ _ _ _ _ _ _ _ _ _ _ _ _ _ _ _ _ _ rfl rfl rfl rfl rfl rfl rfl rfl rfl
    · have h2h := h2h hxy
      skip
      simp (config := {contextual := true, maxSteps := 3000000, dsimp := false}) [Tryz.f76, ↓br_dec, ↓ev_drawn dr0, setCells, hlt, hx, hy, wrap_small hbd, hu, hxl, hyl, hxo.plain, hyo.plain, hxo, hyo, h2h, hxy]
      all_goals (try simp (config := {contextual := true}))
      all_goals grind
theorem same76 (call : FuncId → List AV → Option AV) 
    {es fs : List (List AV)} (he : OkR lay137 es) (hf : OkR lay137 fs) : ∃ m, evBody Tryz.prog call m Tryz.f76 [.sl .sh es, .sl .sh fs] = some (.lit (.bool (decide (es = fs)))) := by
  refine ⟨es.length + 1, ?_⟩
  apply ends_eq
  rw [ev_body (c := _) rfl]
  rw [show entry Tryz.f76 [.sl .sh es, .sl .sh fs] = { s := [.sl .sh es, .sl .sh fs, .undef, .undef, .undef, .undef, .undef, .undef, .undef, .undef, .undef, .undef, .undef, .undef, .undef, .undef, .undef, .undef, .undef, .undef, .undef, .undef, .undef, .undef, .undef, .undef], live := fun _ _ => none } from rfl]
  by_cases hl : es.length = fs.length
  · have hl' : ((es.length : Int) = (fs.length : Int)) := by omega
    simp -dsimp [Tryz.f76, ↓br_dec, hl']
    try simp only [← hl']
    refine lp76 call _ rfl he hf hl (fun lv ui u2 u3 u5 u6 u7 u8 u9 u10 u11 u14 u15 u16 u17 u18 u19 u20 u21 u22 u23 u24 u25 h => ?_) (fun E' h hn => ?_) es.length _ 0 _ _ _ _ _ _ _ _ _ _ _ _ _ _ _ _ _ _ _ _ _ _ (by omega) (by omega) rfl (by simp [nc_lit])
    · simp -dsimp [Tryz.f76, ↓br_dec, h]
    · simp -dsimp [Tryz.f76, ↓br_dec, hn, h]
  · have hl' : ¬ ((es.length : Int) = (fs.length : Int)) := by omega
    have : es ≠ fs := fun h => hl (by rw [h])
    simp -dsimp [Tryz.f76, ↓br_dec, hl', this]
end Go.Proofs.YtlgdhdelhpklbaaGreat.EV
