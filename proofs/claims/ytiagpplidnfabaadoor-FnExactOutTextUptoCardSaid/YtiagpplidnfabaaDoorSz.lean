/- Contracts, by sz.py. -/
import Derived.Test.YtiagpplidnfabaaDoorSq
set_option maxHeartbeats 4000000
set_option maxRecDepth 20000
set_option linter.unusedSimpArgs false
set_option linter.unusedVariables false
namespace Go.Proofs.YtiagpplidnfabaaDoor.EV
open Go.RowKit
open Classical
theorem szf4 (call : FuncId → List AV → Option AV) (m : Nat)
    (hc10 : ∀ x n, OkL lay25 x → 0 ≤ n → n ≤ 1048576 → ∃ r, call 10 [.agg x, .lit (.int .i64 n)] = some (.lit (.int .i64 r)) ∧ -1 ≤ r ∧ r ≤ 1048576)
    (hc11 : ∀ x n, OkL lay27 x → 0 ≤ n → n ≤ 1048576 → ∃ r, call 11 [.agg x, .lit (.int .i64 n)] = some (.lit (.int .i64 r)) ∧ -1 ≤ r ∧ r ≤ 1048576)
    {x : List AV} {n : Int} (hx : OkL lay29 x) (h0 : 0 ≤ n) (h1 : n ≤ 1048576) : ∃ r, evBody Tryd.prog call m Tryd.f4 [.agg x, .lit (.int .i64 n)] = some (.lit (.int .i64 r)) ∧ -1 ≤ r ∧ r ≤ 1048576 := by
  obtain ⟨c, r, rfl, hc, tx0⟩ := hx.cons_inv
  obtain ⟨x0, rfl, wx0⟩ := hc.int_inv
  obtain ⟨c, r, rfl, hc, tx1⟩ := tx0.cons_inv
  obtain ⟨x1, rfl, wx1⟩ := hc.int_inv
  obtain ⟨c, r, rfl, hc, tx2⟩ := tx1.cons_inv
  obtain ⟨x2, rfl, wx2⟩ := hc.str_inv
  obtain ⟨c, r, rfl, hc, tx3⟩ := tx2.cons_inv
  obtain ⟨x3, rfl, wx3⟩ := hc.int_inv
  obtain ⟨c, r, rfl, hc, tx4⟩ := tx3.cons_inv
  obtain ⟨x4, rfl, wx4⟩ := hc.sl_inv
  obtain ⟨c, r, rfl, hc, tx5⟩ := tx4.cons_inv
  obtain ⟨x5, rfl, wx5⟩ := hc.sl_inv
  obtain ⟨c, r, rfl, hc, tx6⟩ := tx5.cons_inv
  obtain ⟨x6, rfl, wx6⟩ := hc.str_inv
  obtain ⟨c, r, rfl, hc, tx7⟩ := tx6.cons_inv
  obtain ⟨x7, rfl, wx7⟩ := hc.str_inv
  obtain ⟨c, r, rfl, hc, tx8⟩ := tx7.cons_inv
  obtain ⟨x8, rfl, wx8⟩ := hc.str_inv
  obtain ⟨c, r, rfl, hc, tx9⟩ := tx8.cons_inv
  obtain ⟨x9, rfl, wx9⟩ := hc.sl_inv
  have := tx9.nil_inv; subst this
  suffices h : Ends (evBody Tryd.prog call m Tryd.f4 [.agg [.lit (.int .i64 x0), .lit (.int .i64 x1), .lit (.string x2), .lit (.int .i64 x3), .sl .sh x4, .sl .sh x5, .lit (.string x6), .lit (.string x7), .lit (.string x8), .sl .sh x9], .lit (.int .i64 n)]) Num by
    obtain ⟨d, h, r, rfl, h2⟩ := h; exact ⟨r, h, h2⟩
  rw [ev_body (c := _) rfl]
  rw [show entry Tryd.f4 [.agg [.lit (.int .i64 x0), .lit (.int .i64 x1), .lit (.string x2), .lit (.int .i64 x3), .sl .sh x4, .sl .sh x5, .lit (.string x6), .lit (.string x7), .lit (.string x8), .sl .sh x9], .lit (.int .i64 n)] = { s := [.agg [.lit (.int .i64 x0), .lit (.int .i64 x1), .lit (.string x2), .lit (.int .i64 x3), .sl .sh x4, .sl .sh x5, .lit (.string x6), .lit (.string x7), .lit (.string x8), .sl .sh x9], .lit (.int .i64 n), .undef, .undef, .undef, .undef, .undef, .undef, .undef, .undef, .undef, .undef, .undef, .undef, .undef, .undef, .undef, .undef, .undef, .undef, .undef, .undef, .undef, .undef, .undef], live := fun _ _ => none } from rfl]
  have q0 : IntKind.i64.wrap (n - ((x2.size) : Int)) = n - ((x2.size) : Int) := wrap_sub (by omega) (by omega) wx2
  simp -dsimp [Tryd.f4, q0]
  refine br_i (fun h => ?_) (fun h => ?_)
  · simp -dsimp [Tryd.f4, Num]
  obtain ⟨r1, e1, l1, u1⟩ := hc10 [.lit (.int .i64 x3), .sl .sh x4, .sl .sh x5] _ (by simp [wx0, wx1, wx2, wx3, wx4, wx5, wx6, wx7, wx8, wx9]) (by omega : 0 ≤ (n - ((x2.size) : Int))) (by omega)
  simp -dsimp [Tryd.f4, e1]
  refine br_i (fun h => ?_) (fun h => ?_)
  · simp -dsimp [Tryd.f4, Num]
  obtain ⟨r2, e2, l2, u2⟩ := hc11 [.lit (.string x6), .lit (.string x7), .lit (.string x8), .sl .sh x9] _ (by simp [wx0, wx1, wx2, wx3, wx4, wx5, wx6, wx7, wx8, wx9]) (by omega : 0 ≤ r1) (by omega)
  simp -dsimp [Tryd.f4, e2]
  refine br_i (fun h => ?_) (fun h => ?_)
  · simp -dsimp [Tryd.f4, Num]
  simp -dsimp [Tryd.f4, Num]
  try omega
theorem szf10 (call : FuncId → List AV → Option AV) (m : Nat)
    (hc21 : ∀ x n, OkR lay69 x → 0 ≤ n → n ≤ 1048576 → ∃ r, call 21 [.sl .sh x, .lit (.int .i64 n)] = some (.lit (.int .i64 r)) ∧ -1 ≤ r ∧ r ≤ 1048576)
    (hc22 : ∀ x n, OkR lay5 x → 0 ≤ n → n ≤ 1048576 → ∃ r, call 22 [.sl .sh x, .lit (.int .i64 n)] = some (.lit (.int .i64 r)) ∧ -1 ≤ r ∧ r ≤ 1048576)
    {x : List AV} {n : Int} (hx : OkL lay25 x) (h0 : 0 ≤ n) (h1 : n ≤ 1048576) : ∃ r, evBody Tryd.prog call m Tryd.f10 [.agg x, .lit (.int .i64 n)] = some (.lit (.int .i64 r)) ∧ -1 ≤ r ∧ r ≤ 1048576 := by
  obtain ⟨c, r, rfl, hc, tx0⟩ := hx.cons_inv
  obtain ⟨x0, rfl, wx0⟩ := hc.int_inv
  obtain ⟨c, r, rfl, hc, tx1⟩ := tx0.cons_inv
  obtain ⟨x1, rfl, wx1⟩ := hc.sl_inv
  obtain ⟨c, r, rfl, hc, tx2⟩ := tx1.cons_inv
  obtain ⟨x2, rfl, wx2⟩ := hc.sl_inv
  have := tx2.nil_inv; subst this
  suffices h : Ends (evBody Tryd.prog call m Tryd.f10 [.agg [.lit (.int .i64 x0), .sl .sh x1, .sl .sh x2], .lit (.int .i64 n)]) Num by
    obtain ⟨d, h, r, rfl, h2⟩ := h; exact ⟨r, h, h2⟩
  rw [ev_body (c := _) rfl]
  rw [show entry Tryd.f10 [.agg [.lit (.int .i64 x0), .sl .sh x1, .sl .sh x2], .lit (.int .i64 n)] = { s := [.agg [.lit (.int .i64 x0), .sl .sh x1, .sl .sh x2], .lit (.int .i64 n), .undef, .undef, .undef, .undef, .undef, .undef, .undef, .undef, .undef, .undef, .undef, .undef, .undef, .undef, .undef, .undef], live := fun _ _ => none } from rfl]
  obtain ⟨r0, e0, l0, u0⟩ := hc21 _ _ wx1 (by omega : 0 ≤ n) (by omega)
  simp -dsimp [Tryd.f10, e0]
  refine br_i (fun h => ?_) (fun h => ?_)
  · simp -dsimp [Tryd.f10, Num]
  obtain ⟨r1, e1, l1, u1⟩ := hc22 _ _ wx2 (by omega : 0 ≤ r0) (by omega)
  simp -dsimp [Tryd.f10, e1]
  refine br_i (fun h => ?_) (fun h => ?_)
  · simp -dsimp [Tryd.f10, Num]
  simp -dsimp [Tryd.f10, Num]
  try omega
theorem szf11 (call : FuncId → List AV → Option AV) (m : Nat)
    (hc21 : ∀ x n, OkR lay69 x → 0 ≤ n → n ≤ 1048576 → ∃ r, call 21 [.sl .sh x, .lit (.int .i64 n)] = some (.lit (.int .i64 r)) ∧ -1 ≤ r ∧ r ≤ 1048576)
    {x : List AV} {n : Int} (hx : OkL lay27 x) (h0 : 0 ≤ n) (h1 : n ≤ 1048576) : ∃ r, evBody Tryd.prog call m Tryd.f11 [.agg x, .lit (.int .i64 n)] = some (.lit (.int .i64 r)) ∧ -1 ≤ r ∧ r ≤ 1048576 := by
  obtain ⟨c, r, rfl, hc, tx0⟩ := hx.cons_inv
  obtain ⟨x0, rfl, wx0⟩ := hc.str_inv
  obtain ⟨c, r, rfl, hc, tx1⟩ := tx0.cons_inv
  obtain ⟨x1, rfl, wx1⟩ := hc.str_inv
  obtain ⟨c, r, rfl, hc, tx2⟩ := tx1.cons_inv
  obtain ⟨x2, rfl, wx2⟩ := hc.str_inv
  obtain ⟨c, r, rfl, hc, tx3⟩ := tx2.cons_inv
  obtain ⟨x3, rfl, wx3⟩ := hc.sl_inv
  have := tx3.nil_inv; subst this
  suffices h : Ends (evBody Tryd.prog call m Tryd.f11 [.agg [.lit (.string x0), .lit (.string x1), .lit (.string x2), .sl .sh x3], .lit (.int .i64 n)]) Num by
    obtain ⟨d, h, r, rfl, h2⟩ := h; exact ⟨r, h, h2⟩
  rw [ev_body (c := _) rfl]
  rw [show entry Tryd.f11 [.agg [.lit (.string x0), .lit (.string x1), .lit (.string x2), .sl .sh x3], .lit (.int .i64 n)] = { s := [.agg [.lit (.string x0), .lit (.string x1), .lit (.string x2), .sl .sh x3], .lit (.int .i64 n), .undef, .undef, .undef, .undef, .undef, .undef, .undef, .undef, .undef, .undef, .undef, .undef, .undef, .undef, .undef, .undef, .undef, .undef, .undef, .undef, .undef, .undef, .undef, .undef, .undef, .undef, .undef, .undef, .undef, .undef, .undef], live := fun _ _ => none } from rfl]
  have q0 : IntKind.i64.wrap (n - ((x0.size) : Int)) = n - ((x0.size) : Int) := wrap_sub (by omega) (by omega) wx0
  simp -dsimp [Tryd.f11, q0]
  refine br_i (fun h => ?_) (fun h => ?_)
  · simp -dsimp [Tryd.f11, Num]
  have q1 : IntKind.i64.wrap ((n - ((x0.size) : Int)) - ((x1.size) : Int)) = (n - ((x0.size) : Int)) - ((x1.size) : Int) := wrap_sub (by omega) (by omega) wx1
  simp -dsimp [Tryd.f11, q1]
  refine br_i (fun h => ?_) (fun h => ?_)
  · simp -dsimp [Tryd.f11, Num]
  have q2 : IntKind.i64.wrap (((n - ((x0.size) : Int)) - ((x1.size) : Int)) - ((x2.size) : Int)) = ((n - ((x0.size) : Int)) - ((x1.size) : Int)) - ((x2.size) : Int) := wrap_sub (by omega) (by omega) wx2
  simp -dsimp [Tryd.f11, q2]
  refine br_i (fun h => ?_) (fun h => ?_)
  · simp -dsimp [Tryd.f11, Num]
  obtain ⟨r3, e3, l3, u3⟩ := hc21 _ _ wx3 (by omega : 0 ≤ (((n - ((x0.size) : Int)) - ((x1.size) : Int)) - ((x2.size) : Int))) (by omega)
  simp -dsimp [Tryd.f11, e3]
  refine br_i (fun h => ?_) (fun h => ?_)
  · simp -dsimp [Tryd.f11, Num]
  simp -dsimp [Tryd.f11, Num]
  try omega
theorem szl21 (call : FuncId → List AV → Option AV) (m : Nat)
    (hc33 : ∀ x n, OkL lay69 x → 0 ≤ n → n ≤ 1048576 → ∃ r, call 33 [.agg x, .lit (.int .i64 n)] = some (.lit (.int .i64 r)) ∧ -1 ≤ r ∧ r ≤ 1048576)
    {c : Code} (hcd : c = loopIn Tryd.f21 0) {es : List (List AV)} (he : OkR lay69 es) {F : Ex × Env → Prop} (h1 : ∀ (r : Int) (lv : Nat → Nat → Option Nat) (u5 u2 u3 u4 u6 u7 u8 u9 u10 u11 u12 u13 u14 u15 u16 u17 u18 u19 u20 u21 u22 u23 u24 u25 u26 : AV), -1 ≤ r → r ≤ 1048576 → F (.exit 0, { s := [.sl .sh es, .lit (.int .i64 r), u2, u3, u4, u5, u6, u7, u8, u9, u10, u11, u12, u13, u14, u15, u16, u17, u18, u19, u20, u21, u22, u23, u24, u25, u26], live := lv })) (h2 : ∀ E', E'.s[4]? = some (.lit (.int .i64 (-1))) → F (.ret, E')) :
    ∀ (k N i : Nat) (n : Int) (lv : Nat → Nat → Option Nat) (u2 u3 u4 u6 u7 u8 u9 u10 u11 u12 u13 u14 u15 u16 u17 u18 u19 u20 u21 u22 u23 u24 u25 u26 : AV), k < N → k + i = es.length → 0 ≤ n → n ≤ 1048576 →
      Ends (evLoop (evCode Tryd.prog call m c) N { s := [.sl .sh es, .lit (.int .i64 n), u2, u3, u4, .lit (.int .i64 (i : Int)), u6, u7, u8, u9, u10, u11, u12, u13, u14, u15, u16, u17, u18, u19, u20, u21, u22, u23, u24, u25, u26], live := lv }) F := by
  intro k
  induction k with
  | zero =>
    intro N i n lv u2 u3 u4 u6 u7 u8 u9 u10 u11 u12 u13 u14 u15 u16 u17 u18 u19 u20 u21 u22 u23 u24 u25 u26 hN hk hn0 hn1
    obtain ⟨N, rfl⟩ : ∃ N', N = N' + 1 := ⟨N - 1, by omega⟩
    have hi : i = es.length := by omega
    subst hi
    rw [ev_turn hcd]
    simp -dsimp [Tryd.f21]
    exact h1 n _ _ _ _ _ _ _ _ _ _ _ _ _ _ _ _ _ _ _ _ _ _ _ _ _ _ (by omega) (by omega)
  | succ k ih =>
    intro N i n lv u2 u3 u4 u6 u7 u8 u9 u10 u11 u12 u13 u14 u15 u16 u17 u18 u19 u20 u21 u22 u23 u24 u25 u26 hN hk hn0 hn1
    obtain ⟨N, rfl⟩ : ∃ N', N = N' + 1 := ⟨N - 1, by omega⟩
    obtain ⟨x, hx, hxo, hxt⟩ := he.get (i := i) (by omega)
    have hlt : ((i : Int) < (es.length : Int)) := by omega
    have hbd : i < 9223372036854775807 := by have := he.1; omega
    obtain ⟨r, er, lr, ur⟩ := hc33 x n hxo hn0 hn1
    have hxl : x.length = 2 := hxo.1
    rw [ev_turn hcd]
    simp -dsimp [Tryd.f21, hlt, hx, wrap_small hbd, hxl, hxo.plain, er]
    refine br_i (fun h => ?_) (fun h => ?_)
    · simp -dsimp [Tryd.f21]; exact h2 _ (by simp)
    · simp -dsimp [Tryd.f21, wrap_small hbd]
      exact ih N (i + 1) r _ _ _ _ _ _ _ _ _ _ _ _ _ _ _ _ _ _ _ _ _ _ _ _ _ (by omega) (by omega) (by omega) (by omega)
theorem szf21 (call : FuncId → List AV → Option AV)
    (hc33 : ∀ x n, OkL lay69 x → 0 ≤ n → n ≤ 1048576 → ∃ r, call 33 [.agg x, .lit (.int .i64 n)] = some (.lit (.int .i64 r)) ∧ -1 ≤ r ∧ r ≤ 1048576)
    {es : List (List AV)} {n : Int} (he : OkR lay69 es) (h0 : 0 ≤ n) (h1 : n ≤ 1048576) : ∃ m, ∃ r, evBody Tryd.prog call m Tryd.f21 [.sl .sh es, .lit (.int .i64 n)] = some (.lit (.int .i64 r)) ∧ -1 ≤ r ∧ r ≤ 1048576 := by
  refine ⟨es.length + 1, ?_⟩
  suffices h : Ends (evBody Tryd.prog call (es.length + 1) Tryd.f21 [.sl .sh es, .lit (.int .i64 n)]) Num by
    obtain ⟨d, h, r, rfl, h2⟩ := h; exact ⟨r, h, h2⟩
  rw [ev_body (c := _) rfl]
  rw [show entry Tryd.f21 [.sl .sh es, .lit (.int .i64 n)] = { s := [.sl .sh es, .lit (.int .i64 n), .undef, .undef, .undef, .undef, .undef, .undef, .undef, .undef, .undef, .undef, .undef, .undef, .undef, .undef, .undef, .undef, .undef, .undef, .undef, .undef, .undef, .undef, .undef, .undef, .undef], live := fun _ _ => none } from rfl]
  have q : IntKind.i64.wrap (n - (es.length : Int)) = n - (es.length : Int) := wrap_sub (by omega) (by omega) he.1
  simp -dsimp [Tryd.f21, q]
  refine br_i (fun h => ?_) (fun h => ?_)
  · simp -dsimp [Tryd.f21, Num]
  simp -dsimp [Tryd.f21]
  refine szl21 call _ hc33 rfl he (fun r lv u5 u2 u3 u4 u6 u7 u8 u9 u10 u11 u12 u13 u14 u15 u16 u17 u18 u19 u20 u21 u22 u23 u24 u25 u26 h3 h4 => ?_) (fun E' hn => ?_) es.length _ 0 _ _ _ _ _ _ _ _ _ _ _ _ _ _ _ _ _ _ _ _ _ _ _ _ _ _ (by omega) (by omega) (by omega) (by omega)
  · simp -dsimp [Tryd.f21, Num]; omega
  · simp -dsimp [Tryd.f21, hn, Num]
theorem szf22 (call : FuncId → List AV → Option AV)
    {es : List (List AV)} {n : Int} (he : OkR lay5 es) (h0 : 0 ≤ n) (h1 : n ≤ 1048576) : ∃ m, ∃ r, evBody Tryd.prog call m Tryd.f22 [.sl .sh es, .lit (.int .i64 n)] = some (.lit (.int .i64 r)) ∧ -1 ≤ r ∧ r ≤ 1048576 := by
  refine ⟨es.length + 1, ?_⟩
  suffices h : Ends (evBody Tryd.prog call (es.length + 1) Tryd.f22 [.sl .sh es, .lit (.int .i64 n)]) Num by
    obtain ⟨d, h, r, rfl, h2⟩ := h; exact ⟨r, h, h2⟩
  rw [ev_body (c := _) rfl]
  rw [show entry Tryd.f22 [.sl .sh es, .lit (.int .i64 n)] = { s := [.sl .sh es, .lit (.int .i64 n), .undef, .undef, .undef, .undef, .undef, .undef, .undef, .undef, .undef, .undef], live := fun _ _ => none } from rfl]
  have q : IntKind.i64.wrap (n - (es.length : Int)) = n - (es.length : Int) := wrap_sub (by omega) (by omega) he.1
  simp -dsimp [Tryd.f22, q]
  refine br_i (fun h => ?_) (fun h => ?_)
  · simp -dsimp [Tryd.f22, Num]
  simp -dsimp [Tryd.f22, Num]
  try omega
theorem szf33 (call : FuncId → List AV → Option AV) (m : Nat)
    {x : List AV} {n : Int} (hx : OkL lay69 x) (h0 : 0 ≤ n) (h1 : n ≤ 1048576) : ∃ r, evBody Tryd.prog call m Tryd.f33 [.agg x, .lit (.int .i64 n)] = some (.lit (.int .i64 r)) ∧ -1 ≤ r ∧ r ≤ 1048576 := by
  obtain ⟨c, r, rfl, hc, tx0⟩ := hx.cons_inv
  obtain ⟨x0, rfl, wx0⟩ := hc.str_inv
  obtain ⟨c, r, rfl, hc, tx1⟩ := tx0.cons_inv
  obtain ⟨x1, rfl, wx1⟩ := hc.str_inv
  have := tx1.nil_inv; subst this
  suffices h : Ends (evBody Tryd.prog call m Tryd.f33 [.agg [.lit (.string x0), .lit (.string x1)], .lit (.int .i64 n)]) Num by
    obtain ⟨d, h, r, rfl, h2⟩ := h; exact ⟨r, h, h2⟩
  rw [ev_body (c := _) rfl]
  rw [show entry Tryd.f33 [.agg [.lit (.string x0), .lit (.string x1)], .lit (.int .i64 n)] = { s := [.agg [.lit (.string x0), .lit (.string x1)], .lit (.int .i64 n), .undef, .undef, .undef, .undef, .undef, .undef, .undef, .undef, .undef, .undef, .undef, .undef, .undef, .undef, .undef, .undef, .undef, .undef], live := fun _ _ => none } from rfl]
  have q0 : IntKind.i64.wrap (n - ((x0.size) : Int)) = n - ((x0.size) : Int) := wrap_sub (by omega) (by omega) wx0
  simp -dsimp [Tryd.f33, q0]
  refine br_i (fun h => ?_) (fun h => ?_)
  · simp -dsimp [Tryd.f33, Num]
  have q1 : IntKind.i64.wrap ((n - ((x0.size) : Int)) - ((x1.size) : Int)) = (n - ((x0.size) : Int)) - ((x1.size) : Int) := wrap_sub (by omega) (by omega) wx1
  simp -dsimp [Tryd.f33, q1]
  refine br_i (fun h => ?_) (fun h => ?_)
  · simp -dsimp [Tryd.f33, Num]
  simp -dsimp [Tryd.f33, Num]
  try omega
end Go.Proofs.YtiagpplidnfabaaDoor.EV
