/- Contracts, by sz.py. -/
import Derived.Test.YtlgdhdelhpklbaaGreatSq
set_option maxHeartbeats 4000000
set_option maxRecDepth 20000
set_option linter.unusedSimpArgs false
set_option linter.unusedVariables false
namespace Go.Proofs.YtlgdhdelhpklbaaGreat.EV
open Go.RowKit
open Classical
theorem szf4 (call : FuncId → List AV → Option AV) (m : Nat)
    (hc9 : ∀ x n, OkL lay28 x → 0 ≤ n → n ≤ 1048576 → ∃ r, call 9 [.agg x, .lit (.int .i64 n)] = some (.lit (.int .i64 r)) ∧ -1 ≤ r ∧ r ≤ 1048576)
    (hc10 : ∀ x n, OkL lay31 x → 0 ≤ n → n ≤ 1048576 → ∃ r, call 10 [.agg x, .lit (.int .i64 n)] = some (.lit (.int .i64 r)) ∧ -1 ≤ r ∧ r ≤ 1048576)
    (hc11 : ∀ x n, OkR lay87 x → 0 ≤ n → n ≤ 1048576 → ∃ r, call 11 [.sl .sh x, .lit (.int .i64 n)] = some (.lit (.int .i64 r)) ∧ -1 ≤ r ∧ r ≤ 1048576)
    (hc12 : ∀ x n, OkR lay94 x → 0 ≤ n → n ≤ 1048576 → ∃ r, call 12 [.sl .sh x, .lit (.int .i64 n)] = some (.lit (.int .i64 r)) ∧ -1 ≤ r ∧ r ≤ 1048576)
    {x : List AV} {n : Int} (hx : OkL lay35 x) (h0 : 0 ≤ n) (h1 : n ≤ 1048576) : ∃ r, evBody Tryz.prog call m Tryz.f4 [.agg x, .lit (.int .i64 n)] = some (.lit (.int .i64 r)) ∧ -1 ≤ r ∧ r ≤ 1048576 := by
  obtain ⟨c, r, rfl, hc, tx0⟩ := hx.cons_inv
  obtain ⟨x0, rfl, wx0⟩ := hc.int_inv
  obtain ⟨c, r, rfl, hc, tx1⟩ := tx0.cons_inv
  obtain ⟨x1, rfl, wx1⟩ := hc.int_inv
  obtain ⟨c, r, rfl, hc, tx2⟩ := tx1.cons_inv
  obtain ⟨x2, rfl, wx2⟩ := hc.int_inv
  obtain ⟨c, r, rfl, hc, tx3⟩ := tx2.cons_inv
  obtain ⟨x3, rfl, wx3⟩ := hc.int_inv
  obtain ⟨c, r, rfl, hc, tx4⟩ := tx3.cons_inv
  obtain ⟨x4, rfl, wx4⟩ := hc.int_inv
  obtain ⟨c, r, rfl, hc, tx5⟩ := tx4.cons_inv
  obtain ⟨x5, rfl, wx5⟩ := hc.int_inv
  obtain ⟨c, r, rfl, hc, tx6⟩ := tx5.cons_inv
  obtain ⟨x6, rfl, wx6⟩ := hc.int_inv
  obtain ⟨c, r, rfl, hc, tx7⟩ := tx6.cons_inv
  obtain ⟨x7, rfl, wx7⟩ := hc.int_inv
  obtain ⟨c, r, rfl, hc, tx8⟩ := tx7.cons_inv
  obtain ⟨x8, rfl, wx8⟩ := hc.sl_inv
  obtain ⟨c, r, rfl, hc, tx9⟩ := tx8.cons_inv
  obtain ⟨x9, rfl, wx9⟩ := hc.int_inv
  obtain ⟨c, r, rfl, hc, tx10⟩ := tx9.cons_inv
  obtain ⟨x10, rfl, wx10⟩ := hc.int_inv
  obtain ⟨c, r, rfl, hc, tx11⟩ := tx10.cons_inv
  obtain ⟨x11, rfl, wx11⟩ := hc.int_inv
  obtain ⟨c, r, rfl, hc, tx12⟩ := tx11.cons_inv
  obtain ⟨x12, rfl, wx12⟩ := hc.int_inv
  obtain ⟨c, r, rfl, hc, tx13⟩ := tx12.cons_inv
  obtain ⟨x13, rfl, wx13⟩ := hc.int_inv
  obtain ⟨c, r, rfl, hc, tx14⟩ := tx13.cons_inv
  obtain ⟨x14, rfl, wx14⟩ := hc.int_inv
  obtain ⟨c, r, rfl, hc, tx15⟩ := tx14.cons_inv
  obtain ⟨x15, rfl, wx15⟩ := hc.int_inv
  obtain ⟨c, r, rfl, hc, tx16⟩ := tx15.cons_inv
  obtain ⟨x16, rfl, wx16⟩ := hc.int_inv
  obtain ⟨c, r, rfl, hc, tx17⟩ := tx16.cons_inv
  obtain ⟨x17, rfl, wx17⟩ := hc.int_inv
  obtain ⟨c, r, rfl, hc, tx18⟩ := tx17.cons_inv
  obtain ⟨x18, rfl, wx18⟩ := hc.int_inv
  obtain ⟨c, r, rfl, hc, tx19⟩ := tx18.cons_inv
  obtain ⟨x19, rfl, wx19⟩ := hc.int_inv
  obtain ⟨c, r, rfl, hc, tx20⟩ := tx19.cons_inv
  obtain ⟨x20, rfl, wx20⟩ := hc.int_inv
  obtain ⟨c, r, rfl, hc, tx21⟩ := tx20.cons_inv
  obtain ⟨x21, rfl, wx21⟩ := hc.sl_inv
  obtain ⟨c, r, rfl, hc, tx22⟩ := tx21.cons_inv
  obtain ⟨x22, rfl, wx22⟩ := hc.sl_inv
  obtain ⟨c, r, rfl, hc, tx23⟩ := tx22.cons_inv
  obtain ⟨x23, rfl, wx23⟩ := hc.sl_inv
  obtain ⟨c, r, rfl, hc, tx24⟩ := tx23.cons_inv
  obtain ⟨x24, rfl, wx24⟩ := hc.sl_inv
  have := tx24.nil_inv; subst this
  suffices h : Ends (evBody Tryz.prog call m Tryz.f4 [.agg [.lit (.int .i64 x0), .lit (.int .i64 x1), .lit (.int .i64 x2), .lit (.int .i64 x3), .lit (.int .i64 x4), .lit (.int .i64 x5), .lit (.int .i64 x6), .lit (.int .i64 x7), .sl .sh x8, .lit (.int .i64 x9), .lit (.int .i64 x10), .lit (.int .i64 x11), .lit (.int .i64 x12), .lit (.int .i64 x13), .lit (.int .i64 x14), .lit (.int .i64 x15), .lit (.int .i64 x16), .lit (.int .i64 x17), .lit (.int .i64 x18), .lit (.int .i64 x19), .lit (.int .i64 x20), .sl .sh x21, .sl .sh x22, .sl .sh x23, .sl .sh x24], .lit (.int .i64 n)]) Num by
    obtain ⟨d, h, r, rfl, h2⟩ := h; exact ⟨r, h, h2⟩
  rw [ev_body (c := _) rfl]
  rw [show entry Tryz.f4 [.agg [.lit (.int .i64 x0), .lit (.int .i64 x1), .lit (.int .i64 x2), .lit (.int .i64 x3), .lit (.int .i64 x4), .lit (.int .i64 x5), .lit (.int .i64 x6), .lit (.int .i64 x7), .sl .sh x8, .lit (.int .i64 x9), .lit (.int .i64 x10), .lit (.int .i64 x11), .lit (.int .i64 x12), .lit (.int .i64 x13), .lit (.int .i64 x14), .lit (.int .i64 x15), .lit (.int .i64 x16), .lit (.int .i64 x17), .lit (.int .i64 x18), .lit (.int .i64 x19), .lit (.int .i64 x20), .sl .sh x21, .sl .sh x22, .sl .sh x23, .sl .sh x24], .lit (.int .i64 n)] = { s := [.agg [.lit (.int .i64 x0), .lit (.int .i64 x1), .lit (.int .i64 x2), .lit (.int .i64 x3), .lit (.int .i64 x4), .lit (.int .i64 x5), .lit (.int .i64 x6), .lit (.int .i64 x7), .sl .sh x8, .lit (.int .i64 x9), .lit (.int .i64 x10), .lit (.int .i64 x11), .lit (.int .i64 x12), .lit (.int .i64 x13), .lit (.int .i64 x14), .lit (.int .i64 x15), .lit (.int .i64 x16), .lit (.int .i64 x17), .lit (.int .i64 x18), .lit (.int .i64 x19), .lit (.int .i64 x20), .sl .sh x21, .sl .sh x22, .sl .sh x23, .sl .sh x24], .lit (.int .i64 n), .undef, .undef, .undef, .undef, .undef, .undef, .undef, .undef, .undef, .undef, .undef, .undef, .undef, .undef, .undef, .undef, .undef, .undef, .undef, .undef, .undef, .undef, .undef, .undef, .undef, .undef, .undef, .undef], live := fun _ _ => none } from rfl]
  obtain ⟨r0, e0, l0, u0⟩ := hc9 [.lit (.int .i64 x0), .lit (.int .i64 x1), .lit (.int .i64 x2), .lit (.int .i64 x3), .lit (.int .i64 x4), .lit (.int .i64 x5), .lit (.int .i64 x6), .lit (.int .i64 x7), .sl .sh x8, .lit (.int .i64 x9), .lit (.int .i64 x10), .lit (.int .i64 x11), .lit (.int .i64 x12), .lit (.int .i64 x13), .lit (.int .i64 x14), .lit (.int .i64 x15), .lit (.int .i64 x16)] _ (by simp [wx0, wx1, wx2, wx3, wx4, wx5, wx6, wx7, wx8, wx9, wx10, wx11, wx12, wx13, wx14, wx15, wx16, wx17, wx18, wx19, wx20, wx21, wx22, wx23, wx24]) (by omega : 0 ≤ n) (by omega)
  simp -dsimp [Tryz.f4, e0]
  refine br_i (fun h => ?_) (fun h => ?_)
  · simp -dsimp [Tryz.f4, Num]
  obtain ⟨r1, e1, l1, u1⟩ := hc10 [.lit (.int .i64 x19), .lit (.int .i64 x20), .sl .sh x21, .sl .sh x22] _ (by simp [wx0, wx1, wx2, wx3, wx4, wx5, wx6, wx7, wx8, wx9, wx10, wx11, wx12, wx13, wx14, wx15, wx16, wx17, wx18, wx19, wx20, wx21, wx22, wx23, wx24]) (by omega : 0 ≤ r0) (by omega)
  simp -dsimp [Tryz.f4, e1]
  refine br_i (fun h => ?_) (fun h => ?_)
  · simp -dsimp [Tryz.f4, Num]
  obtain ⟨r2, e2, l2, u2⟩ := hc11 _ _ wx23 (by omega : 0 ≤ r1) (by omega)
  simp -dsimp [Tryz.f4, e2]
  refine br_i (fun h => ?_) (fun h => ?_)
  · simp -dsimp [Tryz.f4, Num]
  obtain ⟨r3, e3, l3, u3⟩ := hc12 _ _ wx24 (by omega : 0 ≤ r2) (by omega)
  simp -dsimp [Tryz.f4, e3]
  refine br_i (fun h => ?_) (fun h => ?_)
  · simp -dsimp [Tryz.f4, Num]
  simp -dsimp [Tryz.f4, Num]
  try omega
theorem szf9 (call : FuncId → List AV → Option AV) (m : Nat)
    (hc31 : ∀ x n, OkR lay9 x → 0 ≤ n → n ≤ 1048576 → ∃ r, call 31 [.sl .sh x, .lit (.int .i64 n)] = some (.lit (.int .i64 r)) ∧ -1 ≤ r ∧ r ≤ 1048576)
    {x : List AV} {n : Int} (hx : OkL lay28 x) (h0 : 0 ≤ n) (h1 : n ≤ 1048576) : ∃ r, evBody Tryz.prog call m Tryz.f9 [.agg x, .lit (.int .i64 n)] = some (.lit (.int .i64 r)) ∧ -1 ≤ r ∧ r ≤ 1048576 := by
  obtain ⟨c, r, rfl, hc, tx0⟩ := hx.cons_inv
  obtain ⟨x0, rfl, wx0⟩ := hc.int_inv
  obtain ⟨c, r, rfl, hc, tx1⟩ := tx0.cons_inv
  obtain ⟨x1, rfl, wx1⟩ := hc.int_inv
  obtain ⟨c, r, rfl, hc, tx2⟩ := tx1.cons_inv
  obtain ⟨x2, rfl, wx2⟩ := hc.int_inv
  obtain ⟨c, r, rfl, hc, tx3⟩ := tx2.cons_inv
  obtain ⟨x3, rfl, wx3⟩ := hc.int_inv
  obtain ⟨c, r, rfl, hc, tx4⟩ := tx3.cons_inv
  obtain ⟨x4, rfl, wx4⟩ := hc.int_inv
  obtain ⟨c, r, rfl, hc, tx5⟩ := tx4.cons_inv
  obtain ⟨x5, rfl, wx5⟩ := hc.int_inv
  obtain ⟨c, r, rfl, hc, tx6⟩ := tx5.cons_inv
  obtain ⟨x6, rfl, wx6⟩ := hc.int_inv
  obtain ⟨c, r, rfl, hc, tx7⟩ := tx6.cons_inv
  obtain ⟨x7, rfl, wx7⟩ := hc.int_inv
  obtain ⟨c, r, rfl, hc, tx8⟩ := tx7.cons_inv
  obtain ⟨x8, rfl, wx8⟩ := hc.sl_inv
  obtain ⟨c, r, rfl, hc, tx9⟩ := tx8.cons_inv
  obtain ⟨x9, rfl, wx9⟩ := hc.int_inv
  obtain ⟨c, r, rfl, hc, tx10⟩ := tx9.cons_inv
  obtain ⟨x10, rfl, wx10⟩ := hc.int_inv
  obtain ⟨c, r, rfl, hc, tx11⟩ := tx10.cons_inv
  obtain ⟨x11, rfl, wx11⟩ := hc.int_inv
  obtain ⟨c, r, rfl, hc, tx12⟩ := tx11.cons_inv
  obtain ⟨x12, rfl, wx12⟩ := hc.int_inv
  obtain ⟨c, r, rfl, hc, tx13⟩ := tx12.cons_inv
  obtain ⟨x13, rfl, wx13⟩ := hc.int_inv
  obtain ⟨c, r, rfl, hc, tx14⟩ := tx13.cons_inv
  obtain ⟨x14, rfl, wx14⟩ := hc.int_inv
  obtain ⟨c, r, rfl, hc, tx15⟩ := tx14.cons_inv
  obtain ⟨x15, rfl, wx15⟩ := hc.int_inv
  obtain ⟨c, r, rfl, hc, tx16⟩ := tx15.cons_inv
  obtain ⟨x16, rfl, wx16⟩ := hc.int_inv
  have := tx16.nil_inv; subst this
  suffices h : Ends (evBody Tryz.prog call m Tryz.f9 [.agg [.lit (.int .i64 x0), .lit (.int .i64 x1), .lit (.int .i64 x2), .lit (.int .i64 x3), .lit (.int .i64 x4), .lit (.int .i64 x5), .lit (.int .i64 x6), .lit (.int .i64 x7), .sl .sh x8, .lit (.int .i64 x9), .lit (.int .i64 x10), .lit (.int .i64 x11), .lit (.int .i64 x12), .lit (.int .i64 x13), .lit (.int .i64 x14), .lit (.int .i64 x15), .lit (.int .i64 x16)], .lit (.int .i64 n)]) Num by
    obtain ⟨d, h, r, rfl, h2⟩ := h; exact ⟨r, h, h2⟩
  rw [ev_body (c := _) rfl]
  rw [show entry Tryz.f9 [.agg [.lit (.int .i64 x0), .lit (.int .i64 x1), .lit (.int .i64 x2), .lit (.int .i64 x3), .lit (.int .i64 x4), .lit (.int .i64 x5), .lit (.int .i64 x6), .lit (.int .i64 x7), .sl .sh x8, .lit (.int .i64 x9), .lit (.int .i64 x10), .lit (.int .i64 x11), .lit (.int .i64 x12), .lit (.int .i64 x13), .lit (.int .i64 x14), .lit (.int .i64 x15), .lit (.int .i64 x16)], .lit (.int .i64 n)] = { s := [.agg [.lit (.int .i64 x0), .lit (.int .i64 x1), .lit (.int .i64 x2), .lit (.int .i64 x3), .lit (.int .i64 x4), .lit (.int .i64 x5), .lit (.int .i64 x6), .lit (.int .i64 x7), .sl .sh x8, .lit (.int .i64 x9), .lit (.int .i64 x10), .lit (.int .i64 x11), .lit (.int .i64 x12), .lit (.int .i64 x13), .lit (.int .i64 x14), .lit (.int .i64 x15), .lit (.int .i64 x16)], .lit (.int .i64 n), .undef, .undef, .undef, .undef, .undef, .undef, .undef, .undef, .undef, .undef], live := fun _ _ => none } from rfl]
  obtain ⟨r0, e0, l0, u0⟩ := hc31 _ _ wx8 (by omega : 0 ≤ n) (by omega)
  simp -dsimp [Tryz.f9, e0]
  refine br_i (fun h => ?_) (fun h => ?_)
  · simp -dsimp [Tryz.f9, Num]
  simp -dsimp [Tryz.f9, Num]
  try omega
theorem szf10 (call : FuncId → List AV → Option AV) (m : Nat)
    (hc32 : ∀ x n, OkR lay128 x → 0 ≤ n → n ≤ 1048576 → ∃ r, call 32 [.sl .sh x, .lit (.int .i64 n)] = some (.lit (.int .i64 r)) ∧ -1 ≤ r ∧ r ≤ 1048576)
    {x : List AV} {n : Int} (hx : OkL lay31 x) (h0 : 0 ≤ n) (h1 : n ≤ 1048576) : ∃ r, evBody Tryz.prog call m Tryz.f10 [.agg x, .lit (.int .i64 n)] = some (.lit (.int .i64 r)) ∧ -1 ≤ r ∧ r ≤ 1048576 := by
  obtain ⟨c, r, rfl, hc, tx0⟩ := hx.cons_inv
  obtain ⟨x0, rfl, wx0⟩ := hc.int_inv
  obtain ⟨c, r, rfl, hc, tx1⟩ := tx0.cons_inv
  obtain ⟨x1, rfl, wx1⟩ := hc.int_inv
  obtain ⟨c, r, rfl, hc, tx2⟩ := tx1.cons_inv
  obtain ⟨x2, rfl, wx2⟩ := hc.sl_inv
  obtain ⟨c, r, rfl, hc, tx3⟩ := tx2.cons_inv
  obtain ⟨x3, rfl, wx3⟩ := hc.sl_inv
  have := tx3.nil_inv; subst this
  suffices h : Ends (evBody Tryz.prog call m Tryz.f10 [.agg [.lit (.int .i64 x0), .lit (.int .i64 x1), .sl .sh x2, .sl .sh x3], .lit (.int .i64 n)]) Num by
    obtain ⟨d, h, r, rfl, h2⟩ := h; exact ⟨r, h, h2⟩
  rw [ev_body (c := _) rfl]
  rw [show entry Tryz.f10 [.agg [.lit (.int .i64 x0), .lit (.int .i64 x1), .sl .sh x2, .sl .sh x3], .lit (.int .i64 n)] = { s := [.agg [.lit (.int .i64 x0), .lit (.int .i64 x1), .sl .sh x2, .sl .sh x3], .lit (.int .i64 n), .undef, .undef, .undef, .undef, .undef, .undef, .undef, .undef, .undef, .undef, .undef, .undef, .undef, .undef, .undef, .undef], live := fun _ _ => none } from rfl]
  obtain ⟨r0, e0, l0, u0⟩ := hc32 _ _ wx2 (by omega : 0 ≤ n) (by omega)
  simp -dsimp [Tryz.f10, e0]
  refine br_i (fun h => ?_) (fun h => ?_)
  · simp -dsimp [Tryz.f10, Num]
  obtain ⟨r1, e1, l1, u1⟩ := hc32 _ _ wx3 (by omega : 0 ≤ r0) (by omega)
  simp -dsimp [Tryz.f10, e1]
  refine br_i (fun h => ?_) (fun h => ?_)
  · simp -dsimp [Tryz.f10, Num]
  simp -dsimp [Tryz.f10, Num]
  try omega
theorem szl11 (call : FuncId → List AV → Option AV) (m : Nat)
    (hc33 : ∀ x n, OkL lay87 x → 0 ≤ n → n ≤ 1048576 → ∃ r, call 33 [.agg x, .lit (.int .i64 n)] = some (.lit (.int .i64 r)) ∧ -1 ≤ r ∧ r ≤ 1048576)
    {c : Code} (hcd : c = loopIn Tryz.f11 0) {es : List (List AV)} (he : OkR lay87 es) {F : Ex × Env → Prop} (h1 : ∀ (r : Int) (lv : Nat → Nat → Option Nat) (u5 u2 u3 u4 u6 u7 u8 u9 u10 u11 u12 u13 u14 u15 u16 u17 u18 u19 u20 u21 u22 u23 u24 u25 u26 : AV), -1 ≤ r → r ≤ 1048576 → F (.exit 0, { s := [.sl .sh es, .lit (.int .i64 r), u2, u3, u4, u5, u6, u7, u8, u9, u10, u11, u12, u13, u14, u15, u16, u17, u18, u19, u20, u21, u22, u23, u24, u25, u26], live := lv })) (h2 : ∀ E', E'.s[4]? = some (.lit (.int .i64 (-1))) → F (.ret, E')) :
    ∀ (k N i : Nat) (n : Int) (lv : Nat → Nat → Option Nat) (u2 u3 u4 u6 u7 u8 u9 u10 u11 u12 u13 u14 u15 u16 u17 u18 u19 u20 u21 u22 u23 u24 u25 u26 : AV), k < N → k + i = es.length → 0 ≤ n → n ≤ 1048576 →
      Ends (evLoop (evCode Tryz.prog call m c) N { s := [.sl .sh es, .lit (.int .i64 n), u2, u3, u4, .lit (.int .i64 (i : Int)), u6, u7, u8, u9, u10, u11, u12, u13, u14, u15, u16, u17, u18, u19, u20, u21, u22, u23, u24, u25, u26], live := lv }) F := by
  intro k
  induction k with
  | zero =>
    intro N i n lv u2 u3 u4 u6 u7 u8 u9 u10 u11 u12 u13 u14 u15 u16 u17 u18 u19 u20 u21 u22 u23 u24 u25 u26 hN hk hn0 hn1
    obtain ⟨N, rfl⟩ : ∃ N', N = N' + 1 := ⟨N - 1, by omega⟩
    have hi : i = es.length := by omega
    subst hi
    rw [ev_turn hcd]
    simp -dsimp [Tryz.f11]
    exact h1 n _ _ _ _ _ _ _ _ _ _ _ _ _ _ _ _ _ _ _ _ _ _ _ _ _ _ (by omega) (by omega)
  | succ k ih =>
    intro N i n lv u2 u3 u4 u6 u7 u8 u9 u10 u11 u12 u13 u14 u15 u16 u17 u18 u19 u20 u21 u22 u23 u24 u25 u26 hN hk hn0 hn1
    obtain ⟨N, rfl⟩ : ∃ N', N = N' + 1 := ⟨N - 1, by omega⟩
    obtain ⟨x, hx, hxo, hxt⟩ := he.get (i := i) (by omega)
    have hlt : ((i : Int) < (es.length : Int)) := by omega
    have hbd : i < 9223372036854775807 := by have := he.1; omega
    obtain ⟨r, er, lr, ur⟩ := hc33 x n hxo hn0 hn1
    have hxl : x.length = 7 := hxo.1
    rw [ev_turn hcd]
    simp -dsimp [Tryz.f11, hlt, hx, wrap_small hbd, hxl, hxo.plain, er]
    refine br_i (fun h => ?_) (fun h => ?_)
    · simp -dsimp [Tryz.f11]; exact h2 _ (by simp)
    · simp -dsimp [Tryz.f11, wrap_small hbd]
      exact ih N (i + 1) r _ _ _ _ _ _ _ _ _ _ _ _ _ _ _ _ _ _ _ _ _ _ _ _ _ (by omega) (by omega) (by omega) (by omega)
theorem szf11 (call : FuncId → List AV → Option AV)
    (hc33 : ∀ x n, OkL lay87 x → 0 ≤ n → n ≤ 1048576 → ∃ r, call 33 [.agg x, .lit (.int .i64 n)] = some (.lit (.int .i64 r)) ∧ -1 ≤ r ∧ r ≤ 1048576)
    {es : List (List AV)} {n : Int} (he : OkR lay87 es) (h0 : 0 ≤ n) (h1 : n ≤ 1048576) : ∃ m, ∃ r, evBody Tryz.prog call m Tryz.f11 [.sl .sh es, .lit (.int .i64 n)] = some (.lit (.int .i64 r)) ∧ -1 ≤ r ∧ r ≤ 1048576 := by
  refine ⟨es.length + 1, ?_⟩
  suffices h : Ends (evBody Tryz.prog call (es.length + 1) Tryz.f11 [.sl .sh es, .lit (.int .i64 n)]) Num by
    obtain ⟨d, h, r, rfl, h2⟩ := h; exact ⟨r, h, h2⟩
  rw [ev_body (c := _) rfl]
  rw [show entry Tryz.f11 [.sl .sh es, .lit (.int .i64 n)] = { s := [.sl .sh es, .lit (.int .i64 n), .undef, .undef, .undef, .undef, .undef, .undef, .undef, .undef, .undef, .undef, .undef, .undef, .undef, .undef, .undef, .undef, .undef, .undef, .undef, .undef, .undef, .undef, .undef, .undef, .undef], live := fun _ _ => none } from rfl]
  have q : IntKind.i64.wrap (n - (es.length : Int)) = n - (es.length : Int) := wrap_sub (by omega) (by omega) he.1
  simp -dsimp [Tryz.f11, q]
  refine br_i (fun h => ?_) (fun h => ?_)
  · simp -dsimp [Tryz.f11, Num]
  simp -dsimp [Tryz.f11]
  refine szl11 call _ hc33 rfl he (fun r lv u5 u2 u3 u4 u6 u7 u8 u9 u10 u11 u12 u13 u14 u15 u16 u17 u18 u19 u20 u21 u22 u23 u24 u25 u26 h3 h4 => ?_) (fun E' hn => ?_) es.length _ 0 _ _ _ _ _ _ _ _ _ _ _ _ _ _ _ _ _ _ _ _ _ _ _ _ _ _ (by omega) (by omega) (by omega) (by omega)
  · simp -dsimp [Tryz.f11, Num]; omega
  · simp -dsimp [Tryz.f11, hn, Num]
theorem szl12 (call : FuncId → List AV → Option AV) (m : Nat)
    (hc34 : ∀ x n, OkL lay94 x → 0 ≤ n → n ≤ 1048576 → ∃ r, call 34 [.agg x, .lit (.int .i64 n)] = some (.lit (.int .i64 r)) ∧ -1 ≤ r ∧ r ≤ 1048576)
    {c : Code} (hcd : c = loopIn Tryz.f12 0) {es : List (List AV)} (he : OkR lay94 es) {F : Ex × Env → Prop} (h1 : ∀ (r : Int) (lv : Nat → Nat → Option Nat) (u5 u2 u3 u4 u6 u7 u8 u9 u10 u11 u12 u13 u14 u15 u16 u17 u18 u19 u20 u21 u22 u23 u24 u25 u26 : AV), -1 ≤ r → r ≤ 1048576 → F (.exit 0, { s := [.sl .sh es, .lit (.int .i64 r), u2, u3, u4, u5, u6, u7, u8, u9, u10, u11, u12, u13, u14, u15, u16, u17, u18, u19, u20, u21, u22, u23, u24, u25, u26], live := lv })) (h2 : ∀ E', E'.s[4]? = some (.lit (.int .i64 (-1))) → F (.ret, E')) :
    ∀ (k N i : Nat) (n : Int) (lv : Nat → Nat → Option Nat) (u2 u3 u4 u6 u7 u8 u9 u10 u11 u12 u13 u14 u15 u16 u17 u18 u19 u20 u21 u22 u23 u24 u25 u26 : AV), k < N → k + i = es.length → 0 ≤ n → n ≤ 1048576 →
      Ends (evLoop (evCode Tryz.prog call m c) N { s := [.sl .sh es, .lit (.int .i64 n), u2, u3, u4, .lit (.int .i64 (i : Int)), u6, u7, u8, u9, u10, u11, u12, u13, u14, u15, u16, u17, u18, u19, u20, u21, u22, u23, u24, u25, u26], live := lv }) F := by
  intro k
  induction k with
  | zero =>
    intro N i n lv u2 u3 u4 u6 u7 u8 u9 u10 u11 u12 u13 u14 u15 u16 u17 u18 u19 u20 u21 u22 u23 u24 u25 u26 hN hk hn0 hn1
    obtain ⟨N, rfl⟩ : ∃ N', N = N' + 1 := ⟨N - 1, by omega⟩
    have hi : i = es.length := by omega
    subst hi
    rw [ev_turn hcd]
    simp -dsimp [Tryz.f12]
    exact h1 n _ _ _ _ _ _ _ _ _ _ _ _ _ _ _ _ _ _ _ _ _ _ _ _ _ _ (by omega) (by omega)
  | succ k ih =>
    intro N i n lv u2 u3 u4 u6 u7 u8 u9 u10 u11 u12 u13 u14 u15 u16 u17 u18 u19 u20 u21 u22 u23 u24 u25 u26 hN hk hn0 hn1
    obtain ⟨N, rfl⟩ : ∃ N', N = N' + 1 := ⟨N - 1, by omega⟩
    obtain ⟨x, hx, hxo, hxt⟩ := he.get (i := i) (by omega)
    have hlt : ((i : Int) < (es.length : Int)) := by omega
    have hbd : i < 9223372036854775807 := by have := he.1; omega
    obtain ⟨r, er, lr, ur⟩ := hc34 x n hxo hn0 hn1
    have hxl : x.length = 11 := hxo.1
    rw [ev_turn hcd]
    simp -dsimp [Tryz.f12, hlt, hx, wrap_small hbd, hxl, hxo.plain, er]
    refine br_i (fun h => ?_) (fun h => ?_)
    · simp -dsimp [Tryz.f12]; exact h2 _ (by simp)
    · simp -dsimp [Tryz.f12, wrap_small hbd]
      exact ih N (i + 1) r _ _ _ _ _ _ _ _ _ _ _ _ _ _ _ _ _ _ _ _ _ _ _ _ _ (by omega) (by omega) (by omega) (by omega)
theorem szf12 (call : FuncId → List AV → Option AV)
    (hc34 : ∀ x n, OkL lay94 x → 0 ≤ n → n ≤ 1048576 → ∃ r, call 34 [.agg x, .lit (.int .i64 n)] = some (.lit (.int .i64 r)) ∧ -1 ≤ r ∧ r ≤ 1048576)
    {es : List (List AV)} {n : Int} (he : OkR lay94 es) (h0 : 0 ≤ n) (h1 : n ≤ 1048576) : ∃ m, ∃ r, evBody Tryz.prog call m Tryz.f12 [.sl .sh es, .lit (.int .i64 n)] = some (.lit (.int .i64 r)) ∧ -1 ≤ r ∧ r ≤ 1048576 := by
  refine ⟨es.length + 1, ?_⟩
  suffices h : Ends (evBody Tryz.prog call (es.length + 1) Tryz.f12 [.sl .sh es, .lit (.int .i64 n)]) Num by
    obtain ⟨d, h, r, rfl, h2⟩ := h; exact ⟨r, h, h2⟩
  rw [ev_body (c := _) rfl]
  rw [show entry Tryz.f12 [.sl .sh es, .lit (.int .i64 n)] = { s := [.sl .sh es, .lit (.int .i64 n), .undef, .undef, .undef, .undef, .undef, .undef, .undef, .undef, .undef, .undef, .undef, .undef, .undef, .undef, .undef, .undef, .undef, .undef, .undef, .undef, .undef, .undef, .undef, .undef, .undef], live := fun _ _ => none } from rfl]
  have q : IntKind.i64.wrap (n - (es.length : Int)) = n - (es.length : Int) := wrap_sub (by omega) (by omega) he.1
  simp -dsimp [Tryz.f12, q]
  refine br_i (fun h => ?_) (fun h => ?_)
  · simp -dsimp [Tryz.f12, Num]
  simp -dsimp [Tryz.f12]
  refine szl12 call _ hc34 rfl he (fun r lv u5 u2 u3 u4 u6 u7 u8 u9 u10 u11 u12 u13 u14 u15 u16 u17 u18 u19 u20 u21 u22 u23 u24 u25 u26 h3 h4 => ?_) (fun E' hn => ?_) es.length _ 0 _ _ _ _ _ _ _ _ _ _ _ _ _ _ _ _ _ _ _ _ _ _ _ _ _ _ (by omega) (by omega) (by omega) (by omega)
  · simp -dsimp [Tryz.f12, Num]; omega
  · simp -dsimp [Tryz.f12, hn, Num]
theorem szl31 (call : FuncId → List AV → Option AV) (m : Nat)
    {c : Code} (hcd : c = loopIn Tryz.f31 0) {es : List (List AV)} (he : OkR lay9 es) {F : Ex × Env → Prop} (h1 : ∀ (r : Int) (lv : Nat → Nat → Option Nat) (u5 u2 u3 u4 u6 u7 u8 u9 u10 u11 u12 u13 u14 u15 u16 u17 u18 u19 u20 u21 u22 u23 u24 u25 u26 u27 : AV), -1 ≤ r → r ≤ 1048576 → F (.exit 0, { s := [.sl .sh es, .lit (.int .i64 r), u2, u3, u4, u5, u6, u7, u8, u9, u10, u11, u12, u13, u14, u15, u16, u17, u18, u19, u20, u21, u22, u23, u24, u25, u26, u27], live := lv })) (h2 : ∀ E', E'.s[4]? = some (.lit (.int .i64 (-1))) → F (.ret, E')) :
    ∀ (k N i : Nat) (n : Int) (lv : Nat → Nat → Option Nat) (u2 u3 u4 u6 u7 u8 u9 u10 u11 u12 u13 u14 u15 u16 u17 u18 u19 u20 u21 u22 u23 u24 u25 u26 u27 : AV), k < N → k + i = es.length → 0 ≤ n → n ≤ 1048576 →
      Ends (evLoop (evCode Tryz.prog call m c) N { s := [.sl .sh es, .lit (.int .i64 n), u2, u3, u4, .lit (.int .i64 (i : Int)), u6, u7, u8, u9, u10, u11, u12, u13, u14, u15, u16, u17, u18, u19, u20, u21, u22, u23, u24, u25, u26, u27], live := lv }) F := by
  intro k
  induction k with
  | zero =>
    intro N i n lv u2 u3 u4 u6 u7 u8 u9 u10 u11 u12 u13 u14 u15 u16 u17 u18 u19 u20 u21 u22 u23 u24 u25 u26 u27 hN hk hn0 hn1
    obtain ⟨N, rfl⟩ : ∃ N', N = N' + 1 := ⟨N - 1, by omega⟩
    have hi : i = es.length := by omega
    subst hi
    rw [ev_turn hcd]
    simp -dsimp [Tryz.f31]
    exact h1 n _ _ _ _ _ _ _ _ _ _ _ _ _ _ _ _ _ _ _ _ _ _ _ _ _ _ _ (by omega) (by omega)
  | succ k ih =>
    intro N i n lv u2 u3 u4 u6 u7 u8 u9 u10 u11 u12 u13 u14 u15 u16 u17 u18 u19 u20 u21 u22 u23 u24 u25 u26 u27 hN hk hn0 hn1
    obtain ⟨N, rfl⟩ : ∃ N', N = N' + 1 := ⟨N - 1, by omega⟩
    obtain ⟨x, hx, hxo, hxt⟩ := he.get (i := i) (by omega)
    have hlt : ((i : Int) < (es.length : Int)) := by omega
    have hbd : i < 9223372036854775807 := by have := he.1; omega
    obtain ⟨c, r, rfl, hc, ty0⟩ := hxo.cons_inv
    obtain ⟨y0, rfl, wy0⟩ := hc.str_inv
    have := ty0.nil_inv; subst this
    have q : IntKind.i64.wrap (n - (y0.size : Int)) = n - (y0.size : Int) := wrap_sub (by omega) (by omega) wy0
    rw [ev_turn hcd]
    simp -dsimp [Tryz.f31, hlt, hx, wrap_small hbd, q]
    refine br_i (fun h => ?_) (fun h => ?_)
    · simp -dsimp [Tryz.f31]; exact h2 _ (by simp)
    · simp -dsimp [Tryz.f31, wrap_small hbd]
      exact ih N (i + 1) (n - (y0.size : Int)) _ _ _ _ _ _ _ _ _ _ _ _ _ _ _ _ _ _ _ _ _ _ _ _ _ _ (by omega) (by omega) (by omega) (by omega)
theorem szf31 (call : FuncId → List AV → Option AV)
    {es : List (List AV)} {n : Int} (he : OkR lay9 es) (h0 : 0 ≤ n) (h1 : n ≤ 1048576) : ∃ m, ∃ r, evBody Tryz.prog call m Tryz.f31 [.sl .sh es, .lit (.int .i64 n)] = some (.lit (.int .i64 r)) ∧ -1 ≤ r ∧ r ≤ 1048576 := by
  refine ⟨es.length + 1, ?_⟩
  suffices h : Ends (evBody Tryz.prog call (es.length + 1) Tryz.f31 [.sl .sh es, .lit (.int .i64 n)]) Num by
    obtain ⟨d, h, r, rfl, h2⟩ := h; exact ⟨r, h, h2⟩
  rw [ev_body (c := _) rfl]
  rw [show entry Tryz.f31 [.sl .sh es, .lit (.int .i64 n)] = { s := [.sl .sh es, .lit (.int .i64 n), .undef, .undef, .undef, .undef, .undef, .undef, .undef, .undef, .undef, .undef, .undef, .undef, .undef, .undef, .undef, .undef, .undef, .undef, .undef, .undef, .undef, .undef, .undef, .undef, .undef, .undef], live := fun _ _ => none } from rfl]
  have q : IntKind.i64.wrap (n - (es.length : Int)) = n - (es.length : Int) := wrap_sub (by omega) (by omega) he.1
  simp -dsimp [Tryz.f31, q]
  refine br_i (fun h => ?_) (fun h => ?_)
  · simp -dsimp [Tryz.f31, Num]
  simp -dsimp [Tryz.f31]
  refine szl31 call _  rfl he (fun r lv u5 u2 u3 u4 u6 u7 u8 u9 u10 u11 u12 u13 u14 u15 u16 u17 u18 u19 u20 u21 u22 u23 u24 u25 u26 u27 h3 h4 => ?_) (fun E' hn => ?_) es.length _ 0 _ _ _ _ _ _ _ _ _ _ _ _ _ _ _ _ _ _ _ _ _ _ _ _ _ _ _ (by omega) (by omega) (by omega) (by omega)
  · simp -dsimp [Tryz.f31, Num]; omega
  · simp -dsimp [Tryz.f31, hn, Num]
theorem szl32 (call : FuncId → List AV → Option AV) (m : Nat)
    (hc59 : ∀ x n, OkL lay128 x → 0 ≤ n → n ≤ 1048576 → ∃ r, call 59 [.agg x, .lit (.int .i64 n)] = some (.lit (.int .i64 r)) ∧ -1 ≤ r ∧ r ≤ 1048576)
    {c : Code} (hcd : c = loopIn Tryz.f32 0) {es : List (List AV)} (he : OkR lay128 es) {F : Ex × Env → Prop} (h1 : ∀ (r : Int) (lv : Nat → Nat → Option Nat) (u5 u2 u3 u4 u6 u7 u8 u9 u10 u11 u12 u13 u14 u15 u16 u17 u18 u19 u20 u21 u22 u23 u24 u25 u26 : AV), -1 ≤ r → r ≤ 1048576 → F (.exit 0, { s := [.sl .sh es, .lit (.int .i64 r), u2, u3, u4, u5, u6, u7, u8, u9, u10, u11, u12, u13, u14, u15, u16, u17, u18, u19, u20, u21, u22, u23, u24, u25, u26], live := lv })) (h2 : ∀ E', E'.s[4]? = some (.lit (.int .i64 (-1))) → F (.ret, E')) :
    ∀ (k N i : Nat) (n : Int) (lv : Nat → Nat → Option Nat) (u2 u3 u4 u6 u7 u8 u9 u10 u11 u12 u13 u14 u15 u16 u17 u18 u19 u20 u21 u22 u23 u24 u25 u26 : AV), k < N → k + i = es.length → 0 ≤ n → n ≤ 1048576 →
      Ends (evLoop (evCode Tryz.prog call m c) N { s := [.sl .sh es, .lit (.int .i64 n), u2, u3, u4, .lit (.int .i64 (i : Int)), u6, u7, u8, u9, u10, u11, u12, u13, u14, u15, u16, u17, u18, u19, u20, u21, u22, u23, u24, u25, u26], live := lv }) F := by
  intro k
  induction k with
  | zero =>
    intro N i n lv u2 u3 u4 u6 u7 u8 u9 u10 u11 u12 u13 u14 u15 u16 u17 u18 u19 u20 u21 u22 u23 u24 u25 u26 hN hk hn0 hn1
    obtain ⟨N, rfl⟩ : ∃ N', N = N' + 1 := ⟨N - 1, by omega⟩
    have hi : i = es.length := by omega
    subst hi
    rw [ev_turn hcd]
    simp -dsimp [Tryz.f32]
    exact h1 n _ _ _ _ _ _ _ _ _ _ _ _ _ _ _ _ _ _ _ _ _ _ _ _ _ _ (by omega) (by omega)
  | succ k ih =>
    intro N i n lv u2 u3 u4 u6 u7 u8 u9 u10 u11 u12 u13 u14 u15 u16 u17 u18 u19 u20 u21 u22 u23 u24 u25 u26 hN hk hn0 hn1
    obtain ⟨N, rfl⟩ : ∃ N', N = N' + 1 := ⟨N - 1, by omega⟩
    obtain ⟨x, hx, hxo, hxt⟩ := he.get (i := i) (by omega)
    have hlt : ((i : Int) < (es.length : Int)) := by omega
    have hbd : i < 9223372036854775807 := by have := he.1; omega
    obtain ⟨r, er, lr, ur⟩ := hc59 x n hxo hn0 hn1
    have hxl : x.length = 13 := hxo.1
    rw [ev_turn hcd]
    simp -dsimp [Tryz.f32, hlt, hx, wrap_small hbd, hxl, hxo.plain, er]
    refine br_i (fun h => ?_) (fun h => ?_)
    · simp -dsimp [Tryz.f32]; exact h2 _ (by simp)
    · simp -dsimp [Tryz.f32, wrap_small hbd]
      exact ih N (i + 1) r _ _ _ _ _ _ _ _ _ _ _ _ _ _ _ _ _ _ _ _ _ _ _ _ _ (by omega) (by omega) (by omega) (by omega)
theorem szf32 (call : FuncId → List AV → Option AV)
    (hc59 : ∀ x n, OkL lay128 x → 0 ≤ n → n ≤ 1048576 → ∃ r, call 59 [.agg x, .lit (.int .i64 n)] = some (.lit (.int .i64 r)) ∧ -1 ≤ r ∧ r ≤ 1048576)
    {es : List (List AV)} {n : Int} (he : OkR lay128 es) (h0 : 0 ≤ n) (h1 : n ≤ 1048576) : ∃ m, ∃ r, evBody Tryz.prog call m Tryz.f32 [.sl .sh es, .lit (.int .i64 n)] = some (.lit (.int .i64 r)) ∧ -1 ≤ r ∧ r ≤ 1048576 := by
  refine ⟨es.length + 1, ?_⟩
  suffices h : Ends (evBody Tryz.prog call (es.length + 1) Tryz.f32 [.sl .sh es, .lit (.int .i64 n)]) Num by
    obtain ⟨d, h, r, rfl, h2⟩ := h; exact ⟨r, h, h2⟩
  rw [ev_body (c := _) rfl]
  rw [show entry Tryz.f32 [.sl .sh es, .lit (.int .i64 n)] = { s := [.sl .sh es, .lit (.int .i64 n), .undef, .undef, .undef, .undef, .undef, .undef, .undef, .undef, .undef, .undef, .undef, .undef, .undef, .undef, .undef, .undef, .undef, .undef, .undef, .undef, .undef, .undef, .undef, .undef, .undef], live := fun _ _ => none } from rfl]
  have q : IntKind.i64.wrap (n - (es.length : Int)) = n - (es.length : Int) := wrap_sub (by omega) (by omega) he.1
  simp -dsimp [Tryz.f32, q]
  refine br_i (fun h => ?_) (fun h => ?_)
  · simp -dsimp [Tryz.f32, Num]
  simp -dsimp [Tryz.f32]
  refine szl32 call _ hc59 rfl he (fun r lv u5 u2 u3 u4 u6 u7 u8 u9 u10 u11 u12 u13 u14 u15 u16 u17 u18 u19 u20 u21 u22 u23 u24 u25 u26 h3 h4 => ?_) (fun E' hn => ?_) es.length _ 0 _ _ _ _ _ _ _ _ _ _ _ _ _ _ _ _ _ _ _ _ _ _ _ _ _ _ (by omega) (by omega) (by omega) (by omega)
  · simp -dsimp [Tryz.f32, Num]; omega
  · simp -dsimp [Tryz.f32, hn, Num]
theorem szf33 (call : FuncId → List AV → Option AV) (m : Nat)
    (hc60 : ∀ x n, OkL lay82 x → 0 ≤ n → n ≤ 1048576 → ∃ r, call 60 [.agg x, .lit (.int .i64 n)] = some (.lit (.int .i64 r)) ∧ -1 ≤ r ∧ r ≤ 1048576)
    (hc61 : ∀ x n, OkL lay85 x → 0 ≤ n → n ≤ 1048576 → ∃ r, call 61 [.agg x, .lit (.int .i64 n)] = some (.lit (.int .i64 r)) ∧ -1 ≤ r ∧ r ≤ 1048576)
    {x : List AV} {n : Int} (hx : OkL lay87 x) (h0 : 0 ≤ n) (h1 : n ≤ 1048576) : ∃ r, evBody Tryz.prog call m Tryz.f33 [.agg x, .lit (.int .i64 n)] = some (.lit (.int .i64 r)) ∧ -1 ≤ r ∧ r ≤ 1048576 := by
  obtain ⟨c, r, rfl, hc, tx0⟩ := hx.cons_inv
  obtain ⟨x0, rfl, wx0⟩ := hc.str_inv
  obtain ⟨c, r, rfl, hc, tx1⟩ := tx0.cons_inv
  obtain ⟨x1, rfl, wx1⟩ := hc.int_inv
  obtain ⟨c, r, rfl, hc, tx2⟩ := tx1.cons_inv
  obtain ⟨x2, rfl, wx2⟩ := hc.sl_inv
  obtain ⟨c, r, rfl, hc, tx3⟩ := tx2.cons_inv
  obtain ⟨x3, rfl, wx3⟩ := hc.int_inv
  obtain ⟨c, r, rfl, hc, tx4⟩ := tx3.cons_inv
  obtain ⟨x4, rfl, wx4⟩ := hc.int_inv
  obtain ⟨c, r, rfl, hc, tx5⟩ := tx4.cons_inv
  obtain ⟨x5, rfl, wx5⟩ := hc.int_inv
  obtain ⟨c, r, rfl, hc, tx6⟩ := tx5.cons_inv
  obtain ⟨x6, rfl, wx6⟩ := hc.sl_inv
  have := tx6.nil_inv; subst this
  suffices h : Ends (evBody Tryz.prog call m Tryz.f33 [.agg [.lit (.string x0), .lit (.int .i64 x1), .sl .sh x2, .lit (.int .i64 x3), .lit (.int .i64 x4), .lit (.int .i64 x5), .sl .sh x6], .lit (.int .i64 n)]) Num by
    obtain ⟨d, h, r, rfl, h2⟩ := h; exact ⟨r, h, h2⟩
  rw [ev_body (c := _) rfl]
  rw [show entry Tryz.f33 [.agg [.lit (.string x0), .lit (.int .i64 x1), .sl .sh x2, .lit (.int .i64 x3), .lit (.int .i64 x4), .lit (.int .i64 x5), .sl .sh x6], .lit (.int .i64 n)] = { s := [.agg [.lit (.string x0), .lit (.int .i64 x1), .sl .sh x2, .lit (.int .i64 x3), .lit (.int .i64 x4), .lit (.int .i64 x5), .sl .sh x6], .lit (.int .i64 n), .undef, .undef, .undef, .undef, .undef, .undef, .undef, .undef, .undef, .undef, .undef, .undef, .undef, .undef, .undef, .undef, .undef, .undef, .undef, .undef, .undef, .undef, .undef], live := fun _ _ => none } from rfl]
  have q0 : IntKind.i64.wrap (n - ((x0.size) : Int)) = n - ((x0.size) : Int) := wrap_sub (by omega) (by omega) wx0
  simp -dsimp [Tryz.f33, q0]
  refine br_i (fun h => ?_) (fun h => ?_)
  · simp -dsimp [Tryz.f33, Num]
  obtain ⟨r1, e1, l1, u1⟩ := hc60 [.lit (.int .i64 x1), .sl .sh x2] _ (by simp [wx0, wx1, wx2, wx3, wx4, wx5, wx6]) (by omega : 0 ≤ (n - ((x0.size) : Int))) (by omega)
  simp -dsimp [Tryz.f33, e1]
  refine br_i (fun h => ?_) (fun h => ?_)
  · simp -dsimp [Tryz.f33, Num]
  obtain ⟨r2, e2, l2, u2⟩ := hc61 [.lit (.int .i64 x3), .lit (.int .i64 x4), .lit (.int .i64 x5), .sl .sh x6] _ (by simp [wx0, wx1, wx2, wx3, wx4, wx5, wx6]) (by omega : 0 ≤ r1) (by omega)
  simp -dsimp [Tryz.f33, e2]
  refine br_i (fun h => ?_) (fun h => ?_)
  · simp -dsimp [Tryz.f33, Num]
  simp -dsimp [Tryz.f33, Num]
  try omega
theorem szf34 (call : FuncId → List AV → Option AV) (m : Nat)
    (hc62 : ∀ x n, OkL lay91 x → 0 ≤ n → n ≤ 1048576 → ∃ r, call 62 [.agg x, .lit (.int .i64 n)] = some (.lit (.int .i64 r)) ∧ -1 ≤ r ∧ r ≤ 1048576)
    (hc63 : ∀ x n, OkR lay159 x → 0 ≤ n → n ≤ 1048576 → ∃ r, call 63 [.sl .sh x, .lit (.int .i64 n)] = some (.lit (.int .i64 r)) ∧ -1 ≤ r ∧ r ≤ 1048576)
    {x : List AV} {n : Int} (hx : OkL lay94 x) (h0 : 0 ≤ n) (h1 : n ≤ 1048576) : ∃ r, evBody Tryz.prog call m Tryz.f34 [.agg x, .lit (.int .i64 n)] = some (.lit (.int .i64 r)) ∧ -1 ≤ r ∧ r ≤ 1048576 := by
  obtain ⟨c, r, rfl, hc, tx0⟩ := hx.cons_inv
  obtain ⟨x0, rfl, wx0⟩ := hc.int_inv
  obtain ⟨c, r, rfl, hc, tx1⟩ := tx0.cons_inv
  obtain ⟨x1, rfl, wx1⟩ := hc.str_inv
  obtain ⟨c, r, rfl, hc, tx2⟩ := tx1.cons_inv
  obtain ⟨x2, rfl⟩ := hc.bool_inv
  obtain ⟨c, r, rfl, hc, tx3⟩ := tx2.cons_inv
  obtain ⟨x3, rfl⟩ := hc.bool_inv
  obtain ⟨c, r, rfl, hc, tx4⟩ := tx3.cons_inv
  obtain ⟨x4, rfl, wx4⟩ := hc.int_inv
  obtain ⟨c, r, rfl, hc, tx5⟩ := tx4.cons_inv
  obtain ⟨x5, rfl⟩ := hc.bool_inv
  obtain ⟨c, r, rfl, hc, tx6⟩ := tx5.cons_inv
  obtain ⟨x6, rfl, wx6⟩ := hc.str_inv
  obtain ⟨c, r, rfl, hc, tx7⟩ := tx6.cons_inv
  obtain ⟨x7, rfl, wx7⟩ := hc.str_inv
  obtain ⟨c, r, rfl, hc, tx8⟩ := tx7.cons_inv
  obtain ⟨x8, rfl, wx8⟩ := hc.str_inv
  obtain ⟨c, r, rfl, hc, tx9⟩ := tx8.cons_inv
  obtain ⟨x9, rfl, wx9⟩ := hc.sl_inv
  obtain ⟨c, r, rfl, hc, tx10⟩ := tx9.cons_inv
  obtain ⟨x10, rfl, wx10⟩ := hc.sl_inv
  have := tx10.nil_inv; subst this
  suffices h : Ends (evBody Tryz.prog call m Tryz.f34 [.agg [.lit (.int .i64 x0), .lit (.string x1), .lit (.bool x2), .lit (.bool x3), .lit (.int .i64 x4), .lit (.bool x5), .lit (.string x6), .lit (.string x7), .lit (.string x8), .sl .sh x9, .sl .sh x10], .lit (.int .i64 n)]) Num by
    obtain ⟨d, h, r, rfl, h2⟩ := h; exact ⟨r, h, h2⟩
  rw [ev_body (c := _) rfl]
  rw [show entry Tryz.f34 [.agg [.lit (.int .i64 x0), .lit (.string x1), .lit (.bool x2), .lit (.bool x3), .lit (.int .i64 x4), .lit (.bool x5), .lit (.string x6), .lit (.string x7), .lit (.string x8), .sl .sh x9, .sl .sh x10], .lit (.int .i64 n)] = { s := [.agg [.lit (.int .i64 x0), .lit (.string x1), .lit (.bool x2), .lit (.bool x3), .lit (.int .i64 x4), .lit (.bool x5), .lit (.string x6), .lit (.string x7), .lit (.string x8), .sl .sh x9, .sl .sh x10], .lit (.int .i64 n), .undef, .undef, .undef, .undef, .undef, .undef, .undef, .undef, .undef, .undef, .undef, .undef, .undef, .undef, .undef, .undef, .undef, .undef, .undef, .undef, .undef, .undef, .undef], live := fun _ _ => none } from rfl]
  have q0 : IntKind.i64.wrap (n - ((x1.size) : Int)) = n - ((x1.size) : Int) := wrap_sub (by omega) (by omega) wx1
  simp -dsimp [Tryz.f34, q0]
  refine br_i (fun h => ?_) (fun h => ?_)
  · simp -dsimp [Tryz.f34, Num]
  obtain ⟨r1, e1, l1, u1⟩ := hc62 [.lit (.string x6), .lit (.string x7), .lit (.string x8), .sl .sh x9] _ (by simp [wx0, wx1, wx4, wx6, wx7, wx8, wx9, wx10]) (by omega : 0 ≤ (n - ((x1.size) : Int))) (by omega)
  simp -dsimp [Tryz.f34, e1]
  refine br_i (fun h => ?_) (fun h => ?_)
  · simp -dsimp [Tryz.f34, Num]
  obtain ⟨r2, e2, l2, u2⟩ := hc63 _ _ wx10 (by omega : 0 ≤ r1) (by omega)
  simp -dsimp [Tryz.f34, e2]
  refine br_i (fun h => ?_) (fun h => ?_)
  · simp -dsimp [Tryz.f34, Num]
  simp -dsimp [Tryz.f34, Num]
  try omega
theorem szf59 (call : FuncId → List AV → Option AV) (m : Nat)
    (hc82 : ∀ x n, OkR lay163 x → 0 ≤ n → n ≤ 1048576 → ∃ r, call 82 [.sl .sh x, .lit (.int .i64 n)] = some (.lit (.int .i64 r)) ∧ -1 ≤ r ∧ r ≤ 1048576)
    (hc83 : ∀ x n, OkR lay5 x → 0 ≤ n → n ≤ 1048576 → ∃ r, call 83 [.sl .sh x, .lit (.int .i64 n)] = some (.lit (.int .i64 r)) ∧ -1 ≤ r ∧ r ≤ 1048576)
    (hc31 : ∀ x n, OkR lay9 x → 0 ≤ n → n ≤ 1048576 → ∃ r, call 31 [.sl .sh x, .lit (.int .i64 n)] = some (.lit (.int .i64 r)) ∧ -1 ≤ r ∧ r ≤ 1048576)
    {x : List AV} {n : Int} (hx : OkL lay128 x) (h0 : 0 ≤ n) (h1 : n ≤ 1048576) : ∃ r, evBody Tryz.prog call m Tryz.f59 [.agg x, .lit (.int .i64 n)] = some (.lit (.int .i64 r)) ∧ -1 ≤ r ∧ r ≤ 1048576 := by
  obtain ⟨c, r, rfl, hc, tx0⟩ := hx.cons_inv
  obtain ⟨x0, rfl, wx0⟩ := hc.str_inv
  obtain ⟨c, r, rfl, hc, tx1⟩ := tx0.cons_inv
  obtain ⟨x1, rfl, wx1⟩ := hc.int_inv
  obtain ⟨c, r, rfl, hc, tx2⟩ := tx1.cons_inv
  obtain ⟨x2, rfl, wx2⟩ := hc.sl_inv
  obtain ⟨c, r, rfl, hc, tx3⟩ := tx2.cons_inv
  obtain ⟨x3, rfl, wx3⟩ := hc.sl_inv
  obtain ⟨c, r, rfl, hc, tx4⟩ := tx3.cons_inv
  obtain ⟨x4, rfl, wx4⟩ := hc.int_inv
  obtain ⟨c, r, rfl, hc, tx5⟩ := tx4.cons_inv
  obtain ⟨x5, rfl, wx5⟩ := hc.int_inv
  obtain ⟨c, r, rfl, hc, tx6⟩ := tx5.cons_inv
  obtain ⟨x6, rfl, wx6⟩ := hc.int_inv
  obtain ⟨c, r, rfl, hc, tx7⟩ := tx6.cons_inv
  obtain ⟨x7, rfl, wx7⟩ := hc.int_inv
  obtain ⟨c, r, rfl, hc, tx8⟩ := tx7.cons_inv
  obtain ⟨x8, rfl, wx8⟩ := hc.int_inv
  obtain ⟨c, r, rfl, hc, tx9⟩ := tx8.cons_inv
  obtain ⟨x9, rfl⟩ := hc.bool_inv
  obtain ⟨c, r, rfl, hc, tx10⟩ := tx9.cons_inv
  obtain ⟨x10, rfl⟩ := hc.bool_inv
  obtain ⟨c, r, rfl, hc, tx11⟩ := tx10.cons_inv
  obtain ⟨x11, rfl, wx11⟩ := hc.sl_inv
  obtain ⟨c, r, rfl, hc, tx12⟩ := tx11.cons_inv
  obtain ⟨x12, rfl, wx12⟩ := hc.int_inv
  have := tx12.nil_inv; subst this
  suffices h : Ends (evBody Tryz.prog call m Tryz.f59 [.agg [.lit (.string x0), .lit (.int .i64 x1), .sl .sh x2, .sl .sh x3, .lit (.int .i64 x4), .lit (.int .i64 x5), .lit (.int .i64 x6), .lit (.int .i64 x7), .lit (.int .i64 x8), .lit (.bool x9), .lit (.bool x10), .sl .sh x11, .lit (.int .i64 x12)], .lit (.int .i64 n)]) Num by
    obtain ⟨d, h, r, rfl, h2⟩ := h; exact ⟨r, h, h2⟩
  rw [ev_body (c := _) rfl]
  rw [show entry Tryz.f59 [.agg [.lit (.string x0), .lit (.int .i64 x1), .sl .sh x2, .sl .sh x3, .lit (.int .i64 x4), .lit (.int .i64 x5), .lit (.int .i64 x6), .lit (.int .i64 x7), .lit (.int .i64 x8), .lit (.bool x9), .lit (.bool x10), .sl .sh x11, .lit (.int .i64 x12)], .lit (.int .i64 n)] = { s := [.agg [.lit (.string x0), .lit (.int .i64 x1), .sl .sh x2, .sl .sh x3, .lit (.int .i64 x4), .lit (.int .i64 x5), .lit (.int .i64 x6), .lit (.int .i64 x7), .lit (.int .i64 x8), .lit (.bool x9), .lit (.bool x10), .sl .sh x11, .lit (.int .i64 x12)], .lit (.int .i64 n), .undef, .undef, .undef, .undef, .undef, .undef, .undef, .undef, .undef, .undef, .undef, .undef, .undef, .undef, .undef, .undef, .undef, .undef, .undef, .undef, .undef, .undef, .undef, .undef, .undef, .undef, .undef, .undef, .undef], live := fun _ _ => none } from rfl]
  have q0 : IntKind.i64.wrap (n - ((x0.size) : Int)) = n - ((x0.size) : Int) := wrap_sub (by omega) (by omega) wx0
  simp -dsimp [Tryz.f59, q0]
  refine br_i (fun h => ?_) (fun h => ?_)
  · simp -dsimp [Tryz.f59, Num]
  obtain ⟨r1, e1, l1, u1⟩ := hc82 _ _ wx2 (by omega : 0 ≤ (n - ((x0.size) : Int))) (by omega)
  simp -dsimp [Tryz.f59, e1]
  refine br_i (fun h => ?_) (fun h => ?_)
  · simp -dsimp [Tryz.f59, Num]
  obtain ⟨r2, e2, l2, u2⟩ := hc83 _ _ wx3 (by omega : 0 ≤ r1) (by omega)
  simp -dsimp [Tryz.f59, e2]
  refine br_i (fun h => ?_) (fun h => ?_)
  · simp -dsimp [Tryz.f59, Num]
  obtain ⟨r3, e3, l3, u3⟩ := hc31 _ _ wx11 (by omega : 0 ≤ r2) (by omega)
  simp -dsimp [Tryz.f59, e3]
  refine br_i (fun h => ?_) (fun h => ?_)
  · simp -dsimp [Tryz.f59, Num]
  simp -dsimp [Tryz.f59, Num]
  try omega
theorem szf60 (call : FuncId → List AV → Option AV) (m : Nat)
    (hc84 : ∀ x n, OkR lay166 x → 0 ≤ n → n ≤ 1048576 → ∃ r, call 84 [.sl .sh x, .lit (.int .i64 n)] = some (.lit (.int .i64 r)) ∧ -1 ≤ r ∧ r ≤ 1048576)
    {x : List AV} {n : Int} (hx : OkL lay82 x) (h0 : 0 ≤ n) (h1 : n ≤ 1048576) : ∃ r, evBody Tryz.prog call m Tryz.f60 [.agg x, .lit (.int .i64 n)] = some (.lit (.int .i64 r)) ∧ -1 ≤ r ∧ r ≤ 1048576 := by
  obtain ⟨c, r, rfl, hc, tx0⟩ := hx.cons_inv
  obtain ⟨x0, rfl, wx0⟩ := hc.int_inv
  obtain ⟨c, r, rfl, hc, tx1⟩ := tx0.cons_inv
  obtain ⟨x1, rfl, wx1⟩ := hc.sl_inv
  have := tx1.nil_inv; subst this
  suffices h : Ends (evBody Tryz.prog call m Tryz.f60 [.agg [.lit (.int .i64 x0), .sl .sh x1], .lit (.int .i64 n)]) Num by
    obtain ⟨d, h, r, rfl, h2⟩ := h; exact ⟨r, h, h2⟩
  rw [ev_body (c := _) rfl]
  rw [show entry Tryz.f60 [.agg [.lit (.int .i64 x0), .sl .sh x1], .lit (.int .i64 n)] = { s := [.agg [.lit (.int .i64 x0), .sl .sh x1], .lit (.int .i64 n), .undef, .undef, .undef, .undef, .undef, .undef, .undef, .undef, .undef, .undef], live := fun _ _ => none } from rfl]
  obtain ⟨r0, e0, l0, u0⟩ := hc84 _ _ wx1 (by omega : 0 ≤ n) (by omega)
  simp -dsimp [Tryz.f60, e0]
  refine br_i (fun h => ?_) (fun h => ?_)
  · simp -dsimp [Tryz.f60, Num]
  simp -dsimp [Tryz.f60, Num]
  try omega
theorem szf61 (call : FuncId → List AV → Option AV) (m : Nat)
    (hc85 : ∀ x n, OkR lay168 x → 0 ≤ n → n ≤ 1048576 → ∃ r, call 85 [.sl .sh x, .lit (.int .i64 n)] = some (.lit (.int .i64 r)) ∧ -1 ≤ r ∧ r ≤ 1048576)
    {x : List AV} {n : Int} (hx : OkL lay85 x) (h0 : 0 ≤ n) (h1 : n ≤ 1048576) : ∃ r, evBody Tryz.prog call m Tryz.f61 [.agg x, .lit (.int .i64 n)] = some (.lit (.int .i64 r)) ∧ -1 ≤ r ∧ r ≤ 1048576 := by
  obtain ⟨c, r, rfl, hc, tx0⟩ := hx.cons_inv
  obtain ⟨x0, rfl, wx0⟩ := hc.int_inv
  obtain ⟨c, r, rfl, hc, tx1⟩ := tx0.cons_inv
  obtain ⟨x1, rfl, wx1⟩ := hc.int_inv
  obtain ⟨c, r, rfl, hc, tx2⟩ := tx1.cons_inv
  obtain ⟨x2, rfl, wx2⟩ := hc.int_inv
  obtain ⟨c, r, rfl, hc, tx3⟩ := tx2.cons_inv
  obtain ⟨x3, rfl, wx3⟩ := hc.sl_inv
  have := tx3.nil_inv; subst this
  suffices h : Ends (evBody Tryz.prog call m Tryz.f61 [.agg [.lit (.int .i64 x0), .lit (.int .i64 x1), .lit (.int .i64 x2), .sl .sh x3], .lit (.int .i64 n)]) Num by
    obtain ⟨d, h, r, rfl, h2⟩ := h; exact ⟨r, h, h2⟩
  rw [ev_body (c := _) rfl]
  rw [show entry Tryz.f61 [.agg [.lit (.int .i64 x0), .lit (.int .i64 x1), .lit (.int .i64 x2), .sl .sh x3], .lit (.int .i64 n)] = { s := [.agg [.lit (.int .i64 x0), .lit (.int .i64 x1), .lit (.int .i64 x2), .sl .sh x3], .lit (.int .i64 n), .undef, .undef, .undef, .undef, .undef, .undef, .undef, .undef, .undef, .undef], live := fun _ _ => none } from rfl]
  obtain ⟨r0, e0, l0, u0⟩ := hc85 _ _ wx3 (by omega : 0 ≤ n) (by omega)
  simp -dsimp [Tryz.f61, e0]
  refine br_i (fun h => ?_) (fun h => ?_)
  · simp -dsimp [Tryz.f61, Num]
  simp -dsimp [Tryz.f61, Num]
  try omega
theorem szf62 (call : FuncId → List AV → Option AV) (m : Nat)
    (hc82 : ∀ x n, OkR lay163 x → 0 ≤ n → n ≤ 1048576 → ∃ r, call 82 [.sl .sh x, .lit (.int .i64 n)] = some (.lit (.int .i64 r)) ∧ -1 ≤ r ∧ r ≤ 1048576)
    {x : List AV} {n : Int} (hx : OkL lay91 x) (h0 : 0 ≤ n) (h1 : n ≤ 1048576) : ∃ r, evBody Tryz.prog call m Tryz.f62 [.agg x, .lit (.int .i64 n)] = some (.lit (.int .i64 r)) ∧ -1 ≤ r ∧ r ≤ 1048576 := by
  obtain ⟨c, r, rfl, hc, tx0⟩ := hx.cons_inv
  obtain ⟨x0, rfl, wx0⟩ := hc.str_inv
  obtain ⟨c, r, rfl, hc, tx1⟩ := tx0.cons_inv
  obtain ⟨x1, rfl, wx1⟩ := hc.str_inv
  obtain ⟨c, r, rfl, hc, tx2⟩ := tx1.cons_inv
  obtain ⟨x2, rfl, wx2⟩ := hc.str_inv
  obtain ⟨c, r, rfl, hc, tx3⟩ := tx2.cons_inv
  obtain ⟨x3, rfl, wx3⟩ := hc.sl_inv
  have := tx3.nil_inv; subst this
  suffices h : Ends (evBody Tryz.prog call m Tryz.f62 [.agg [.lit (.string x0), .lit (.string x1), .lit (.string x2), .sl .sh x3], .lit (.int .i64 n)]) Num by
    obtain ⟨d, h, r, rfl, h2⟩ := h; exact ⟨r, h, h2⟩
  rw [ev_body (c := _) rfl]
  rw [show entry Tryz.f62 [.agg [.lit (.string x0), .lit (.string x1), .lit (.string x2), .sl .sh x3], .lit (.int .i64 n)] = { s := [.agg [.lit (.string x0), .lit (.string x1), .lit (.string x2), .sl .sh x3], .lit (.int .i64 n), .undef, .undef, .undef, .undef, .undef, .undef, .undef, .undef, .undef, .undef, .undef, .undef, .undef, .undef, .undef, .undef, .undef, .undef, .undef, .undef, .undef, .undef, .undef, .undef, .undef, .undef, .undef, .undef, .undef, .undef, .undef], live := fun _ _ => none } from rfl]
  have q0 : IntKind.i64.wrap (n - ((x0.size) : Int)) = n - ((x0.size) : Int) := wrap_sub (by omega) (by omega) wx0
  simp -dsimp [Tryz.f62, q0]
  refine br_i (fun h => ?_) (fun h => ?_)
  · simp -dsimp [Tryz.f62, Num]
  have q1 : IntKind.i64.wrap ((n - ((x0.size) : Int)) - ((x1.size) : Int)) = (n - ((x0.size) : Int)) - ((x1.size) : Int) := wrap_sub (by omega) (by omega) wx1
  simp -dsimp [Tryz.f62, q1]
  refine br_i (fun h => ?_) (fun h => ?_)
  · simp -dsimp [Tryz.f62, Num]
  have q2 : IntKind.i64.wrap (((n - ((x0.size) : Int)) - ((x1.size) : Int)) - ((x2.size) : Int)) = ((n - ((x0.size) : Int)) - ((x1.size) : Int)) - ((x2.size) : Int) := wrap_sub (by omega) (by omega) wx2
  simp -dsimp [Tryz.f62, q2]
  refine br_i (fun h => ?_) (fun h => ?_)
  · simp -dsimp [Tryz.f62, Num]
  obtain ⟨r3, e3, l3, u3⟩ := hc82 _ _ wx3 (by omega : 0 ≤ (((n - ((x0.size) : Int)) - ((x1.size) : Int)) - ((x2.size) : Int))) (by omega)
  simp -dsimp [Tryz.f62, e3]
  refine br_i (fun h => ?_) (fun h => ?_)
  · simp -dsimp [Tryz.f62, Num]
  simp -dsimp [Tryz.f62, Num]
  try omega
theorem szf63 (call : FuncId → List AV → Option AV)
    {es : List (List AV)} {n : Int} (he : OkR lay159 es) (h0 : 0 ≤ n) (h1 : n ≤ 1048576) : ∃ m, ∃ r, evBody Tryz.prog call m Tryz.f63 [.sl .sh es, .lit (.int .i64 n)] = some (.lit (.int .i64 r)) ∧ -1 ≤ r ∧ r ≤ 1048576 := by
  refine ⟨es.length + 1, ?_⟩
  suffices h : Ends (evBody Tryz.prog call (es.length + 1) Tryz.f63 [.sl .sh es, .lit (.int .i64 n)]) Num by
    obtain ⟨d, h, r, rfl, h2⟩ := h; exact ⟨r, h, h2⟩
  rw [ev_body (c := _) rfl]
  rw [show entry Tryz.f63 [.sl .sh es, .lit (.int .i64 n)] = { s := [.sl .sh es, .lit (.int .i64 n), .undef, .undef, .undef, .undef, .undef, .undef, .undef, .undef, .undef, .undef], live := fun _ _ => none } from rfl]
  have q : IntKind.i64.wrap (n - (es.length : Int)) = n - (es.length : Int) := wrap_sub (by omega) (by omega) he.1
  simp -dsimp [Tryz.f63, q]
  refine br_i (fun h => ?_) (fun h => ?_)
  · simp -dsimp [Tryz.f63, Num]
  simp -dsimp [Tryz.f63, Num]
  try omega
theorem szl82 (call : FuncId → List AV → Option AV) (m : Nat)
    (hc98 : ∀ x n, OkL lay163 x → 0 ≤ n → n ≤ 1048576 → ∃ r, call 98 [.agg x, .lit (.int .i64 n)] = some (.lit (.int .i64 r)) ∧ -1 ≤ r ∧ r ≤ 1048576)
    {c : Code} (hcd : c = loopIn Tryz.f82 0) {es : List (List AV)} (he : OkR lay163 es) {F : Ex × Env → Prop} (h1 : ∀ (r : Int) (lv : Nat → Nat → Option Nat) (u5 u2 u3 u4 u6 u7 u8 u9 u10 u11 u12 u13 u14 u15 u16 u17 u18 u19 u20 u21 u22 u23 u24 u25 u26 : AV), -1 ≤ r → r ≤ 1048576 → F (.exit 0, { s := [.sl .sh es, .lit (.int .i64 r), u2, u3, u4, u5, u6, u7, u8, u9, u10, u11, u12, u13, u14, u15, u16, u17, u18, u19, u20, u21, u22, u23, u24, u25, u26], live := lv })) (h2 : ∀ E', E'.s[4]? = some (.lit (.int .i64 (-1))) → F (.ret, E')) :
    ∀ (k N i : Nat) (n : Int) (lv : Nat → Nat → Option Nat) (u2 u3 u4 u6 u7 u8 u9 u10 u11 u12 u13 u14 u15 u16 u17 u18 u19 u20 u21 u22 u23 u24 u25 u26 : AV), k < N → k + i = es.length → 0 ≤ n → n ≤ 1048576 →
      Ends (evLoop (evCode Tryz.prog call m c) N { s := [.sl .sh es, .lit (.int .i64 n), u2, u3, u4, .lit (.int .i64 (i : Int)), u6, u7, u8, u9, u10, u11, u12, u13, u14, u15, u16, u17, u18, u19, u20, u21, u22, u23, u24, u25, u26], live := lv }) F := by
  intro k
  induction k with
  | zero =>
    intro N i n lv u2 u3 u4 u6 u7 u8 u9 u10 u11 u12 u13 u14 u15 u16 u17 u18 u19 u20 u21 u22 u23 u24 u25 u26 hN hk hn0 hn1
    obtain ⟨N, rfl⟩ : ∃ N', N = N' + 1 := ⟨N - 1, by omega⟩
    have hi : i = es.length := by omega
    subst hi
    rw [ev_turn hcd]
    simp -dsimp [Tryz.f82]
    exact h1 n _ _ _ _ _ _ _ _ _ _ _ _ _ _ _ _ _ _ _ _ _ _ _ _ _ _ (by omega) (by omega)
  | succ k ih =>
    intro N i n lv u2 u3 u4 u6 u7 u8 u9 u10 u11 u12 u13 u14 u15 u16 u17 u18 u19 u20 u21 u22 u23 u24 u25 u26 hN hk hn0 hn1
    obtain ⟨N, rfl⟩ : ∃ N', N = N' + 1 := ⟨N - 1, by omega⟩
    obtain ⟨x, hx, hxo, hxt⟩ := he.get (i := i) (by omega)
    have hlt : ((i : Int) < (es.length : Int)) := by omega
    have hbd : i < 9223372036854775807 := by have := he.1; omega
    obtain ⟨r, er, lr, ur⟩ := hc98 x n hxo hn0 hn1
    have hxl : x.length = 2 := hxo.1
    rw [ev_turn hcd]
    simp -dsimp [Tryz.f82, hlt, hx, wrap_small hbd, hxl, hxo.plain, er]
    refine br_i (fun h => ?_) (fun h => ?_)
    · simp -dsimp [Tryz.f82]; exact h2 _ (by simp)
    · simp -dsimp [Tryz.f82, wrap_small hbd]
      exact ih N (i + 1) r _ _ _ _ _ _ _ _ _ _ _ _ _ _ _ _ _ _ _ _ _ _ _ _ _ (by omega) (by omega) (by omega) (by omega)
theorem szf82 (call : FuncId → List AV → Option AV)
    (hc98 : ∀ x n, OkL lay163 x → 0 ≤ n → n ≤ 1048576 → ∃ r, call 98 [.agg x, .lit (.int .i64 n)] = some (.lit (.int .i64 r)) ∧ -1 ≤ r ∧ r ≤ 1048576)
    {es : List (List AV)} {n : Int} (he : OkR lay163 es) (h0 : 0 ≤ n) (h1 : n ≤ 1048576) : ∃ m, ∃ r, evBody Tryz.prog call m Tryz.f82 [.sl .sh es, .lit (.int .i64 n)] = some (.lit (.int .i64 r)) ∧ -1 ≤ r ∧ r ≤ 1048576 := by
  refine ⟨es.length + 1, ?_⟩
  suffices h : Ends (evBody Tryz.prog call (es.length + 1) Tryz.f82 [.sl .sh es, .lit (.int .i64 n)]) Num by
    obtain ⟨d, h, r, rfl, h2⟩ := h; exact ⟨r, h, h2⟩
  rw [ev_body (c := _) rfl]
  rw [show entry Tryz.f82 [.sl .sh es, .lit (.int .i64 n)] = { s := [.sl .sh es, .lit (.int .i64 n), .undef, .undef, .undef, .undef, .undef, .undef, .undef, .undef, .undef, .undef, .undef, .undef, .undef, .undef, .undef, .undef, .undef, .undef, .undef, .undef, .undef, .undef, .undef, .undef, .undef], live := fun _ _ => none } from rfl]
  have q : IntKind.i64.wrap (n - (es.length : Int)) = n - (es.length : Int) := wrap_sub (by omega) (by omega) he.1
  simp -dsimp [Tryz.f82, q]
  refine br_i (fun h => ?_) (fun h => ?_)
  · simp -dsimp [Tryz.f82, Num]
  simp -dsimp [Tryz.f82]
  refine szl82 call _ hc98 rfl he (fun r lv u5 u2 u3 u4 u6 u7 u8 u9 u10 u11 u12 u13 u14 u15 u16 u17 u18 u19 u20 u21 u22 u23 u24 u25 u26 h3 h4 => ?_) (fun E' hn => ?_) es.length _ 0 _ _ _ _ _ _ _ _ _ _ _ _ _ _ _ _ _ _ _ _ _ _ _ _ _ _ (by omega) (by omega) (by omega) (by omega)
  · simp -dsimp [Tryz.f82, Num]; omega
  · simp -dsimp [Tryz.f82, hn, Num]
theorem szf83 (call : FuncId → List AV → Option AV)
    {es : List (List AV)} {n : Int} (he : OkR lay5 es) (h0 : 0 ≤ n) (h1 : n ≤ 1048576) : ∃ m, ∃ r, evBody Tryz.prog call m Tryz.f83 [.sl .sh es, .lit (.int .i64 n)] = some (.lit (.int .i64 r)) ∧ -1 ≤ r ∧ r ≤ 1048576 := by
  refine ⟨es.length + 1, ?_⟩
  suffices h : Ends (evBody Tryz.prog call (es.length + 1) Tryz.f83 [.sl .sh es, .lit (.int .i64 n)]) Num by
    obtain ⟨d, h, r, rfl, h2⟩ := h; exact ⟨r, h, h2⟩
  rw [ev_body (c := _) rfl]
  rw [show entry Tryz.f83 [.sl .sh es, .lit (.int .i64 n)] = { s := [.sl .sh es, .lit (.int .i64 n), .undef, .undef, .undef, .undef, .undef, .undef, .undef, .undef, .undef, .undef], live := fun _ _ => none } from rfl]
  have q : IntKind.i64.wrap (n - (es.length : Int)) = n - (es.length : Int) := wrap_sub (by omega) (by omega) he.1
  simp -dsimp [Tryz.f83, q]
  refine br_i (fun h => ?_) (fun h => ?_)
  · simp -dsimp [Tryz.f83, Num]
  simp -dsimp [Tryz.f83, Num]
  try omega
theorem szf84 (call : FuncId → List AV → Option AV)
    {es : List (List AV)} {n : Int} (he : OkR lay166 es) (h0 : 0 ≤ n) (h1 : n ≤ 1048576) : ∃ m, ∃ r, evBody Tryz.prog call m Tryz.f84 [.sl .sh es, .lit (.int .i64 n)] = some (.lit (.int .i64 r)) ∧ -1 ≤ r ∧ r ≤ 1048576 := by
  refine ⟨es.length + 1, ?_⟩
  suffices h : Ends (evBody Tryz.prog call (es.length + 1) Tryz.f84 [.sl .sh es, .lit (.int .i64 n)]) Num by
    obtain ⟨d, h, r, rfl, h2⟩ := h; exact ⟨r, h, h2⟩
  rw [ev_body (c := _) rfl]
  rw [show entry Tryz.f84 [.sl .sh es, .lit (.int .i64 n)] = { s := [.sl .sh es, .lit (.int .i64 n), .undef, .undef, .undef, .undef, .undef, .undef, .undef, .undef, .undef, .undef], live := fun _ _ => none } from rfl]
  have q : IntKind.i64.wrap (n - (es.length : Int)) = n - (es.length : Int) := wrap_sub (by omega) (by omega) he.1
  simp -dsimp [Tryz.f84, q]
  refine br_i (fun h => ?_) (fun h => ?_)
  · simp -dsimp [Tryz.f84, Num]
  simp -dsimp [Tryz.f84, Num]
  try omega
theorem szf85 (call : FuncId → List AV → Option AV)
    {es : List (List AV)} {n : Int} (he : OkR lay168 es) (h0 : 0 ≤ n) (h1 : n ≤ 1048576) : ∃ m, ∃ r, evBody Tryz.prog call m Tryz.f85 [.sl .sh es, .lit (.int .i64 n)] = some (.lit (.int .i64 r)) ∧ -1 ≤ r ∧ r ≤ 1048576 := by
  refine ⟨es.length + 1, ?_⟩
  suffices h : Ends (evBody Tryz.prog call (es.length + 1) Tryz.f85 [.sl .sh es, .lit (.int .i64 n)]) Num by
    obtain ⟨d, h, r, rfl, h2⟩ := h; exact ⟨r, h, h2⟩
  rw [ev_body (c := _) rfl]
  rw [show entry Tryz.f85 [.sl .sh es, .lit (.int .i64 n)] = { s := [.sl .sh es, .lit (.int .i64 n), .undef, .undef, .undef, .undef, .undef, .undef, .undef, .undef, .undef, .undef], live := fun _ _ => none } from rfl]
  have q : IntKind.i64.wrap (n - (es.length : Int)) = n - (es.length : Int) := wrap_sub (by omega) (by omega) he.1
  simp -dsimp [Tryz.f85, q]
  refine br_i (fun h => ?_) (fun h => ?_)
  · simp -dsimp [Tryz.f85, Num]
  simp -dsimp [Tryz.f85, Num]
  try omega
theorem szf98 (call : FuncId → List AV → Option AV) (m : Nat)
    {x : List AV} {n : Int} (hx : OkL lay163 x) (h0 : 0 ≤ n) (h1 : n ≤ 1048576) : ∃ r, evBody Tryz.prog call m Tryz.f98 [.agg x, .lit (.int .i64 n)] = some (.lit (.int .i64 r)) ∧ -1 ≤ r ∧ r ≤ 1048576 := by
  obtain ⟨c, r, rfl, hc, tx0⟩ := hx.cons_inv
  obtain ⟨x0, rfl, wx0⟩ := hc.str_inv
  obtain ⟨c, r, rfl, hc, tx1⟩ := tx0.cons_inv
  obtain ⟨x1, rfl, wx1⟩ := hc.str_inv
  have := tx1.nil_inv; subst this
  suffices h : Ends (evBody Tryz.prog call m Tryz.f98 [.agg [.lit (.string x0), .lit (.string x1)], .lit (.int .i64 n)]) Num by
    obtain ⟨d, h, r, rfl, h2⟩ := h; exact ⟨r, h, h2⟩
  rw [ev_body (c := _) rfl]
  rw [show entry Tryz.f98 [.agg [.lit (.string x0), .lit (.string x1)], .lit (.int .i64 n)] = { s := [.agg [.lit (.string x0), .lit (.string x1)], .lit (.int .i64 n), .undef, .undef, .undef, .undef, .undef, .undef, .undef, .undef, .undef, .undef, .undef, .undef, .undef, .undef, .undef, .undef, .undef, .undef], live := fun _ _ => none } from rfl]
  have q0 : IntKind.i64.wrap (n - ((x0.size) : Int)) = n - ((x0.size) : Int) := wrap_sub (by omega) (by omega) wx0
  simp -dsimp [Tryz.f98, q0]
  refine br_i (fun h => ?_) (fun h => ?_)
  · simp -dsimp [Tryz.f98, Num]
  have q1 : IntKind.i64.wrap ((n - ((x0.size) : Int)) - ((x1.size) : Int)) = (n - ((x0.size) : Int)) - ((x1.size) : Int) := wrap_sub (by omega) (by omega) wx1
  simp -dsimp [Tryz.f98, q1]
  refine br_i (fun h => ?_) (fun h => ?_)
  · simp -dsimp [Tryz.f98, Num]
  simp -dsimp [Tryz.f98, Num]
  try omega
end Go.Proofs.YtlgdhdelhpklbaaGreat.EV
