/- Contracts, by to.py. -/
import Derived.Test.YtiagpplidnfabaaDoorSq
set_option maxHeartbeats 4000000
set_option maxRecDepth 20000
set_option linter.unusedSimpArgs false
set_option linter.unusedVariables false
namespace Go.Proofs.YtiagpplidnfabaaDoor.EV
open Go.RowKit
open Classical
theorem tof6 (call : FuncId → List AV → Option AV) (m : Nat)
    (hc13 : ∀ x, OkL lay25 x → call 13 [.agg x] = some (.agg (x.map ex1)))
    (hc14 : ∀ x, OkL lay27 x → call 14 [.agg x] = some (.agg (x.map ex1)))
    {x : List AV} (hx : OkL lay29 x) : evBody Tryd.prog call m Tryd.f6 [.agg x] = some (.agg (x.map ex1)) := by
  obtain ⟨c, r, rfl, hc, tx0⟩ := hx.cons_inv
  obtain ⟨x0, rfl, wx0⟩ := hc.int_inv
  obtain ⟨c, r, rfl, hc, tx1⟩ := tx0.cons_inv
  obtain ⟨x1, rfl, wx1⟩ := hc.int_inv
  obtain ⟨c, r, rfl, hc, tx2⟩ := tx1.cons_inv
  obtain ⟨x2, rfl, wx2⟩ := hc.str_inv
  obtain ⟨c, r, rfl, hc, tx3⟩ := tx2.cons_inv
  obtain ⟨x3, rfl, wx3⟩ := hc.int_inv
  obtain ⟨c, r, rfl, hc, tx4⟩ := tx3.cons_inv
  obtain ⟨x4, rfl, wx4⟩ := hc.sl_inv
  obtain ⟨c, r, rfl, hc, tx5⟩ := tx4.cons_inv
  obtain ⟨x5, rfl, wx5⟩ := hc.sl_inv
  obtain ⟨c, r, rfl, hc, tx6⟩ := tx5.cons_inv
  obtain ⟨x6, rfl, wx6⟩ := hc.str_inv
  obtain ⟨c, r, rfl, hc, tx7⟩ := tx6.cons_inv
  obtain ⟨x7, rfl, wx7⟩ := hc.str_inv
  obtain ⟨c, r, rfl, hc, tx8⟩ := tx7.cons_inv
  obtain ⟨x8, rfl, wx8⟩ := hc.str_inv
  obtain ⟨c, r, rfl, hc, tx9⟩ := tx8.cons_inv
  obtain ⟨x9, rfl, wx9⟩ := hc.sl_inv
  have := tx9.nil_inv; subst this
  apply ends_eq
  rw [ev_body (c := _) rfl]
  rw [show entry Tryd.f6 [.agg [.lit (.int .i64 x0), .lit (.int .i64 x1), .lit (.string x2), .lit (.int .i64 x3), .sl .sh x4, .sl .sh x5, .lit (.string x6), .lit (.string x7), .lit (.string x8), .sl .sh x9]] = { s := [.agg [.lit (.int .i64 x0), .lit (.int .i64 x1), .lit (.string x2), .lit (.int .i64 x3), .sl .sh x4, .sl .sh x5, .lit (.string x6), .lit (.string x7), .lit (.string x8), .sl .sh x9], .undef, .undef, .undef, .undef, .undef, .undef, .undef, .undef, .undef, .undef, .undef, .undef, .undef, .undef, .undef, .undef, .undef, .undef, .undef, .undef, .undef], live := fun _ _ => none } from rfl]
  simp -dsimp [Tryd.f6, setCells, hc13, hc14, wx0, wx1, wx2, wx3, wx4, wx5, wx6, wx7, wx8, wx9]
theorem tof13 (call : FuncId → List AV → Option AV) (m : Nat)
    (hc27 : ∀ x, OkR lay69 x → call 27 [.sl .sh x] = some (.sl .ex x))
    (hc28 : ∀ x, OkR lay5 x → call 28 [.sl .sh x] = some (.sl .ex x))
    {x : List AV} (hx : OkL lay25 x) : evBody Tryd.prog call m Tryd.f13 [.agg x] = some (.agg (x.map ex1)) := by
  obtain ⟨c, r, rfl, hc, tx0⟩ := hx.cons_inv
  obtain ⟨x0, rfl, wx0⟩ := hc.int_inv
  obtain ⟨c, r, rfl, hc, tx1⟩ := tx0.cons_inv
  obtain ⟨x1, rfl, wx1⟩ := hc.sl_inv
  obtain ⟨c, r, rfl, hc, tx2⟩ := tx1.cons_inv
  obtain ⟨x2, rfl, wx2⟩ := hc.sl_inv
  have := tx2.nil_inv; subst this
  apply ends_eq
  rw [ev_body (c := _) rfl]
  rw [show entry Tryd.f13 [.agg [.lit (.int .i64 x0), .sl .sh x1, .sl .sh x2]] = { s := [.agg [.lit (.int .i64 x0), .sl .sh x1, .sl .sh x2], .undef, .undef, .undef, .undef, .undef, .undef, .undef, .undef, .undef, .undef, .undef, .undef, .undef, .undef, .undef], live := fun _ _ => none } from rfl]
  simp -dsimp [Tryd.f13, setCells, hc27, hc28, wx0, wx1, wx2]
theorem tof14 (call : FuncId → List AV → Option AV) (m : Nat)
    (hc27 : ∀ x, OkR lay69 x → call 27 [.sl .sh x] = some (.sl .ex x))
    {x : List AV} (hx : OkL lay27 x) : evBody Tryd.prog call m Tryd.f14 [.agg x] = some (.agg (x.map ex1)) := by
  obtain ⟨c, r, rfl, hc, tx0⟩ := hx.cons_inv
  obtain ⟨x0, rfl, wx0⟩ := hc.str_inv
  obtain ⟨c, r, rfl, hc, tx1⟩ := tx0.cons_inv
  obtain ⟨x1, rfl, wx1⟩ := hc.str_inv
  obtain ⟨c, r, rfl, hc, tx2⟩ := tx1.cons_inv
  obtain ⟨x2, rfl, wx2⟩ := hc.str_inv
  obtain ⟨c, r, rfl, hc, tx3⟩ := tx2.cons_inv
  obtain ⟨x3, rfl, wx3⟩ := hc.sl_inv
  have := tx3.nil_inv; subst this
  apply ends_eq
  rw [ev_body (c := _) rfl]
  rw [show entry Tryd.f14 [.agg [.lit (.string x0), .lit (.string x1), .lit (.string x2), .sl .sh x3]] = { s := [.agg [.lit (.string x0), .lit (.string x1), .lit (.string x2), .sl .sh x3], .undef, .undef, .undef, .undef, .undef, .undef, .undef, .undef, .undef, .undef, .undef, .undef, .undef, .undef, .undef, .undef, .undef], live := fun _ _ => none } from rfl]
  simp -dsimp [Tryd.f14, setCells, hc27, wx0, wx1, wx2, wx3]
theorem tol27 (call : FuncId → List AV → Option AV) (m : Nat)
    (hc35 : ∀ x, OkL lay69 x → call 35 [.agg x] = some (.agg (x.map ex1)))
    {c : Code} (hcd : c = loopIn Tryd.f27 0) {es : List (List AV)} (he : OkR lay69 es) {F : Ex × Env → Prop} (h1 : ∀ (lv : Nat → Nat → Option Nat) (u4 u1 u5 u6 u8 u9 u10 u11 u12 u13 u14 u15 u16 u17 u18 u19 u20 u21 u22 : AV), F (.exit 0, { s := [.sl .sh es, u1, .sl .ex [], .mrow 7 es.length 2, u4, u5, u6, .row es.length 2 (filled [.lit (.string { data := #[] }), .lit (.string { data := #[] })] es es.length), u8, u9, u10, u11, u12, u13, u14, u15, u16, u17, u18, u19, u20, u21, u22], live := lv })) :
    ∀ (k N i : Nat) (lv : Nat → Nat → Option Nat) (u1 u5 u6 u8 u9 u10 u11 u12 u13 u14 u15 u16 u17 u18 u19 u20 u21 u22 : AV), k < N → k + i = es.length →
      Ends (evLoop (evCode Tryd.prog call m c) N { s := [.sl .sh es, u1, .sl .ex [], .mrow 7 es.length 2, .lit (.int .i64 (i : Int)), u5, u6, .row es.length 2 (filled [.lit (.string { data := #[] }), .lit (.string { data := #[] })] es i), u8, u9, u10, u11, u12, u13, u14, u15, u16, u17, u18, u19, u20, u21, u22], live := lv }) F := by
  have hlen : ∀ r ∈ es, r.length = 2 := fun r hr => (he.2 r hr).1
  intro k
  induction k with
  | zero =>
    intro N i lv u1 u5 u6 u8 u9 u10 u11 u12 u13 u14 u15 u16 u17 u18 u19 u20 u21 u22 hN hk
    obtain ⟨N, rfl⟩ : ∃ N', N = N' + 1 := ⟨N - 1, by omega⟩
    have hi : i = es.length := by omega
    subst hi
    rw [ev_turn hcd]
    simp -dsimp [Tryd.f27]
    exact h1 _ _ _ _ _ _ _ _ _ _ _ _ _ _ _ _ _ _ _ _
  | succ k ih =>
    intro N i lv u1 u5 u6 u8 u9 u10 u11 u12 u13 u14 u15 u16 u17 u18 u19 u20 u21 u22 hN hk
    obtain ⟨N, rfl⟩ : ∃ N', N = N' + 1 := ⟨N - 1, by omega⟩
    obtain ⟨x, hx, hxo, hxt⟩ := he.get (i := i) (by omega)
    have hlt : ((i : Int) < (es.length : Int)) := by omega
    have hlt' : i < es.length := by omega
    have hbd : i < 9223372036854775807 := by have := he.1; omega
    have hsz : i * 2 + 2 ≤ (filled [.lit (.string { data := #[] }), .lit (.string { data := #[] })] es i).length := by rw [filled_length (s := 2) (by omega) rfl hlen]; omega
    have hset := filled_set (z := [.lit (.string { data := #[] }), .lit (.string { data := #[] })]) (s := 2) hx rfl hlen
    have hxe : es[i]'hlt' = x := by have := List.getElem?_eq_getElem hlt'; rw [hx] at this; exact (Option.some.inj this).symm
    have hcl : ∀ k, (filled [.lit (.string { data := #[] }), .lit (.string { data := #[] })] es i).map (clean1 k) = filled [.lit (.string { data := #[] }), .lit (.string { data := #[] })] es i := fun k => filled_clean k i rfl he.2
    have hxl : x.length = 2 := hxo.1
    have her := hc35 x hxo
    have hh := hxo.ex_home 20
    have ho := hxo.ex_owned
    have ha := hxo.ex_all
    simp only [List.all_map] at ha
    simp only [List.map_map] at hh
    skip
    rw [ev_turn hcd]
    simp -dsimp [Tryd.f27, hlt, hlt', hx, hxe, wrap_small hbd, hcl, hsz, hset, hxl, hxo.plain, her, hh, ho, ha]
    exact ih N (i + 1) _ _ _ _ _ _ _ _ _ _ _ _ _ _ _ _ _ _ _ (by omega) (by omega)
theorem tof27 (call : FuncId → List AV → Option AV)
    (hc35 : ∀ x, OkL lay69 x → call 35 [.agg x] = some (.agg (x.map ex1)))
    {es : List (List AV)} (he : OkR lay69 es) : ∃ m, evBody Tryd.prog call m Tryd.f27 [.sl .sh es] = some (.sl .ex es) := by
  refine ⟨es.length + 1, ?_⟩
  apply ends_eq
  rw [ev_body (c := _) rfl]
  rw [show entry Tryd.f27 [.sl .sh es] = { s := [.sl .sh es, .undef, .undef, .undef, .undef, .undef, .undef, .undef, .undef, .undef, .undef, .undef, .undef, .undef, .undef, .undef, .undef, .undef, .undef, .undef, .undef, .undef, .undef], live := fun _ _ => none } from rfl]
  have hL : ∀ b, b ≤ 65536 → es.length * b ≤ LIM := fun b hb => by have := Nat.mul_le_mul he.1 hb; unfold LIM; omega
  have hL1 : es.length ≤ LIM := by simpa using hL 1 (by omega)
  have hM : es.length ≤ maxLen := by have := he.1; unfold maxLen; omega
  have hlen : ∀ r ∈ es, r.length = 2 := fun r hr => (he.2 r hr).1
  have hfl := flat_len hlen
  have hch := chop_flat hlen
  have hz := filled_zero [.lit (.string { data := #[] }), .lit (.string { data := #[] })] es
  simp -dsimp [Tryd.f27, hL, hL1, hM, ← hz]
  refine tol27 call _ hc35 rfl he (fun lv u4 u1 u5 u6 u8 u9 u10 u11 u12 u13 u14 u15 u16 u17 u18 u19 u20 u21 u22 => ?_) es.length _ 0 _ _ _ _ _ _ _ _ _ _ _ _ _ _ _ _ _ _ _ (by omega) (by omega)
  simp -dsimp [Tryd.f27, filled_end, filled_plain he, hfl, hch]
theorem tol28 (call : FuncId → List AV → Option AV) (m : Nat)
    {c : Code} (hcd : c = loopIn Tryd.f28 0) {es : List (List AV)} (he : OkR lay5 es) {F : Ex × Env → Prop} (h1 : ∀ (lv : Nat → Nat → Option Nat) (u4 u1 u5 u6 u8 u9 u10 u11 u12 u13 u14 u15 u16 u17 u18 u19 u20 u21 : AV), F (.exit 0, { s := [.sl .sh es, u1, .sl .ex [], .mrow 7 es.length 1, u4, u5, u6, .row es.length 1 (filled [.lit (.int .u8 0)] es es.length), u8, u9, u10, u11, u12, u13, u14, u15, u16, u17, u18, u19, u20, u21], live := lv })) :
    ∀ (k N i : Nat) (lv : Nat → Nat → Option Nat) (u1 u5 u6 u8 u9 u10 u11 u12 u13 u14 u15 u16 u17 u18 u19 u20 u21 : AV), k < N → k + i = es.length →
      Ends (evLoop (evCode Tryd.prog call m c) N { s := [.sl .sh es, u1, .sl .ex [], .mrow 7 es.length 1, .lit (.int .i64 (i : Int)), u5, u6, .row es.length 1 (filled [.lit (.int .u8 0)] es i), u8, u9, u10, u11, u12, u13, u14, u15, u16, u17, u18, u19, u20, u21], live := lv }) F := by
  have hlen : ∀ r ∈ es, r.length = 1 := fun r hr => (he.2 r hr).1
  intro k
  induction k with
  | zero =>
    intro N i lv u1 u5 u6 u8 u9 u10 u11 u12 u13 u14 u15 u16 u17 u18 u19 u20 u21 hN hk
    obtain ⟨N, rfl⟩ : ∃ N', N = N' + 1 := ⟨N - 1, by omega⟩
    have hi : i = es.length := by omega
    subst hi
    rw [ev_turn hcd]
    simp -dsimp [Tryd.f28]
    exact h1 _ _ _ _ _ _ _ _ _ _ _ _ _ _ _ _ _ _ _
  | succ k ih =>
    intro N i lv u1 u5 u6 u8 u9 u10 u11 u12 u13 u14 u15 u16 u17 u18 u19 u20 u21 hN hk
    obtain ⟨N, rfl⟩ : ∃ N', N = N' + 1 := ⟨N - 1, by omega⟩
    obtain ⟨x, hx, hxo, hxt⟩ := he.get (i := i) (by omega)
    have hlt : ((i : Int) < (es.length : Int)) := by omega
    have hlt' : i < es.length := by omega
    have hbd : i < 9223372036854775807 := by have := he.1; omega
    have hsz : i * 1 + 1 ≤ (filled [.lit (.int .u8 0)] es i).length := by rw [filled_length (s := 1) (by omega) rfl hlen]; omega
    have hset := filled_set (z := [.lit (.int .u8 0)]) (s := 1) hx rfl hlen
    have hxe : es[i]'hlt' = x := by have := List.getElem?_eq_getElem hlt'; rw [hx] at this; exact (Option.some.inj this).symm
    have hcl : ∀ k, (filled [.lit (.int .u8 0)] es i).map (clean1 k) = filled [.lit (.int .u8 0)] es i := fun k => filled_clean k i rfl he.2
    obtain ⟨c, r, rfl, hc, ty0⟩ := hxo.cons_inv
    obtain ⟨y0, rfl, wy0⟩ := hc.int_inv
    have := ty0.nil_inv; subst this
    simp only [List.map_cons, List.map_nil, ex1, Nat.mul_one] at hset
    simp only [Nat.mul_one] at hsz
    rw [ev_turn hcd]
    simp -dsimp [Tryd.f28, hlt, hlt', hx, hxe, wrap_small hbd, hcl, hsz, hset]
    exact ih N (i + 1) _ _ _ _ _ _ _ _ _ _ _ _ _ _ _ _ _ _ (by omega) (by omega)
theorem tof28 (call : FuncId → List AV → Option AV)
    {es : List (List AV)} (he : OkR lay5 es) : ∃ m, evBody Tryd.prog call m Tryd.f28 [.sl .sh es] = some (.sl .ex es) := by
  refine ⟨es.length + 1, ?_⟩
  apply ends_eq
  rw [ev_body (c := _) rfl]
  rw [show entry Tryd.f28 [.sl .sh es] = { s := [.sl .sh es, .undef, .undef, .undef, .undef, .undef, .undef, .undef, .undef, .undef, .undef, .undef, .undef, .undef, .undef, .undef, .undef, .undef, .undef, .undef, .undef, .undef], live := fun _ _ => none } from rfl]
  have hL : ∀ b, b ≤ 65536 → es.length * b ≤ LIM := fun b hb => by have := Nat.mul_le_mul he.1 hb; unfold LIM; omega
  have hL1 : es.length ≤ LIM := by simpa using hL 1 (by omega)
  have hM : es.length ≤ maxLen := by have := he.1; unfold maxLen; omega
  have hlen : ∀ r ∈ es, r.length = 1 := fun r hr => (he.2 r hr).1
  have hfl := flat_len hlen
  have hch := chop_flat hlen
  have hz := filled_zero [.lit (.int .u8 0)] es
  simp only [List.flatten_replicate_singleton] at hz
  simp -dsimp [Tryd.f28, hL, hL1, hM, ← hz]
  refine tol28 call _  rfl he (fun lv u4 u1 u5 u6 u8 u9 u10 u11 u12 u13 u14 u15 u16 u17 u18 u19 u20 u21 => ?_) es.length _ 0 _ _ _ _ _ _ _ _ _ _ _ _ _ _ _ _ _ _ (by omega) (by omega)
  simp -dsimp [Tryd.f28, filled_end, filled_plain he, hfl, hch]
theorem tof35 (call : FuncId → List AV → Option AV) (m : Nat)
    {x : List AV} (hx : OkL lay69 x) : evBody Tryd.prog call m Tryd.f35 [.agg x] = some (.agg (x.map ex1)) := by
  obtain ⟨c, r, rfl, hc, tx0⟩ := hx.cons_inv
  obtain ⟨x0, rfl, wx0⟩ := hc.str_inv
  obtain ⟨c, r, rfl, hc, tx1⟩ := tx0.cons_inv
  obtain ⟨x1, rfl, wx1⟩ := hc.str_inv
  have := tx1.nil_inv; subst this
  apply ends_eq
  rw [ev_body (c := _) rfl]
  rw [show entry Tryd.f35 [.agg [.lit (.string x0), .lit (.string x1)]] = { s := [.agg [.lit (.string x0), .lit (.string x1)], .undef, .undef, .undef, .undef, .undef, .undef, .undef, .undef, .undef, .undef], live := fun _ _ => none } from rfl]
  simp -dsimp [Tryd.f35, setCells, wx0, wx1]
end Go.Proofs.YtiagpplidnfabaaDoor.EV
