/- Contracts, by to.py. -/
import Derived.Test.YtlgdhdelhpklbaaGreatSq
set_option maxHeartbeats 4000000
set_option maxRecDepth 20000
set_option linter.unusedSimpArgs false
set_option linter.unusedVariables false
namespace Go.Proofs.YtlgdhdelhpklbaaGreat.EV
open Go.RowKit
open Classical
theorem tof6 (call : FuncId → List AV → Option AV) (m : Nat)
    (hc18 : ∀ x, OkL lay28 x → call 18 [.agg x] = some (.agg (x.map ex1)))
    (hc19 : ∀ x, OkL lay31 x → call 19 [.agg x] = some (.agg (x.map ex1)))
    (hc20 : ∀ x, OkR lay87 x → call 20 [.sl .sh x] = some (.sl .ex x))
    (hc21 : ∀ x, OkR lay94 x → call 21 [.sl .sh x] = some (.sl .ex x))
    {x : List AV} (hx : OkL lay35 x) : evBody Tryz.prog call m Tryz.f6 [.agg x] = some (.agg (x.map ex1)) := by
  obtain ⟨c, r, rfl, hc, tx0⟩ := hx.cons_inv
  obtain ⟨x0, rfl, wx0⟩ := hc.int_inv
  obtain ⟨c, r, rfl, hc, tx1⟩ := tx0.cons_inv
  obtain ⟨x1, rfl, wx1⟩ := hc.int_inv
  obtain ⟨c, r, rfl, hc, tx2⟩ := tx1.cons_inv
  obtain ⟨x2, rfl, wx2⟩ := hc.int_inv
  obtain ⟨c, r, rfl, hc, tx3⟩ := tx2.cons_inv
  obtain ⟨x3, rfl, wx3⟩ := hc.int_inv
  obtain ⟨c, r, rfl, hc, tx4⟩ := tx3.cons_inv
  obtain ⟨x4, rfl, wx4⟩ := hc.int_inv
  obtain ⟨c, r, rfl, hc, tx5⟩ := tx4.cons_inv
  obtain ⟨x5, rfl, wx5⟩ := hc.int_inv
  obtain ⟨c, r, rfl, hc, tx6⟩ := tx5.cons_inv
  obtain ⟨x6, rfl, wx6⟩ := hc.int_inv
  obtain ⟨c, r, rfl, hc, tx7⟩ := tx6.cons_inv
  obtain ⟨x7, rfl, wx7⟩ := hc.int_inv
  obtain ⟨c, r, rfl, hc, tx8⟩ := tx7.cons_inv
  obtain ⟨x8, rfl, wx8⟩ := hc.sl_inv
  obtain ⟨c, r, rfl, hc, tx9⟩ := tx8.cons_inv
  obtain ⟨x9, rfl, wx9⟩ := hc.int_inv
  obtain ⟨c, r, rfl, hc, tx10⟩ := tx9.cons_inv
  obtain ⟨x10, rfl, wx10⟩ := hc.int_inv
  obtain ⟨c, r, rfl, hc, tx11⟩ := tx10.cons_inv
  obtain ⟨x11, rfl, wx11⟩ := hc.int_inv
  obtain ⟨c, r, rfl, hc, tx12⟩ := tx11.cons_inv
  obtain ⟨x12, rfl, wx12⟩ := hc.int_inv
  obtain ⟨c, r, rfl, hc, tx13⟩ := tx12.cons_inv
  obtain ⟨x13, rfl, wx13⟩ := hc.int_inv
  obtain ⟨c, r, rfl, hc, tx14⟩ := tx13.cons_inv
  obtain ⟨x14, rfl, wx14⟩ := hc.int_inv
  obtain ⟨c, r, rfl, hc, tx15⟩ := tx14.cons_inv
  obtain ⟨x15, rfl, wx15⟩ := hc.int_inv
  obtain ⟨c, r, rfl, hc, tx16⟩ := tx15.cons_inv
  obtain ⟨x16, rfl, wx16⟩ := hc.int_inv
  obtain ⟨c, r, rfl, hc, tx17⟩ := tx16.cons_inv
  obtain ⟨x17, rfl, wx17⟩ := hc.int_inv
  obtain ⟨c, r, rfl, hc, tx18⟩ := tx17.cons_inv
  obtain ⟨x18, rfl, wx18⟩ := hc.int_inv
  obtain ⟨c, r, rfl, hc, tx19⟩ := tx18.cons_inv
  obtain ⟨x19, rfl, wx19⟩ := hc.int_inv
  obtain ⟨c, r, rfl, hc, tx20⟩ := tx19.cons_inv
  obtain ⟨x20, rfl, wx20⟩ := hc.int_inv
  obtain ⟨c, r, rfl, hc, tx21⟩ := tx20.cons_inv
  obtain ⟨x21, rfl, wx21⟩ := hc.sl_inv
  obtain ⟨c, r, rfl, hc, tx22⟩ := tx21.cons_inv
  obtain ⟨x22, rfl, wx22⟩ := hc.sl_inv
  obtain ⟨c, r, rfl, hc, tx23⟩ := tx22.cons_inv
  obtain ⟨x23, rfl, wx23⟩ := hc.sl_inv
  obtain ⟨c, r, rfl, hc, tx24⟩ := tx23.cons_inv
  obtain ⟨x24, rfl, wx24⟩ := hc.sl_inv
  have := tx24.nil_inv; subst this
  apply ends_eq
  rw [ev_body (c := _) rfl]
  rw [show entry Tryz.f6 [.agg [.lit (.int .i64 x0), .lit (.int .i64 x1), .lit (.int .i64 x2), .lit (.int .i64 x3), .lit (.int .i64 x4), .lit (.int .i64 x5), .lit (.int .i64 x6), .lit (.int .i64 x7), .sl .sh x8, .lit (.int .i64 x9), .lit (.int .i64 x10), .lit (.int .i64 x11), .lit (.int .i64 x12), .lit (.int .i64 x13), .lit (.int .i64 x14), .lit (.int .i64 x15), .lit (.int .i64 x16), .lit (.int .i64 x17), .lit (.int .i64 x18), .lit (.int .i64 x19), .lit (.int .i64 x20), .sl .sh x21, .sl .sh x22, .sl .sh x23, .sl .sh x24]] = { s := [.agg [.lit (.int .i64 x0), .lit (.int .i64 x1), .lit (.int .i64 x2), .lit (.int .i64 x3), .lit (.int .i64 x4), .lit (.int .i64 x5), .lit (.int .i64 x6), .lit (.int .i64 x7), .sl .sh x8, .lit (.int .i64 x9), .lit (.int .i64 x10), .lit (.int .i64 x11), .lit (.int .i64 x12), .lit (.int .i64 x13), .lit (.int .i64 x14), .lit (.int .i64 x15), .lit (.int .i64 x16), .lit (.int .i64 x17), .lit (.int .i64 x18), .lit (.int .i64 x19), .lit (.int .i64 x20), .sl .sh x21, .sl .sh x22, .sl .sh x23, .sl .sh x24], .undef, .undef, .undef, .undef, .undef, .undef, .undef, .undef, .undef, .undef, .undef, .undef, .undef, .undef, .undef, .undef, .undef, .undef, .undef, .undef, .undef, .undef, .undef, .undef, .undef, .undef], live := fun _ _ => none } from rfl]
  simp -dsimp [Tryz.f6, setCells, hc18, hc19, hc20, hc21, wx0, wx1, wx2, wx3, wx4, wx5, wx6, wx7, wx8, wx9, wx10, wx11, wx12, wx13, wx14, wx15, wx16, wx17, wx18, wx19, wx20, wx21, wx22, wx23, wx24]
theorem tof18 (call : FuncId → List AV → Option AV) (m : Nat)
    (hc40 : ∀ x, OkR lay9 x → call 40 [.sl .sh x] = some (.sl .ex x))
    (hc41 : ∀ x, OkL lay24 x → call 41 [.agg x] = some (.agg (x.map ex1)))
    (hc42 : ∀ x, OkL lay26 x → call 42 [.agg x] = some (.agg (x.map ex1)))
    {x : List AV} (hx : OkL lay28 x) : evBody Tryz.prog call m Tryz.f18 [.agg x] = some (.agg (x.map ex1)) := by
  obtain ⟨c, r, rfl, hc, tx0⟩ := hx.cons_inv
  obtain ⟨x0, rfl, wx0⟩ := hc.int_inv
  obtain ⟨c, r, rfl, hc, tx1⟩ := tx0.cons_inv
  obtain ⟨x1, rfl, wx1⟩ := hc.int_inv
  obtain ⟨c, r, rfl, hc, tx2⟩ := tx1.cons_inv
  obtain ⟨x2, rfl, wx2⟩ := hc.int_inv
  obtain ⟨c, r, rfl, hc, tx3⟩ := tx2.cons_inv
  obtain ⟨x3, rfl, wx3⟩ := hc.int_inv
  obtain ⟨c, r, rfl, hc, tx4⟩ := tx3.cons_inv
  obtain ⟨x4, rfl, wx4⟩ := hc.int_inv
  obtain ⟨c, r, rfl, hc, tx5⟩ := tx4.cons_inv
  obtain ⟨x5, rfl, wx5⟩ := hc.int_inv
  obtain ⟨c, r, rfl, hc, tx6⟩ := tx5.cons_inv
  obtain ⟨x6, rfl, wx6⟩ := hc.int_inv
  obtain ⟨c, r, rfl, hc, tx7⟩ := tx6.cons_inv
  obtain ⟨x7, rfl, wx7⟩ := hc.int_inv
  obtain ⟨c, r, rfl, hc, tx8⟩ := tx7.cons_inv
  obtain ⟨x8, rfl, wx8⟩ := hc.sl_inv
  obtain ⟨c, r, rfl, hc, tx9⟩ := tx8.cons_inv
  obtain ⟨x9, rfl, wx9⟩ := hc.int_inv
  obtain ⟨c, r, rfl, hc, tx10⟩ := tx9.cons_inv
  obtain ⟨x10, rfl, wx10⟩ := hc.int_inv
  obtain ⟨c, r, rfl, hc, tx11⟩ := tx10.cons_inv
  obtain ⟨x11, rfl, wx11⟩ := hc.int_inv
  obtain ⟨c, r, rfl, hc, tx12⟩ := tx11.cons_inv
  obtain ⟨x12, rfl, wx12⟩ := hc.int_inv
  obtain ⟨c, r, rfl, hc, tx13⟩ := tx12.cons_inv
  obtain ⟨x13, rfl, wx13⟩ := hc.int_inv
  obtain ⟨c, r, rfl, hc, tx14⟩ := tx13.cons_inv
  obtain ⟨x14, rfl, wx14⟩ := hc.int_inv
  obtain ⟨c, r, rfl, hc, tx15⟩ := tx14.cons_inv
  obtain ⟨x15, rfl, wx15⟩ := hc.int_inv
  obtain ⟨c, r, rfl, hc, tx16⟩ := tx15.cons_inv
  obtain ⟨x16, rfl, wx16⟩ := hc.int_inv
  have := tx16.nil_inv; subst this
  apply ends_eq
  rw [ev_body (c := _) rfl]
  rw [show entry Tryz.f18 [.agg [.lit (.int .i64 x0), .lit (.int .i64 x1), .lit (.int .i64 x2), .lit (.int .i64 x3), .lit (.int .i64 x4), .lit (.int .i64 x5), .lit (.int .i64 x6), .lit (.int .i64 x7), .sl .sh x8, .lit (.int .i64 x9), .lit (.int .i64 x10), .lit (.int .i64 x11), .lit (.int .i64 x12), .lit (.int .i64 x13), .lit (.int .i64 x14), .lit (.int .i64 x15), .lit (.int .i64 x16)]] = { s := [.agg [.lit (.int .i64 x0), .lit (.int .i64 x1), .lit (.int .i64 x2), .lit (.int .i64 x3), .lit (.int .i64 x4), .lit (.int .i64 x5), .lit (.int .i64 x6), .lit (.int .i64 x7), .sl .sh x8, .lit (.int .i64 x9), .lit (.int .i64 x10), .lit (.int .i64 x11), .lit (.int .i64 x12), .lit (.int .i64 x13), .lit (.int .i64 x14), .lit (.int .i64 x15), .lit (.int .i64 x16)], .undef, .undef, .undef, .undef, .undef, .undef, .undef, .undef, .undef, .undef, .undef, .undef, .undef, .undef, .undef, .undef, .undef, .undef, .undef, .undef, .undef, .undef, .undef, .undef, .undef, .undef, .undef, .undef, .undef, .undef, .undef, .undef, .undef, .undef, .undef, .undef, .undef, .undef, .undef, .undef], live := fun _ _ => none } from rfl]
  simp -dsimp [Tryz.f18, setCells, hc40, hc41, hc42, wx0, wx1, wx2, wx3, wx4, wx5, wx6, wx7, wx8, wx9, wx10, wx11, wx12, wx13, wx14, wx15, wx16]
theorem tof19 (call : FuncId → List AV → Option AV) (m : Nat)
    (hc43 : ∀ x, OkR lay128 x → call 43 [.sl .sh x] = some (.sl .ex x))
    {x : List AV} (hx : OkL lay31 x) : evBody Tryz.prog call m Tryz.f19 [.agg x] = some (.agg (x.map ex1)) := by
  obtain ⟨c, r, rfl, hc, tx0⟩ := hx.cons_inv
  obtain ⟨x0, rfl, wx0⟩ := hc.int_inv
  obtain ⟨c, r, rfl, hc, tx1⟩ := tx0.cons_inv
  obtain ⟨x1, rfl, wx1⟩ := hc.int_inv
  obtain ⟨c, r, rfl, hc, tx2⟩ := tx1.cons_inv
  obtain ⟨x2, rfl, wx2⟩ := hc.sl_inv
  obtain ⟨c, r, rfl, hc, tx3⟩ := tx2.cons_inv
  obtain ⟨x3, rfl, wx3⟩ := hc.sl_inv
  have := tx3.nil_inv; subst this
  apply ends_eq
  rw [ev_body (c := _) rfl]
  rw [show entry Tryz.f19 [.agg [.lit (.int .i64 x0), .lit (.int .i64 x1), .sl .sh x2, .sl .sh x3]] = { s := [.agg [.lit (.int .i64 x0), .lit (.int .i64 x1), .sl .sh x2, .sl .sh x3], .undef, .undef, .undef, .undef, .undef, .undef, .undef, .undef, .undef, .undef, .undef, .undef, .undef, .undef, .undef, .undef, .undef, .undef], live := fun _ _ => none } from rfl]
  simp -dsimp [Tryz.f19, setCells, hc43, wx0, wx1, wx2, wx3]
theorem tol20 (call : FuncId → List AV → Option AV) (m : Nat)
    (hc44 : ∀ x, OkL lay87 x → call 44 [.agg x] = some (.agg (x.map ex1)))
    {c : Code} (hcd : c = loopIn Tryz.f20 0) {es : List (List AV)} (he : OkR lay87 es) {F : Ex × Env → Prop} (h1 : ∀ (lv : Nat → Nat → Option Nat) (u4 u1 u5 u6 u8 u9 u10 u11 u12 u13 u14 u15 u16 u17 u18 u19 u20 u21 u22 : AV), F (.exit 0, { s := [.sl .sh es, u1, .sl .ex [], .mrow 7 es.length 7, u4, u5, u6, .row es.length 7 (filled [.lit (.string { data := #[] }), .lit (.int .i64 0), .sl .ex [], .lit (.int .i64 0), .lit (.int .i64 0), .lit (.int .i64 0), .sl .ex []] es es.length), u8, u9, u10, u11, u12, u13, u14, u15, u16, u17, u18, u19, u20, u21, u22], live := lv })) :
    ∀ (k N i : Nat) (lv : Nat → Nat → Option Nat) (u1 u5 u6 u8 u9 u10 u11 u12 u13 u14 u15 u16 u17 u18 u19 u20 u21 u22 : AV), k < N → k + i = es.length →
      Ends (evLoop (evCode Tryz.prog call m c) N { s := [.sl .sh es, u1, .sl .ex [], .mrow 7 es.length 7, .lit (.int .i64 (i : Int)), u5, u6, .row es.length 7 (filled [.lit (.string { data := #[] }), .lit (.int .i64 0), .sl .ex [], .lit (.int .i64 0), .lit (.int .i64 0), .lit (.int .i64 0), .sl .ex []] es i), u8, u9, u10, u11, u12, u13, u14, u15, u16, u17, u18, u19, u20, u21, u22], live := lv }) F := by
  have hlen : ∀ r ∈ es, r.length = 7 := fun r hr => (he.2 r hr).1
  intro k
  induction k with
  | zero =>
    intro N i lv u1 u5 u6 u8 u9 u10 u11 u12 u13 u14 u15 u16 u17 u18 u19 u20 u21 u22 hN hk
    obtain ⟨N, rfl⟩ : ∃ N', N = N' + 1 := ⟨N - 1, by omega⟩
    have hi : i = es.length := by omega
    subst hi
    rw [ev_turn hcd]
    simp -dsimp [Tryz.f20]
    exact h1 _ _ _ _ _ _ _ _ _ _ _ _ _ _ _ _ _ _ _ _
  | succ k ih =>
    intro N i lv u1 u5 u6 u8 u9 u10 u11 u12 u13 u14 u15 u16 u17 u18 u19 u20 u21 u22 hN hk
    obtain ⟨N, rfl⟩ : ∃ N', N = N' + 1 := ⟨N - 1, by omega⟩
    obtain ⟨x, hx, hxo, hxt⟩ := he.get (i := i) (by omega)
    have hlt : ((i : Int) < (es.length : Int)) := by omega
    have hlt' : i < es.length := by omega
    have hbd : i < 9223372036854775807 := by have := he.1; omega
    have hsz : i * 7 + 7 ≤ (filled [.lit (.string { data := #[] }), .lit (.int .i64 0), .sl .ex [], .lit (.int .i64 0), .lit (.int .i64 0), .lit (.int .i64 0), .sl .ex []] es i).length := by rw [filled_length (s := 7) (by omega) rfl hlen]; omega
    have hset := filled_set (z := [.lit (.string { data := #[] }), .lit (.int .i64 0), .sl .ex [], .lit (.int .i64 0), .lit (.int .i64 0), .lit (.int .i64 0), .sl .ex []]) (s := 7) hx rfl hlen
    have hxe : es[i]'hlt' = x := by have := List.getElem?_eq_getElem hlt'; rw [hx] at this; exact (Option.some.inj this).symm
    have hcl : ∀ k, (filled [.lit (.string { data := #[] }), .lit (.int .i64 0), .sl .ex [], .lit (.int .i64 0), .lit (.int .i64 0), .lit (.int .i64 0), .sl .ex []] es i).map (clean1 k) = filled [.lit (.string { data := #[] }), .lit (.int .i64 0), .sl .ex [], .lit (.int .i64 0), .lit (.int .i64 0), .lit (.int .i64 0), .sl .ex []] es i := fun k => filled_clean k i rfl he.2
    have hxl : x.length = 7 := hxo.1
    have her := hc44 x hxo
    have hh := hxo.ex_home 20
    have ho := hxo.ex_owned
    have ha := hxo.ex_all
    simp only [List.all_map] at ha
    simp only [List.map_map] at hh
    skip
    rw [ev_turn hcd]
    simp -dsimp [Tryz.f20, hlt, hlt', hx, hxe, wrap_small hbd, hcl, hsz, hset, hxl, hxo.plain, her, hh, ho, ha]
    exact ih N (i + 1) _ _ _ _ _ _ _ _ _ _ _ _ _ _ _ _ _ _ _ (by omega) (by omega)
theorem tof20 (call : FuncId → List AV → Option AV)
    (hc44 : ∀ x, OkL lay87 x → call 44 [.agg x] = some (.agg (x.map ex1)))
    {es : List (List AV)} (he : OkR lay87 es) : ∃ m, evBody Tryz.prog call m Tryz.f20 [.sl .sh es] = some (.sl .ex es) := by
  refine ⟨es.length + 1, ?_⟩
  apply ends_eq
  rw [ev_body (c := _) rfl]
  rw [show entry Tryz.f20 [.sl .sh es] = { s := [.sl .sh es, .undef, .undef, .undef, .undef, .undef, .undef, .undef, .undef, .undef, .undef, .undef, .undef, .undef, .undef, .undef, .undef, .undef, .undef, .undef, .undef, .undef, .undef], live := fun _ _ => none } from rfl]
  have hL : ∀ b, b ≤ 65536 → es.length * b ≤ LIM := fun b hb => by have := Nat.mul_le_mul he.1 hb; unfold LIM; omega
  have hL1 : es.length ≤ LIM := by simpa using hL 1 (by omega)
  have hM : es.length ≤ maxLen := by have := he.1; unfold maxLen; omega
  have hlen : ∀ r ∈ es, r.length = 7 := fun r hr => (he.2 r hr).1
  have hfl := flat_len hlen
  have hch := chop_flat hlen
  have hz := filled_zero [.lit (.string { data := #[] }), .lit (.int .i64 0), .sl .ex [], .lit (.int .i64 0), .lit (.int .i64 0), .lit (.int .i64 0), .sl .ex []] es
  simp -dsimp [Tryz.f20, hL, hL1, hM, ← hz]
  refine tol20 call _ hc44 rfl he (fun lv u4 u1 u5 u6 u8 u9 u10 u11 u12 u13 u14 u15 u16 u17 u18 u19 u20 u21 u22 => ?_) es.length _ 0 _ _ _ _ _ _ _ _ _ _ _ _ _ _ _ _ _ _ _ (by omega) (by omega)
  simp -dsimp [Tryz.f20, filled_end, filled_plain he, hfl, hch]
theorem tol21 (call : FuncId → List AV → Option AV) (m : Nat)
    (hc45 : ∀ x, OkL lay94 x → call 45 [.agg x] = some (.agg (x.map ex1)))
    {c : Code} (hcd : c = loopIn Tryz.f21 0) {es : List (List AV)} (he : OkR lay94 es) {F : Ex × Env → Prop} (h1 : ∀ (lv : Nat → Nat → Option Nat) (u4 u1 u5 u6 u8 u9 u10 u11 u12 u13 u14 u15 u16 u17 u18 u19 u20 u21 u22 : AV), F (.exit 0, { s := [.sl .sh es, u1, .sl .ex [], .mrow 7 es.length 11, u4, u5, u6, .row es.length 11 (filled [.lit (.int .i64 0), .lit (.string { data := #[] }), .lit (.bool false), .lit (.bool false), .lit (.int .i64 0), .lit (.bool false), .lit (.string { data := #[] }), .lit (.string { data := #[] }), .lit (.string { data := #[] }), .sl .ex [], .sl .ex []] es es.length), u8, u9, u10, u11, u12, u13, u14, u15, u16, u17, u18, u19, u20, u21, u22], live := lv })) :
    ∀ (k N i : Nat) (lv : Nat → Nat → Option Nat) (u1 u5 u6 u8 u9 u10 u11 u12 u13 u14 u15 u16 u17 u18 u19 u20 u21 u22 : AV), k < N → k + i = es.length →
      Ends (evLoop (evCode Tryz.prog call m c) N { s := [.sl .sh es, u1, .sl .ex [], .mrow 7 es.length 11, .lit (.int .i64 (i : Int)), u5, u6, .row es.length 11 (filled [.lit (.int .i64 0), .lit (.string { data := #[] }), .lit (.bool false), .lit (.bool false), .lit (.int .i64 0), .lit (.bool false), .lit (.string { data := #[] }), .lit (.string { data := #[] }), .lit (.string { data := #[] }), .sl .ex [], .sl .ex []] es i), u8, u9, u10, u11, u12, u13, u14, u15, u16, u17, u18, u19, u20, u21, u22], live := lv }) F := by
  have hlen : ∀ r ∈ es, r.length = 11 := fun r hr => (he.2 r hr).1
  intro k
  induction k with
  | zero =>
    intro N i lv u1 u5 u6 u8 u9 u10 u11 u12 u13 u14 u15 u16 u17 u18 u19 u20 u21 u22 hN hk
    obtain ⟨N, rfl⟩ : ∃ N', N = N' + 1 := ⟨N - 1, by omega⟩
    have hi : i = es.length := by omega
    subst hi
    rw [ev_turn hcd]
    simp -dsimp [Tryz.f21]
    exact h1 _ _ _ _ _ _ _ _ _ _ _ _ _ _ _ _ _ _ _ _
  | succ k ih =>
    intro N i lv u1 u5 u6 u8 u9 u10 u11 u12 u13 u14 u15 u16 u17 u18 u19 u20 u21 u22 hN hk
    obtain ⟨N, rfl⟩ : ∃ N', N = N' + 1 := ⟨N - 1, by omega⟩
    obtain ⟨x, hx, hxo, hxt⟩ := he.get (i := i) (by omega)
    have hlt : ((i : Int) < (es.length : Int)) := by omega
    have hlt' : i < es.length := by omega
    have hbd : i < 9223372036854775807 := by have := he.1; omega
    have hsz : i * 11 + 11 ≤ (filled [.lit (.int .i64 0), .lit (.string { data := #[] }), .lit (.bool false), .lit (.bool false), .lit (.int .i64 0), .lit (.bool false), .lit (.string { data := #[] }), .lit (.string { data := #[] }), .lit (.string { data := #[] }), .sl .ex [], .sl .ex []] es i).length := by rw [filled_length (s := 11) (by omega) rfl hlen]; omega
    have hset := filled_set (z := [.lit (.int .i64 0), .lit (.string { data := #[] }), .lit (.bool false), .lit (.bool false), .lit (.int .i64 0), .lit (.bool false), .lit (.string { data := #[] }), .lit (.string { data := #[] }), .lit (.string { data := #[] }), .sl .ex [], .sl .ex []]) (s := 11) hx rfl hlen
    have hxe : es[i]'hlt' = x := by have := List.getElem?_eq_getElem hlt'; rw [hx] at this; exact (Option.some.inj this).symm
    have hcl : ∀ k, (filled [.lit (.int .i64 0), .lit (.string { data := #[] }), .lit (.bool false), .lit (.bool false), .lit (.int .i64 0), .lit (.bool false), .lit (.string { data := #[] }), .lit (.string { data := #[] }), .lit (.string { data := #[] }), .sl .ex [], .sl .ex []] es i).map (clean1 k) = filled [.lit (.int .i64 0), .lit (.string { data := #[] }), .lit (.bool false), .lit (.bool false), .lit (.int .i64 0), .lit (.bool false), .lit (.string { data := #[] }), .lit (.string { data := #[] }), .lit (.string { data := #[] }), .sl .ex [], .sl .ex []] es i := fun k => filled_clean k i rfl he.2
    have hxl : x.length = 11 := hxo.1
    have her := hc45 x hxo
    have hh := hxo.ex_home 20
    have ho := hxo.ex_owned
    have ha := hxo.ex_all
    simp only [List.all_map] at ha
    simp only [List.map_map] at hh
    skip
    rw [ev_turn hcd]
    simp -dsimp [Tryz.f21, hlt, hlt', hx, hxe, wrap_small hbd, hcl, hsz, hset, hxl, hxo.plain, her, hh, ho, ha]
    exact ih N (i + 1) _ _ _ _ _ _ _ _ _ _ _ _ _ _ _ _ _ _ _ (by omega) (by omega)
theorem tof21 (call : FuncId → List AV → Option AV)
    (hc45 : ∀ x, OkL lay94 x → call 45 [.agg x] = some (.agg (x.map ex1)))
    {es : List (List AV)} (he : OkR lay94 es) : ∃ m, evBody Tryz.prog call m Tryz.f21 [.sl .sh es] = some (.sl .ex es) := by
  refine ⟨es.length + 1, ?_⟩
  apply ends_eq
  rw [ev_body (c := _) rfl]
  rw [show entry Tryz.f21 [.sl .sh es] = { s := [.sl .sh es, .undef, .undef, .undef, .undef, .undef, .undef, .undef, .undef, .undef, .undef, .undef, .undef, .undef, .undef, .undef, .undef, .undef, .undef, .undef, .undef, .undef, .undef], live := fun _ _ => none } from rfl]
  have hL : ∀ b, b ≤ 65536 → es.length * b ≤ LIM := fun b hb => by have := Nat.mul_le_mul he.1 hb; unfold LIM; omega
  have hL1 : es.length ≤ LIM := by simpa using hL 1 (by omega)
  have hM : es.length ≤ maxLen := by have := he.1; unfold maxLen; omega
  have hlen : ∀ r ∈ es, r.length = 11 := fun r hr => (he.2 r hr).1
  have hfl := flat_len hlen
  have hch := chop_flat hlen
  have hz := filled_zero [.lit (.int .i64 0), .lit (.string { data := #[] }), .lit (.bool false), .lit (.bool false), .lit (.int .i64 0), .lit (.bool false), .lit (.string { data := #[] }), .lit (.string { data := #[] }), .lit (.string { data := #[] }), .sl .ex [], .sl .ex []] es
  simp -dsimp [Tryz.f21, hL, hL1, hM, ← hz]
  refine tol21 call _ hc45 rfl he (fun lv u4 u1 u5 u6 u8 u9 u10 u11 u12 u13 u14 u15 u16 u17 u18 u19 u20 u21 u22 => ?_) es.length _ 0 _ _ _ _ _ _ _ _ _ _ _ _ _ _ _ _ _ _ _ (by omega) (by omega)
  simp -dsimp [Tryz.f21, filled_end, filled_plain he, hfl, hch]
theorem tol40 (call : FuncId → List AV → Option AV) (m : Nat)
    {c : Code} (hcd : c = loopIn Tryz.f40 0) {es : List (List AV)} (he : OkR lay9 es) {F : Ex × Env → Prop} (h1 : ∀ (lv : Nat → Nat → Option Nat) (u4 u1 u5 u6 u8 u9 u10 u11 u12 u13 u14 u15 u16 u17 u18 u19 u20 u21 : AV), F (.exit 0, { s := [.sl .sh es, u1, .sl .ex [], .mrow 7 es.length 1, u4, u5, u6, .row es.length 1 (filled [.lit (.string { data := #[] })] es es.length), u8, u9, u10, u11, u12, u13, u14, u15, u16, u17, u18, u19, u20, u21], live := lv })) :
    ∀ (k N i : Nat) (lv : Nat → Nat → Option Nat) (u1 u5 u6 u8 u9 u10 u11 u12 u13 u14 u15 u16 u17 u18 u19 u20 u21 : AV), k < N → k + i = es.length →
      Ends (evLoop (evCode Tryz.prog call m c) N { s := [.sl .sh es, u1, .sl .ex [], .mrow 7 es.length 1, .lit (.int .i64 (i : Int)), u5, u6, .row es.length 1 (filled [.lit (.string { data := #[] })] es i), u8, u9, u10, u11, u12, u13, u14, u15, u16, u17, u18, u19, u20, u21], live := lv }) F := by
  have hlen : ∀ r ∈ es, r.length = 1 := fun r hr => (he.2 r hr).1
  intro k
  induction k with
  | zero =>
    intro N i lv u1 u5 u6 u8 u9 u10 u11 u12 u13 u14 u15 u16 u17 u18 u19 u20 u21 hN hk
    obtain ⟨N, rfl⟩ : ∃ N', N = N' + 1 := ⟨N - 1, by omega⟩
    have hi : i = es.length := by omega
    subst hi
    rw [ev_turn hcd]
    simp -dsimp [Tryz.f40]
    exact h1 _ _ _ _ _ _ _ _ _ _ _ _ _ _ _ _ _ _ _
  | succ k ih =>
    intro N i lv u1 u5 u6 u8 u9 u10 u11 u12 u13 u14 u15 u16 u17 u18 u19 u20 u21 hN hk
    obtain ⟨N, rfl⟩ : ∃ N', N = N' + 1 := ⟨N - 1, by omega⟩
    obtain ⟨x, hx, hxo, hxt⟩ := he.get (i := i) (by omega)
    have hlt : ((i : Int) < (es.length : Int)) := by omega
    have hlt' : i < es.length := by omega
    have hbd : i < 9223372036854775807 := by have := he.1; omega
    have hsz : i * 1 + 1 ≤ (filled [.lit (.string { data := #[] })] es i).length := by rw [filled_length (s := 1) (by omega) rfl hlen]; omega
    have hset := filled_set (z := [.lit (.string { data := #[] })]) (s := 1) hx rfl hlen
    have hxe : es[i]'hlt' = x := by have := List.getElem?_eq_getElem hlt'; rw [hx] at this; exact (Option.some.inj this).symm
    have hcl : ∀ k, (filled [.lit (.string { data := #[] })] es i).map (clean1 k) = filled [.lit (.string { data := #[] })] es i := fun k => filled_clean k i rfl he.2
    obtain ⟨c, r, rfl, hc, ty0⟩ := hxo.cons_inv
    obtain ⟨y0, rfl, wy0⟩ := hc.str_inv
    have := ty0.nil_inv; subst this
    simp only [List.map_cons, List.map_nil, ex1, Nat.mul_one] at hset
    simp only [Nat.mul_one] at hsz
    rw [ev_turn hcd]
    simp -dsimp [Tryz.f40, hlt, hlt', hx, hxe, wrap_small hbd, hcl, hsz, hset]
    exact ih N (i + 1) _ _ _ _ _ _ _ _ _ _ _ _ _ _ _ _ _ _ (by omega) (by omega)
theorem tof40 (call : FuncId → List AV → Option AV)
    {es : List (List AV)} (he : OkR lay9 es) : ∃ m, evBody Tryz.prog call m Tryz.f40 [.sl .sh es] = some (.sl .ex es) := by
  refine ⟨es.length + 1, ?_⟩
  apply ends_eq
  rw [ev_body (c := _) rfl]
  rw [show entry Tryz.f40 [.sl .sh es] = { s := [.sl .sh es, .undef, .undef, .undef, .undef, .undef, .undef, .undef, .undef, .undef, .undef, .undef, .undef, .undef, .undef, .undef, .undef, .undef, .undef, .undef, .undef, .undef], live := fun _ _ => none } from rfl]
  have hL : ∀ b, b ≤ 65536 → es.length * b ≤ LIM := fun b hb => by have := Nat.mul_le_mul he.1 hb; unfold LIM; omega
  have hL1 : es.length ≤ LIM := by simpa using hL 1 (by omega)
  have hM : es.length ≤ maxLen := by have := he.1; unfold maxLen; omega
  have hlen : ∀ r ∈ es, r.length = 1 := fun r hr => (he.2 r hr).1
  have hfl := flat_len hlen
  have hch := chop_flat hlen
  have hz := filled_zero [.lit (.string { data := #[] })] es
  simp only [List.flatten_replicate_singleton] at hz
  simp -dsimp [Tryz.f40, hL, hL1, hM, ← hz]
  refine tol40 call _  rfl he (fun lv u4 u1 u5 u6 u8 u9 u10 u11 u12 u13 u14 u15 u16 u17 u18 u19 u20 u21 => ?_) es.length _ 0 _ _ _ _ _ _ _ _ _ _ _ _ _ _ _ _ _ _ (by omega) (by omega)
  simp -dsimp [Tryz.f40, filled_end, filled_plain he, hfl, hch]
theorem tof41 (call : FuncId → List AV → Option AV) (m : Nat)
    {x : List AV} (hx : OkL lay24 x) : evBody Tryz.prog call m Tryz.f41 [.agg x] = some (.agg (x.map ex1)) := by
  obtain ⟨c, r, rfl, hc, tx0⟩ := hx.cons_inv
  obtain ⟨x0, rfl, wx0⟩ := hc.int_inv
  obtain ⟨c, r, rfl, hc, tx1⟩ := tx0.cons_inv
  obtain ⟨x1, rfl, wx1⟩ := hc.int_inv
  obtain ⟨c, r, rfl, hc, tx2⟩ := tx1.cons_inv
  obtain ⟨x2, rfl, wx2⟩ := hc.int_inv
  have := tx2.nil_inv; subst this
  apply ends_eq
  rw [ev_body (c := _) rfl]
  rw [show entry Tryz.f41 [.agg [.lit (.int .i64 x0), .lit (.int .i64 x1), .lit (.int .i64 x2)]] = { s := [.agg [.lit (.int .i64 x0), .lit (.int .i64 x1), .lit (.int .i64 x2)], .undef, .undef, .undef, .undef, .undef, .undef, .undef, .undef, .undef, .undef, .undef, .undef, .undef], live := fun _ _ => none } from rfl]
  simp -dsimp [Tryz.f41, setCells, wx0, wx1, wx2]
theorem tof42 (call : FuncId → List AV → Option AV) (m : Nat)
    {x : List AV} (hx : OkL lay26 x) : evBody Tryz.prog call m Tryz.f42 [.agg x] = some (.agg (x.map ex1)) := by
  obtain ⟨c, r, rfl, hc, tx0⟩ := hx.cons_inv
  obtain ⟨x0, rfl, wx0⟩ := hc.int_inv
  obtain ⟨c, r, rfl, hc, tx1⟩ := tx0.cons_inv
  obtain ⟨x1, rfl, wx1⟩ := hc.int_inv
  obtain ⟨c, r, rfl, hc, tx2⟩ := tx1.cons_inv
  obtain ⟨x2, rfl, wx2⟩ := hc.int_inv
  obtain ⟨c, r, rfl, hc, tx3⟩ := tx2.cons_inv
  obtain ⟨x3, rfl, wx3⟩ := hc.int_inv
  obtain ⟨c, r, rfl, hc, tx4⟩ := tx3.cons_inv
  obtain ⟨x4, rfl, wx4⟩ := hc.int_inv
  have := tx4.nil_inv; subst this
  apply ends_eq
  rw [ev_body (c := _) rfl]
  rw [show entry Tryz.f42 [.agg [.lit (.int .i64 x0), .lit (.int .i64 x1), .lit (.int .i64 x2), .lit (.int .i64 x3), .lit (.int .i64 x4)]] = { s := [.agg [.lit (.int .i64 x0), .lit (.int .i64 x1), .lit (.int .i64 x2), .lit (.int .i64 x3), .lit (.int .i64 x4)], .undef, .undef, .undef, .undef, .undef, .undef, .undef, .undef, .undef, .undef, .undef, .undef, .undef, .undef, .undef, .undef, .undef, .undef, .undef], live := fun _ _ => none } from rfl]
  simp -dsimp [Tryz.f42, setCells, wx0, wx1, wx2, wx3, wx4]
theorem tol43 (call : FuncId → List AV → Option AV) (m : Nat)
    (hc66 : ∀ x, OkL lay128 x → call 66 [.agg x] = some (.agg (x.map ex1)))
    {c : Code} (hcd : c = loopIn Tryz.f43 0) {es : List (List AV)} (he : OkR lay128 es) {F : Ex × Env → Prop} (h1 : ∀ (lv : Nat → Nat → Option Nat) (u4 u1 u5 u6 u8 u9 u10 u11 u12 u13 u14 u15 u16 u17 u18 u19 u20 u21 u22 : AV), F (.exit 0, { s := [.sl .sh es, u1, .sl .ex [], .mrow 7 es.length 13, u4, u5, u6, .row es.length 13 (filled [.lit (.string { data := #[] }), .lit (.int .i64 0), .sl .ex [], .sl .ex [], .lit (.int .i64 0), .lit (.int .i64 0), .lit (.int .i64 0), .lit (.int .i64 0), .lit (.int .i64 0), .lit (.bool false), .lit (.bool false), .sl .ex [], .lit (.int .i64 0)] es es.length), u8, u9, u10, u11, u12, u13, u14, u15, u16, u17, u18, u19, u20, u21, u22], live := lv })) :
    ∀ (k N i : Nat) (lv : Nat → Nat → Option Nat) (u1 u5 u6 u8 u9 u10 u11 u12 u13 u14 u15 u16 u17 u18 u19 u20 u21 u22 : AV), k < N → k + i = es.length →
      Ends (evLoop (evCode Tryz.prog call m c) N { s := [.sl .sh es, u1, .sl .ex [], .mrow 7 es.length 13, .lit (.int .i64 (i : Int)), u5, u6, .row es.length 13 (filled [.lit (.string { data := #[] }), .lit (.int .i64 0), .sl .ex [], .sl .ex [], .lit (.int .i64 0), .lit (.int .i64 0), .lit (.int .i64 0), .lit (.int .i64 0), .lit (.int .i64 0), .lit (.bool false), .lit (.bool false), .sl .ex [], .lit (.int .i64 0)] es i), u8, u9, u10, u11, u12, u13, u14, u15, u16, u17, u18, u19, u20, u21, u22], live := lv }) F := by
  have hlen : ∀ r ∈ es, r.length = 13 := fun r hr => (he.2 r hr).1
  intro k
  induction k with
  | zero =>
    intro N i lv u1 u5 u6 u8 u9 u10 u11 u12 u13 u14 u15 u16 u17 u18 u19 u20 u21 u22 hN hk
    obtain ⟨N, rfl⟩ : ∃ N', N = N' + 1 := ⟨N - 1, by omega⟩
    have hi : i = es.length := by omega
    subst hi
    rw [ev_turn hcd]
    simp -dsimp [Tryz.f43]
    exact h1 _ _ _ _ _ _ _ _ _ _ _ _ _ _ _ _ _ _ _ _
  | succ k ih =>
    intro N i lv u1 u5 u6 u8 u9 u10 u11 u12 u13 u14 u15 u16 u17 u18 u19 u20 u21 u22 hN hk
    obtain ⟨N, rfl⟩ : ∃ N', N = N' + 1 := ⟨N - 1, by omega⟩
    obtain ⟨x, hx, hxo, hxt⟩ := he.get (i := i) (by omega)
    have hlt : ((i : Int) < (es.length : Int)) := by omega
    have hlt' : i < es.length := by omega
    have hbd : i < 9223372036854775807 := by have := he.1; omega
    have hsz : i * 13 + 13 ≤ (filled [.lit (.string { data := #[] }), .lit (.int .i64 0), .sl .ex [], .sl .ex [], .lit (.int .i64 0), .lit (.int .i64 0), .lit (.int .i64 0), .lit (.int .i64 0), .lit (.int .i64 0), .lit (.bool false), .lit (.bool false), .sl .ex [], .lit (.int .i64 0)] es i).length := by rw [filled_length (s := 13) (by omega) rfl hlen]; omega
    have hset := filled_set (z := [.lit (.string { data := #[] }), .lit (.int .i64 0), .sl .ex [], .sl .ex [], .lit (.int .i64 0), .lit (.int .i64 0), .lit (.int .i64 0), .lit (.int .i64 0), .lit (.int .i64 0), .lit (.bool false), .lit (.bool false), .sl .ex [], .lit (.int .i64 0)]) (s := 13) hx rfl hlen
    have hxe : es[i]'hlt' = x := by have := List.getElem?_eq_getElem hlt'; rw [hx] at this; exact (Option.some.inj this).symm
    have hcl : ∀ k, (filled [.lit (.string { data := #[] }), .lit (.int .i64 0), .sl .ex [], .sl .ex [], .lit (.int .i64 0), .lit (.int .i64 0), .lit (.int .i64 0), .lit (.int .i64 0), .lit (.int .i64 0), .lit (.bool false), .lit (.bool false), .sl .ex [], .lit (.int .i64 0)] es i).map (clean1 k) = filled [.lit (.string { data := #[] }), .lit (.int .i64 0), .sl .ex [], .sl .ex [], .lit (.int .i64 0), .lit (.int .i64 0), .lit (.int .i64 0), .lit (.int .i64 0), .lit (.int .i64 0), .lit (.bool false), .lit (.bool false), .sl .ex [], .lit (.int .i64 0)] es i := fun k => filled_clean k i rfl he.2
    have hxl : x.length = 13 := hxo.1
    have her := hc66 x hxo
    have hh := hxo.ex_home 20
    have ho := hxo.ex_owned
    have ha := hxo.ex_all
    simp only [List.all_map] at ha
    simp only [List.map_map] at hh
    skip
    rw [ev_turn hcd]
    simp -dsimp [Tryz.f43, hlt, hlt', hx, hxe, wrap_small hbd, hcl, hsz, hset, hxl, hxo.plain, her, hh, ho, ha]
    exact ih N (i + 1) _ _ _ _ _ _ _ _ _ _ _ _ _ _ _ _ _ _ _ (by omega) (by omega)
theorem tof43 (call : FuncId → List AV → Option AV)
    (hc66 : ∀ x, OkL lay128 x → call 66 [.agg x] = some (.agg (x.map ex1)))
    {es : List (List AV)} (he : OkR lay128 es) : ∃ m, evBody Tryz.prog call m Tryz.f43 [.sl .sh es] = some (.sl .ex es) := by
  refine ⟨es.length + 1, ?_⟩
  apply ends_eq
  rw [ev_body (c := _) rfl]
  rw [show entry Tryz.f43 [.sl .sh es] = { s := [.sl .sh es, .undef, .undef, .undef, .undef, .undef, .undef, .undef, .undef, .undef, .undef, .undef, .undef, .undef, .undef, .undef, .undef, .undef, .undef, .undef, .undef, .undef, .undef], live := fun _ _ => none } from rfl]
  have hL : ∀ b, b ≤ 65536 → es.length * b ≤ LIM := fun b hb => by have := Nat.mul_le_mul he.1 hb; unfold LIM; omega
  have hL1 : es.length ≤ LIM := by simpa using hL 1 (by omega)
  have hM : es.length ≤ maxLen := by have := he.1; unfold maxLen; omega
  have hlen : ∀ r ∈ es, r.length = 13 := fun r hr => (he.2 r hr).1
  have hfl := flat_len hlen
  have hch := chop_flat hlen
  have hz := filled_zero [.lit (.string { data := #[] }), .lit (.int .i64 0), .sl .ex [], .sl .ex [], .lit (.int .i64 0), .lit (.int .i64 0), .lit (.int .i64 0), .lit (.int .i64 0), .lit (.int .i64 0), .lit (.bool false), .lit (.bool false), .sl .ex [], .lit (.int .i64 0)] es
  simp -dsimp [Tryz.f43, hL, hL1, hM, ← hz]
  refine tol43 call _ hc66 rfl he (fun lv u4 u1 u5 u6 u8 u9 u10 u11 u12 u13 u14 u15 u16 u17 u18 u19 u20 u21 u22 => ?_) es.length _ 0 _ _ _ _ _ _ _ _ _ _ _ _ _ _ _ _ _ _ _ (by omega) (by omega)
  simp -dsimp [Tryz.f43, filled_end, filled_plain he, hfl, hch]
theorem tof44 (call : FuncId → List AV → Option AV) (m : Nat)
    (hc67 : ∀ x, OkL lay82 x → call 67 [.agg x] = some (.agg (x.map ex1)))
    (hc68 : ∀ x, OkL lay85 x → call 68 [.agg x] = some (.agg (x.map ex1)))
    {x : List AV} (hx : OkL lay87 x) : evBody Tryz.prog call m Tryz.f44 [.agg x] = some (.agg (x.map ex1)) := by
  obtain ⟨c, r, rfl, hc, tx0⟩ := hx.cons_inv
  obtain ⟨x0, rfl, wx0⟩ := hc.str_inv
  obtain ⟨c, r, rfl, hc, tx1⟩ := tx0.cons_inv
  obtain ⟨x1, rfl, wx1⟩ := hc.int_inv
  obtain ⟨c, r, rfl, hc, tx2⟩ := tx1.cons_inv
  obtain ⟨x2, rfl, wx2⟩ := hc.sl_inv
  obtain ⟨c, r, rfl, hc, tx3⟩ := tx2.cons_inv
  obtain ⟨x3, rfl, wx3⟩ := hc.int_inv
  obtain ⟨c, r, rfl, hc, tx4⟩ := tx3.cons_inv
  obtain ⟨x4, rfl, wx4⟩ := hc.int_inv
  obtain ⟨c, r, rfl, hc, tx5⟩ := tx4.cons_inv
  obtain ⟨x5, rfl, wx5⟩ := hc.int_inv
  obtain ⟨c, r, rfl, hc, tx6⟩ := tx5.cons_inv
  obtain ⟨x6, rfl, wx6⟩ := hc.sl_inv
  have := tx6.nil_inv; subst this
  apply ends_eq
  rw [ev_body (c := _) rfl]
  rw [show entry Tryz.f44 [.agg [.lit (.string x0), .lit (.int .i64 x1), .sl .sh x2, .lit (.int .i64 x3), .lit (.int .i64 x4), .lit (.int .i64 x5), .sl .sh x6]] = { s := [.agg [.lit (.string x0), .lit (.int .i64 x1), .sl .sh x2, .lit (.int .i64 x3), .lit (.int .i64 x4), .lit (.int .i64 x5), .sl .sh x6], .undef, .undef, .undef, .undef, .undef, .undef, .undef, .undef, .undef, .undef, .undef, .undef, .undef, .undef, .undef], live := fun _ _ => none } from rfl]
  simp -dsimp [Tryz.f44, setCells, hc67, hc68, wx0, wx1, wx2, wx3, wx4, wx5, wx6]
theorem tof45 (call : FuncId → List AV → Option AV) (m : Nat)
    (hc69 : ∀ x, OkL lay91 x → call 69 [.agg x] = some (.agg (x.map ex1)))
    (hc70 : ∀ x, OkR lay159 x → call 70 [.sl .sh x] = some (.sl .ex x))
    {x : List AV} (hx : OkL lay94 x) : evBody Tryz.prog call m Tryz.f45 [.agg x] = some (.agg (x.map ex1)) := by
  obtain ⟨c, r, rfl, hc, tx0⟩ := hx.cons_inv
  obtain ⟨x0, rfl, wx0⟩ := hc.int_inv
  obtain ⟨c, r, rfl, hc, tx1⟩ := tx0.cons_inv
  obtain ⟨x1, rfl, wx1⟩ := hc.str_inv
  obtain ⟨c, r, rfl, hc, tx2⟩ := tx1.cons_inv
  obtain ⟨x2, rfl⟩ := hc.bool_inv
  obtain ⟨c, r, rfl, hc, tx3⟩ := tx2.cons_inv
  obtain ⟨x3, rfl⟩ := hc.bool_inv
  obtain ⟨c, r, rfl, hc, tx4⟩ := tx3.cons_inv
  obtain ⟨x4, rfl, wx4⟩ := hc.int_inv
  obtain ⟨c, r, rfl, hc, tx5⟩ := tx4.cons_inv
  obtain ⟨x5, rfl⟩ := hc.bool_inv
  obtain ⟨c, r, rfl, hc, tx6⟩ := tx5.cons_inv
  obtain ⟨x6, rfl, wx6⟩ := hc.str_inv
  obtain ⟨c, r, rfl, hc, tx7⟩ := tx6.cons_inv
  obtain ⟨x7, rfl, wx7⟩ := hc.str_inv
  obtain ⟨c, r, rfl, hc, tx8⟩ := tx7.cons_inv
  obtain ⟨x8, rfl, wx8⟩ := hc.str_inv
  obtain ⟨c, r, rfl, hc, tx9⟩ := tx8.cons_inv
  obtain ⟨x9, rfl, wx9⟩ := hc.sl_inv
  obtain ⟨c, r, rfl, hc, tx10⟩ := tx9.cons_inv
  obtain ⟨x10, rfl, wx10⟩ := hc.sl_inv
  have := tx10.nil_inv; subst this
  apply ends_eq
  rw [ev_body (c := _) rfl]
  rw [show entry Tryz.f45 [.agg [.lit (.int .i64 x0), .lit (.string x1), .lit (.bool x2), .lit (.bool x3), .lit (.int .i64 x4), .lit (.bool x5), .lit (.string x6), .lit (.string x7), .lit (.string x8), .sl .sh x9, .sl .sh x10]] = { s := [.agg [.lit (.int .i64 x0), .lit (.string x1), .lit (.bool x2), .lit (.bool x3), .lit (.int .i64 x4), .lit (.bool x5), .lit (.string x6), .lit (.string x7), .lit (.string x8), .sl .sh x9, .sl .sh x10], .undef, .undef, .undef, .undef, .undef, .undef, .undef, .undef, .undef, .undef, .undef, .undef, .undef, .undef, .undef, .undef, .undef, .undef, .undef, .undef, .undef, .undef, .undef, .undef, .undef, .undef, .undef, .undef, .undef, .undef], live := fun _ _ => none } from rfl]
  simp -dsimp [Tryz.f45, setCells, hc69, hc70, wx0, wx1, wx4, wx6, wx7, wx8, wx9, wx10]
theorem tof66 (call : FuncId → List AV → Option AV) (m : Nat)
    (hc86 : ∀ x, OkR lay163 x → call 86 [.sl .sh x] = some (.sl .ex x))
    (hc87 : ∀ x, OkR lay5 x → call 87 [.sl .sh x] = some (.sl .ex x))
    (hc88 : ∀ x, OkL lay126 x → call 88 [.agg x] = some (.agg (x.map ex1)))
    (hc40 : ∀ x, OkR lay9 x → call 40 [.sl .sh x] = some (.sl .ex x))
    {x : List AV} (hx : OkL lay128 x) : evBody Tryz.prog call m Tryz.f66 [.agg x] = some (.agg (x.map ex1)) := by
  obtain ⟨c, r, rfl, hc, tx0⟩ := hx.cons_inv
  obtain ⟨x0, rfl, wx0⟩ := hc.str_inv
  obtain ⟨c, r, rfl, hc, tx1⟩ := tx0.cons_inv
  obtain ⟨x1, rfl, wx1⟩ := hc.int_inv
  obtain ⟨c, r, rfl, hc, tx2⟩ := tx1.cons_inv
  obtain ⟨x2, rfl, wx2⟩ := hc.sl_inv
  obtain ⟨c, r, rfl, hc, tx3⟩ := tx2.cons_inv
  obtain ⟨x3, rfl, wx3⟩ := hc.sl_inv
  obtain ⟨c, r, rfl, hc, tx4⟩ := tx3.cons_inv
  obtain ⟨x4, rfl, wx4⟩ := hc.int_inv
  obtain ⟨c, r, rfl, hc, tx5⟩ := tx4.cons_inv
  obtain ⟨x5, rfl, wx5⟩ := hc.int_inv
  obtain ⟨c, r, rfl, hc, tx6⟩ := tx5.cons_inv
  obtain ⟨x6, rfl, wx6⟩ := hc.int_inv
  obtain ⟨c, r, rfl, hc, tx7⟩ := tx6.cons_inv
  obtain ⟨x7, rfl, wx7⟩ := hc.int_inv
  obtain ⟨c, r, rfl, hc, tx8⟩ := tx7.cons_inv
  obtain ⟨x8, rfl, wx8⟩ := hc.int_inv
  obtain ⟨c, r, rfl, hc, tx9⟩ := tx8.cons_inv
  obtain ⟨x9, rfl⟩ := hc.bool_inv
  obtain ⟨c, r, rfl, hc, tx10⟩ := tx9.cons_inv
  obtain ⟨x10, rfl⟩ := hc.bool_inv
  obtain ⟨c, r, rfl, hc, tx11⟩ := tx10.cons_inv
  obtain ⟨x11, rfl, wx11⟩ := hc.sl_inv
  obtain ⟨c, r, rfl, hc, tx12⟩ := tx11.cons_inv
  obtain ⟨x12, rfl, wx12⟩ := hc.int_inv
  have := tx12.nil_inv; subst this
  apply ends_eq
  rw [ev_body (c := _) rfl]
  rw [show entry Tryz.f66 [.agg [.lit (.string x0), .lit (.int .i64 x1), .sl .sh x2, .sl .sh x3, .lit (.int .i64 x4), .lit (.int .i64 x5), .lit (.int .i64 x6), .lit (.int .i64 x7), .lit (.int .i64 x8), .lit (.bool x9), .lit (.bool x10), .sl .sh x11, .lit (.int .i64 x12)]] = { s := [.agg [.lit (.string x0), .lit (.int .i64 x1), .sl .sh x2, .sl .sh x3, .lit (.int .i64 x4), .lit (.int .i64 x5), .lit (.int .i64 x6), .lit (.int .i64 x7), .lit (.int .i64 x8), .lit (.bool x9), .lit (.bool x10), .sl .sh x11, .lit (.int .i64 x12)], .undef, .undef, .undef, .undef, .undef, .undef, .undef, .undef, .undef, .undef, .undef, .undef, .undef, .undef, .undef, .undef, .undef, .undef, .undef, .undef, .undef, .undef, .undef, .undef, .undef, .undef, .undef, .undef, .undef], live := fun _ _ => none } from rfl]
  simp -dsimp [Tryz.f66, setCells, hc86, hc87, hc88, hc40, wx0, wx1, wx2, wx3, wx4, wx5, wx6, wx7, wx8, wx11, wx12]
theorem tof67 (call : FuncId → List AV → Option AV) (m : Nat)
    (hc89 : ∀ x, OkR lay166 x → call 89 [.sl .sh x] = some (.sl .ex x))
    {x : List AV} (hx : OkL lay82 x) : evBody Tryz.prog call m Tryz.f67 [.agg x] = some (.agg (x.map ex1)) := by
  obtain ⟨c, r, rfl, hc, tx0⟩ := hx.cons_inv
  obtain ⟨x0, rfl, wx0⟩ := hc.int_inv
  obtain ⟨c, r, rfl, hc, tx1⟩ := tx0.cons_inv
  obtain ⟨x1, rfl, wx1⟩ := hc.sl_inv
  have := tx1.nil_inv; subst this
  apply ends_eq
  rw [ev_body (c := _) rfl]
  rw [show entry Tryz.f67 [.agg [.lit (.int .i64 x0), .sl .sh x1]] = { s := [.agg [.lit (.int .i64 x0), .sl .sh x1], .undef, .undef, .undef, .undef, .undef, .undef, .undef, .undef, .undef, .undef, .undef], live := fun _ _ => none } from rfl]
  simp -dsimp [Tryz.f67, setCells, hc89, wx0, wx1]
theorem tof68 (call : FuncId → List AV → Option AV) (m : Nat)
    (hc90 : ∀ x, OkR lay168 x → call 90 [.sl .sh x] = some (.sl .ex x))
    {x : List AV} (hx : OkL lay85 x) : evBody Tryz.prog call m Tryz.f68 [.agg x] = some (.agg (x.map ex1)) := by
  obtain ⟨c, r, rfl, hc, tx0⟩ := hx.cons_inv
  obtain ⟨x0, rfl, wx0⟩ := hc.int_inv
  obtain ⟨c, r, rfl, hc, tx1⟩ := tx0.cons_inv
  obtain ⟨x1, rfl, wx1⟩ := hc.int_inv
  obtain ⟨c, r, rfl, hc, tx2⟩ := tx1.cons_inv
  obtain ⟨x2, rfl, wx2⟩ := hc.int_inv
  obtain ⟨c, r, rfl, hc, tx3⟩ := tx2.cons_inv
  obtain ⟨x3, rfl, wx3⟩ := hc.sl_inv
  have := tx3.nil_inv; subst this
  apply ends_eq
  rw [ev_body (c := _) rfl]
  rw [show entry Tryz.f68 [.agg [.lit (.int .i64 x0), .lit (.int .i64 x1), .lit (.int .i64 x2), .sl .sh x3]] = { s := [.agg [.lit (.int .i64 x0), .lit (.int .i64 x1), .lit (.int .i64 x2), .sl .sh x3], .undef, .undef, .undef, .undef, .undef, .undef, .undef, .undef, .undef, .undef, .undef, .undef, .undef, .undef, .undef, .undef, .undef], live := fun _ _ => none } from rfl]
  simp -dsimp [Tryz.f68, setCells, hc90, wx0, wx1, wx2, wx3]
theorem tof69 (call : FuncId → List AV → Option AV) (m : Nat)
    (hc86 : ∀ x, OkR lay163 x → call 86 [.sl .sh x] = some (.sl .ex x))
    {x : List AV} (hx : OkL lay91 x) : evBody Tryz.prog call m Tryz.f69 [.agg x] = some (.agg (x.map ex1)) := by
  obtain ⟨c, r, rfl, hc, tx0⟩ := hx.cons_inv
  obtain ⟨x0, rfl, wx0⟩ := hc.str_inv
  obtain ⟨c, r, rfl, hc, tx1⟩ := tx0.cons_inv
  obtain ⟨x1, rfl, wx1⟩ := hc.str_inv
  obtain ⟨c, r, rfl, hc, tx2⟩ := tx1.cons_inv
  obtain ⟨x2, rfl, wx2⟩ := hc.str_inv
  obtain ⟨c, r, rfl, hc, tx3⟩ := tx2.cons_inv
  obtain ⟨x3, rfl, wx3⟩ := hc.sl_inv
  have := tx3.nil_inv; subst this
  apply ends_eq
  rw [ev_body (c := _) rfl]
  rw [show entry Tryz.f69 [.agg [.lit (.string x0), .lit (.string x1), .lit (.string x2), .sl .sh x3]] = { s := [.agg [.lit (.string x0), .lit (.string x1), .lit (.string x2), .sl .sh x3], .undef, .undef, .undef, .undef, .undef, .undef, .undef, .undef, .undef, .undef, .undef, .undef, .undef, .undef, .undef, .undef, .undef], live := fun _ _ => none } from rfl]
  simp -dsimp [Tryz.f69, setCells, hc86, wx0, wx1, wx2, wx3]
theorem tol70 (call : FuncId → List AV → Option AV) (m : Nat)
    (hc91 : ∀ x, OkL lay159 x → call 91 [.agg x] = some (.agg (x.map ex1)))
    {c : Code} (hcd : c = loopIn Tryz.f70 0) {es : List (List AV)} (he : OkR lay159 es) {F : Ex × Env → Prop} (h1 : ∀ (lv : Nat → Nat → Option Nat) (u4 u1 u5 u6 u8 u9 u10 u11 u12 u13 u14 u15 u16 u17 u18 u19 u20 u21 u22 : AV), F (.exit 0, { s := [.sl .sh es, u1, .sl .ex [], .mrow 7 es.length 4, u4, u5, u6, .row es.length 4 (filled [.lit (.int .i64 0), .lit (.bool false), .lit (.int .i64 0), .lit (.bool false)] es es.length), u8, u9, u10, u11, u12, u13, u14, u15, u16, u17, u18, u19, u20, u21, u22], live := lv })) :
    ∀ (k N i : Nat) (lv : Nat → Nat → Option Nat) (u1 u5 u6 u8 u9 u10 u11 u12 u13 u14 u15 u16 u17 u18 u19 u20 u21 u22 : AV), k < N → k + i = es.length →
      Ends (evLoop (evCode Tryz.prog call m c) N { s := [.sl .sh es, u1, .sl .ex [], .mrow 7 es.length 4, .lit (.int .i64 (i : Int)), u5, u6, .row es.length 4 (filled [.lit (.int .i64 0), .lit (.bool false), .lit (.int .i64 0), .lit (.bool false)] es i), u8, u9, u10, u11, u12, u13, u14, u15, u16, u17, u18, u19, u20, u21, u22], live := lv }) F := by
  have hlen : ∀ r ∈ es, r.length = 4 := fun r hr => (he.2 r hr).1
  intro k
  induction k with
  | zero =>
    intro N i lv u1 u5 u6 u8 u9 u10 u11 u12 u13 u14 u15 u16 u17 u18 u19 u20 u21 u22 hN hk
    obtain ⟨N, rfl⟩ : ∃ N', N = N' + 1 := ⟨N - 1, by omega⟩
    have hi : i = es.length := by omega
    subst hi
    rw [ev_turn hcd]
    simp -dsimp [Tryz.f70]
    exact h1 _ _ _ _ _ _ _ _ _ _ _ _ _ _ _ _ _ _ _ _
  | succ k ih =>
    intro N i lv u1 u5 u6 u8 u9 u10 u11 u12 u13 u14 u15 u16 u17 u18 u19 u20 u21 u22 hN hk
    obtain ⟨N, rfl⟩ : ∃ N', N = N' + 1 := ⟨N - 1, by omega⟩
    obtain ⟨x, hx, hxo, hxt⟩ := he.get (i := i) (by omega)
    have hlt : ((i : Int) < (es.length : Int)) := by omega
    have hlt' : i < es.length := by omega
    have hbd : i < 9223372036854775807 := by have := he.1; omega
    have hsz : i * 4 + 4 ≤ (filled [.lit (.int .i64 0), .lit (.bool false), .lit (.int .i64 0), .lit (.bool false)] es i).length := by rw [filled_length (s := 4) (by omega) rfl hlen]; omega
    have hset := filled_set (z := [.lit (.int .i64 0), .lit (.bool false), .lit (.int .i64 0), .lit (.bool false)]) (s := 4) hx rfl hlen
    have hxe : es[i]'hlt' = x := by have := List.getElem?_eq_getElem hlt'; rw [hx] at this; exact (Option.some.inj this).symm
    have hcl : ∀ k, (filled [.lit (.int .i64 0), .lit (.bool false), .lit (.int .i64 0), .lit (.bool false)] es i).map (clean1 k) = filled [.lit (.int .i64 0), .lit (.bool false), .lit (.int .i64 0), .lit (.bool false)] es i := fun k => filled_clean k i rfl he.2
    have hxl : x.length = 4 := hxo.1
    have her := hc91 x hxo
    have hh := hxo.ex_home 20
    have ho := hxo.ex_owned
    have ha := hxo.ex_all
    simp only [List.all_map] at ha
    simp only [List.map_map] at hh
    skip
    rw [ev_turn hcd]
    simp -dsimp [Tryz.f70, hlt, hlt', hx, hxe, wrap_small hbd, hcl, hsz, hset, hxl, hxo.plain, her, hh, ho, ha]
    exact ih N (i + 1) _ _ _ _ _ _ _ _ _ _ _ _ _ _ _ _ _ _ _ (by omega) (by omega)
theorem tof70 (call : FuncId → List AV → Option AV)
    (hc91 : ∀ x, OkL lay159 x → call 91 [.agg x] = some (.agg (x.map ex1)))
    {es : List (List AV)} (he : OkR lay159 es) : ∃ m, evBody Tryz.prog call m Tryz.f70 [.sl .sh es] = some (.sl .ex es) := by
  refine ⟨es.length + 1, ?_⟩
  apply ends_eq
  rw [ev_body (c := _) rfl]
  rw [show entry Tryz.f70 [.sl .sh es] = { s := [.sl .sh es, .undef, .undef, .undef, .undef, .undef, .undef, .undef, .undef, .undef, .undef, .undef, .undef, .undef, .undef, .undef, .undef, .undef, .undef, .undef, .undef, .undef, .undef], live := fun _ _ => none } from rfl]
  have hL : ∀ b, b ≤ 65536 → es.length * b ≤ LIM := fun b hb => by have := Nat.mul_le_mul he.1 hb; unfold LIM; omega
  have hL1 : es.length ≤ LIM := by simpa using hL 1 (by omega)
  have hM : es.length ≤ maxLen := by have := he.1; unfold maxLen; omega
  have hlen : ∀ r ∈ es, r.length = 4 := fun r hr => (he.2 r hr).1
  have hfl := flat_len hlen
  have hch := chop_flat hlen
  have hz := filled_zero [.lit (.int .i64 0), .lit (.bool false), .lit (.int .i64 0), .lit (.bool false)] es
  simp -dsimp [Tryz.f70, hL, hL1, hM, ← hz]
  refine tol70 call _ hc91 rfl he (fun lv u4 u1 u5 u6 u8 u9 u10 u11 u12 u13 u14 u15 u16 u17 u18 u19 u20 u21 u22 => ?_) es.length _ 0 _ _ _ _ _ _ _ _ _ _ _ _ _ _ _ _ _ _ _ (by omega) (by omega)
  simp -dsimp [Tryz.f70, filled_end, filled_plain he, hfl, hch]
theorem tol86 (call : FuncId → List AV → Option AV) (m : Nat)
    (hc99 : ∀ x, OkL lay163 x → call 99 [.agg x] = some (.agg (x.map ex1)))
    {c : Code} (hcd : c = loopIn Tryz.f86 0) {es : List (List AV)} (he : OkR lay163 es) {F : Ex × Env → Prop} (h1 : ∀ (lv : Nat → Nat → Option Nat) (u4 u1 u5 u6 u8 u9 u10 u11 u12 u13 u14 u15 u16 u17 u18 u19 u20 u21 u22 : AV), F (.exit 0, { s := [.sl .sh es, u1, .sl .ex [], .mrow 7 es.length 2, u4, u5, u6, .row es.length 2 (filled [.lit (.string { data := #[] }), .lit (.string { data := #[] })] es es.length), u8, u9, u10, u11, u12, u13, u14, u15, u16, u17, u18, u19, u20, u21, u22], live := lv })) :
    ∀ (k N i : Nat) (lv : Nat → Nat → Option Nat) (u1 u5 u6 u8 u9 u10 u11 u12 u13 u14 u15 u16 u17 u18 u19 u20 u21 u22 : AV), k < N → k + i = es.length →
      Ends (evLoop (evCode Tryz.prog call m c) N { s := [.sl .sh es, u1, .sl .ex [], .mrow 7 es.length 2, .lit (.int .i64 (i : Int)), u5, u6, .row es.length 2 (filled [.lit (.string { data := #[] }), .lit (.string { data := #[] })] es i), u8, u9, u10, u11, u12, u13, u14, u15, u16, u17, u18, u19, u20, u21, u22], live := lv }) F := by
  have hlen : ∀ r ∈ es, r.length = 2 := fun r hr => (he.2 r hr).1
  intro k
  induction k with
  | zero =>
    intro N i lv u1 u5 u6 u8 u9 u10 u11 u12 u13 u14 u15 u16 u17 u18 u19 u20 u21 u22 hN hk
    obtain ⟨N, rfl⟩ : ∃ N', N = N' + 1 := ⟨N - 1, by omega⟩
    have hi : i = es.length := by omega
    subst hi
    rw [ev_turn hcd]
    simp -dsimp [Tryz.f86]
    exact h1 _ _ _ _ _ _ _ _ _ _ _ _ _ _ _ _ _ _ _ _
  | succ k ih =>
    intro N i lv u1 u5 u6 u8 u9 u10 u11 u12 u13 u14 u15 u16 u17 u18 u19 u20 u21 u22 hN hk
    obtain ⟨N, rfl⟩ : ∃ N', N = N' + 1 := ⟨N - 1, by omega⟩
    obtain ⟨x, hx, hxo, hxt⟩ := he.get (i := i) (by omega)
    have hlt : ((i : Int) < (es.length : Int)) := by omega
    have hlt' : i < es.length := by omega
    have hbd : i < 9223372036854775807 := by have := he.1; omega
    have hsz : i * 2 + 2 ≤ (filled [.lit (.string { data := #[] }), .lit (.string { data := #[] })] es i).length := by rw [filled_length (s := 2) (by omega) rfl hlen]; omega
    have hset := filled_set (z := [.lit (.string { data := #[] }), .lit (.string { data := #[] })]) (s := 2) hx rfl hlen
    have hxe : es[i]'hlt' = x := by have := List.getElem?_eq_getElem hlt'; rw [hx] at this; exact (Option.some.inj this).symm
    have hcl : ∀ k, (filled [.lit (.string { data := #[] }), .lit (.string { data := #[] })] es i).map (clean1 k) = filled [.lit (.string { data := #[] }), .lit (.string { data := #[] })] es i := fun k => filled_clean k i rfl he.2
    have hxl : x.length = 2 := hxo.1
    have her := hc99 x hxo
    have hh := hxo.ex_home 20
    have ho := hxo.ex_owned
    have ha := hxo.ex_all
    simp only [List.all_map] at ha
    simp only [List.map_map] at hh
    skip
    rw [ev_turn hcd]
    simp -dsimp [Tryz.f86, hlt, hlt', hx, hxe, wrap_small hbd, hcl, hsz, hset, hxl, hxo.plain, her, hh, ho, ha]
    exact ih N (i + 1) _ _ _ _ _ _ _ _ _ _ _ _ _ _ _ _ _ _ _ (by omega) (by omega)
theorem tof86 (call : FuncId → List AV → Option AV)
    (hc99 : ∀ x, OkL lay163 x → call 99 [.agg x] = some (.agg (x.map ex1)))
    {es : List (List AV)} (he : OkR lay163 es) : ∃ m, evBody Tryz.prog call m Tryz.f86 [.sl .sh es] = some (.sl .ex es) := by
  refine ⟨es.length + 1, ?_⟩
  apply ends_eq
  rw [ev_body (c := _) rfl]
  rw [show entry Tryz.f86 [.sl .sh es] = { s := [.sl .sh es, .undef, .undef, .undef, .undef, .undef, .undef, .undef, .undef, .undef, .undef, .undef, .undef, .undef, .undef, .undef, .undef, .undef, .undef, .undef, .undef, .undef, .undef], live := fun _ _ => none } from rfl]
  have hL : ∀ b, b ≤ 65536 → es.length * b ≤ LIM := fun b hb => by have := Nat.mul_le_mul he.1 hb; unfold LIM; omega
  have hL1 : es.length ≤ LIM := by simpa using hL 1 (by omega)
  have hM : es.length ≤ maxLen := by have := he.1; unfold maxLen; omega
  have hlen : ∀ r ∈ es, r.length = 2 := fun r hr => (he.2 r hr).1
  have hfl := flat_len hlen
  have hch := chop_flat hlen
  have hz := filled_zero [.lit (.string { data := #[] }), .lit (.string { data := #[] })] es
  simp -dsimp [Tryz.f86, hL, hL1, hM, ← hz]
  refine tol86 call _ hc99 rfl he (fun lv u4 u1 u5 u6 u8 u9 u10 u11 u12 u13 u14 u15 u16 u17 u18 u19 u20 u21 u22 => ?_) es.length _ 0 _ _ _ _ _ _ _ _ _ _ _ _ _ _ _ _ _ _ _ (by omega) (by omega)
  simp -dsimp [Tryz.f86, filled_end, filled_plain he, hfl, hch]
theorem tol87 (call : FuncId → List AV → Option AV) (m : Nat)
    {c : Code} (hcd : c = loopIn Tryz.f87 0) {es : List (List AV)} (he : OkR lay5 es) {F : Ex × Env → Prop} (h1 : ∀ (lv : Nat → Nat → Option Nat) (u4 u1 u5 u6 u8 u9 u10 u11 u12 u13 u14 u15 u16 u17 u18 u19 u20 u21 : AV), F (.exit 0, { s := [.sl .sh es, u1, .sl .ex [], .mrow 7 es.length 1, u4, u5, u6, .row es.length 1 (filled [.lit (.int .u8 0)] es es.length), u8, u9, u10, u11, u12, u13, u14, u15, u16, u17, u18, u19, u20, u21], live := lv })) :
    ∀ (k N i : Nat) (lv : Nat → Nat → Option Nat) (u1 u5 u6 u8 u9 u10 u11 u12 u13 u14 u15 u16 u17 u18 u19 u20 u21 : AV), k < N → k + i = es.length →
      Ends (evLoop (evCode Tryz.prog call m c) N { s := [.sl .sh es, u1, .sl .ex [], .mrow 7 es.length 1, .lit (.int .i64 (i : Int)), u5, u6, .row es.length 1 (filled [.lit (.int .u8 0)] es i), u8, u9, u10, u11, u12, u13, u14, u15, u16, u17, u18, u19, u20, u21], live := lv }) F := by
  have hlen : ∀ r ∈ es, r.length = 1 := fun r hr => (he.2 r hr).1
  intro k
  induction k with
  | zero =>
    intro N i lv u1 u5 u6 u8 u9 u10 u11 u12 u13 u14 u15 u16 u17 u18 u19 u20 u21 hN hk
    obtain ⟨N, rfl⟩ : ∃ N', N = N' + 1 := ⟨N - 1, by omega⟩
    have hi : i = es.length := by omega
    subst hi
    rw [ev_turn hcd]
    simp -dsimp [Tryz.f87]
    exact h1 _ _ _ _ _ _ _ _ _ _ _ _ _ _ _ _ _ _ _
  | succ k ih =>
    intro N i lv u1 u5 u6 u8 u9 u10 u11 u12 u13 u14 u15 u16 u17 u18 u19 u20 u21 hN hk
    obtain ⟨N, rfl⟩ : ∃ N', N = N' + 1 := ⟨N - 1, by omega⟩
    obtain ⟨x, hx, hxo, hxt⟩ := he.get (i := i) (by omega)
    have hlt : ((i : Int) < (es.length : Int)) := by omega
    have hlt' : i < es.length := by omega
    have hbd : i < 9223372036854775807 := by have := he.1; omega
    have hsz : i * 1 + 1 ≤ (filled [.lit (.int .u8 0)] es i).length := by rw [filled_length (s := 1) (by omega) rfl hlen]; omega
    have hset := filled_set (z := [.lit (.int .u8 0)]) (s := 1) hx rfl hlen
    have hxe : es[i]'hlt' = x := by have := List.getElem?_eq_getElem hlt'; rw [hx] at this; exact (Option.some.inj this).symm
    have hcl : ∀ k, (filled [.lit (.int .u8 0)] es i).map (clean1 k) = filled [.lit (.int .u8 0)] es i := fun k => filled_clean k i rfl he.2
    obtain ⟨c, r, rfl, hc, ty0⟩ := hxo.cons_inv
    obtain ⟨y0, rfl, wy0⟩ := hc.int_inv
    have := ty0.nil_inv; subst this
    simp only [List.map_cons, List.map_nil, ex1, Nat.mul_one] at hset
    simp only [Nat.mul_one] at hsz
    rw [ev_turn hcd]
    simp -dsimp [Tryz.f87, hlt, hlt', hx, hxe, wrap_small hbd, hcl, hsz, hset]
    exact ih N (i + 1) _ _ _ _ _ _ _ _ _ _ _ _ _ _ _ _ _ _ (by omega) (by omega)
theorem tof87 (call : FuncId → List AV → Option AV)
    {es : List (List AV)} (he : OkR lay5 es) : ∃ m, evBody Tryz.prog call m Tryz.f87 [.sl .sh es] = some (.sl .ex es) := by
  refine ⟨es.length + 1, ?_⟩
  apply ends_eq
  rw [ev_body (c := _) rfl]
  rw [show entry Tryz.f87 [.sl .sh es] = { s := [.sl .sh es, .undef, .undef, .undef, .undef, .undef, .undef, .undef, .undef, .undef, .undef, .undef, .undef, .undef, .undef, .undef, .undef, .undef, .undef, .undef, .undef, .undef], live := fun _ _ => none } from rfl]
  have hL : ∀ b, b ≤ 65536 → es.length * b ≤ LIM := fun b hb => by have := Nat.mul_le_mul he.1 hb; unfold LIM; omega
  have hL1 : es.length ≤ LIM := by simpa using hL 1 (by omega)
  have hM : es.length ≤ maxLen := by have := he.1; unfold maxLen; omega
  have hlen : ∀ r ∈ es, r.length = 1 := fun r hr => (he.2 r hr).1
  have hfl := flat_len hlen
  have hch := chop_flat hlen
  have hz := filled_zero [.lit (.int .u8 0)] es
  simp only [List.flatten_replicate_singleton] at hz
  simp -dsimp [Tryz.f87, hL, hL1, hM, ← hz]
  refine tol87 call _  rfl he (fun lv u4 u1 u5 u6 u8 u9 u10 u11 u12 u13 u14 u15 u16 u17 u18 u19 u20 u21 => ?_) es.length _ 0 _ _ _ _ _ _ _ _ _ _ _ _ _ _ _ _ _ _ (by omega) (by omega)
  simp -dsimp [Tryz.f87, filled_end, filled_plain he, hfl, hch]
theorem tof88 (call : FuncId → List AV → Option AV) (m : Nat)
    {x : List AV} (hx : OkL lay126 x) : evBody Tryz.prog call m Tryz.f88 [.agg x] = some (.agg (x.map ex1)) := by
  obtain ⟨c, r, rfl, hc, tx0⟩ := hx.cons_inv
  obtain ⟨x0, rfl, wx0⟩ := hc.int_inv
  obtain ⟨c, r, rfl, hc, tx1⟩ := tx0.cons_inv
  obtain ⟨x1, rfl, wx1⟩ := hc.int_inv
  obtain ⟨c, r, rfl, hc, tx2⟩ := tx1.cons_inv
  obtain ⟨x2, rfl, wx2⟩ := hc.int_inv
  obtain ⟨c, r, rfl, hc, tx3⟩ := tx2.cons_inv
  obtain ⟨x3, rfl, wx3⟩ := hc.int_inv
  obtain ⟨c, r, rfl, hc, tx4⟩ := tx3.cons_inv
  obtain ⟨x4, rfl, wx4⟩ := hc.int_inv
  obtain ⟨c, r, rfl, hc, tx5⟩ := tx4.cons_inv
  obtain ⟨x5, rfl⟩ := hc.bool_inv
  obtain ⟨c, r, rfl, hc, tx6⟩ := tx5.cons_inv
  obtain ⟨x6, rfl⟩ := hc.bool_inv
  have := tx6.nil_inv; subst this
  apply ends_eq
  rw [ev_body (c := _) rfl]
  rw [show entry Tryz.f88 [.agg [.lit (.int .i64 x0), .lit (.int .i64 x1), .lit (.int .i64 x2), .lit (.int .i64 x3), .lit (.int .i64 x4), .lit (.bool x5), .lit (.bool x6)]] = { s := [.agg [.lit (.int .i64 x0), .lit (.int .i64 x1), .lit (.int .i64 x2), .lit (.int .i64 x3), .lit (.int .i64 x4), .lit (.bool x5), .lit (.bool x6)], .undef, .undef, .undef, .undef, .undef, .undef, .undef, .undef, .undef, .undef, .undef, .undef, .undef, .undef, .undef, .undef, .undef, .undef, .undef, .undef, .undef, .undef, .undef, .undef, .undef], live := fun _ _ => none } from rfl]
  simp -dsimp [Tryz.f88, setCells, wx0, wx1, wx2, wx3, wx4]
theorem tol89 (call : FuncId → List AV → Option AV) (m : Nat)
    (hc100 : ∀ x, OkL lay166 x → call 100 [.agg x] = some (.agg (x.map ex1)))
    {c : Code} (hcd : c = loopIn Tryz.f89 0) {es : List (List AV)} (he : OkR lay166 es) {F : Ex × Env → Prop} (h1 : ∀ (lv : Nat → Nat → Option Nat) (u4 u1 u5 u6 u8 u9 u10 u11 u12 u13 u14 u15 u16 u17 u18 u19 u20 u21 u22 : AV), F (.exit 0, { s := [.sl .sh es, u1, .sl .ex [], .mrow 7 es.length 2, u4, u5, u6, .row es.length 2 (filled [.lit (.int .i64 0), .lit (.int .i64 0)] es es.length), u8, u9, u10, u11, u12, u13, u14, u15, u16, u17, u18, u19, u20, u21, u22], live := lv })) :
    ∀ (k N i : Nat) (lv : Nat → Nat → Option Nat) (u1 u5 u6 u8 u9 u10 u11 u12 u13 u14 u15 u16 u17 u18 u19 u20 u21 u22 : AV), k < N → k + i = es.length →
      Ends (evLoop (evCode Tryz.prog call m c) N { s := [.sl .sh es, u1, .sl .ex [], .mrow 7 es.length 2, .lit (.int .i64 (i : Int)), u5, u6, .row es.length 2 (filled [.lit (.int .i64 0), .lit (.int .i64 0)] es i), u8, u9, u10, u11, u12, u13, u14, u15, u16, u17, u18, u19, u20, u21, u22], live := lv }) F := by
  have hlen : ∀ r ∈ es, r.length = 2 := fun r hr => (he.2 r hr).1
  intro k
  induction k with
  | zero =>
    intro N i lv u1 u5 u6 u8 u9 u10 u11 u12 u13 u14 u15 u16 u17 u18 u19 u20 u21 u22 hN hk
    obtain ⟨N, rfl⟩ : ∃ N', N = N' + 1 := ⟨N - 1, by omega⟩
    have hi : i = es.length := by omega
    subst hi
    rw [ev_turn hcd]
    simp -dsimp [Tryz.f89]
    exact h1 _ _ _ _ _ _ _ _ _ _ _ _ _ _ _ _ _ _ _ _
  | succ k ih =>
    intro N i lv u1 u5 u6 u8 u9 u10 u11 u12 u13 u14 u15 u16 u17 u18 u19 u20 u21 u22 hN hk
    obtain ⟨N, rfl⟩ : ∃ N', N = N' + 1 := ⟨N - 1, by omega⟩
    obtain ⟨x, hx, hxo, hxt⟩ := he.get (i := i) (by omega)
    have hlt : ((i : Int) < (es.length : Int)) := by omega
    have hlt' : i < es.length := by omega
    have hbd : i < 9223372036854775807 := by have := he.1; omega
    have hsz : i * 2 + 2 ≤ (filled [.lit (.int .i64 0), .lit (.int .i64 0)] es i).length := by rw [filled_length (s := 2) (by omega) rfl hlen]; omega
    have hset := filled_set (z := [.lit (.int .i64 0), .lit (.int .i64 0)]) (s := 2) hx rfl hlen
    have hxe : es[i]'hlt' = x := by have := List.getElem?_eq_getElem hlt'; rw [hx] at this; exact (Option.some.inj this).symm
    have hcl : ∀ k, (filled [.lit (.int .i64 0), .lit (.int .i64 0)] es i).map (clean1 k) = filled [.lit (.int .i64 0), .lit (.int .i64 0)] es i := fun k => filled_clean k i rfl he.2
    have hxl : x.length = 2 := hxo.1
    have her := hc100 x hxo
    have hh := hxo.ex_home 20
    have ho := hxo.ex_owned
    have ha := hxo.ex_all
    simp only [List.all_map] at ha
    simp only [List.map_map] at hh
    skip
    rw [ev_turn hcd]
    simp -dsimp [Tryz.f89, hlt, hlt', hx, hxe, wrap_small hbd, hcl, hsz, hset, hxl, hxo.plain, her, hh, ho, ha]
    exact ih N (i + 1) _ _ _ _ _ _ _ _ _ _ _ _ _ _ _ _ _ _ _ (by omega) (by omega)
theorem tof89 (call : FuncId → List AV → Option AV)
    (hc100 : ∀ x, OkL lay166 x → call 100 [.agg x] = some (.agg (x.map ex1)))
    {es : List (List AV)} (he : OkR lay166 es) : ∃ m, evBody Tryz.prog call m Tryz.f89 [.sl .sh es] = some (.sl .ex es) := by
  refine ⟨es.length + 1, ?_⟩
  apply ends_eq
  rw [ev_body (c := _) rfl]
  rw [show entry Tryz.f89 [.sl .sh es] = { s := [.sl .sh es, .undef, .undef, .undef, .undef, .undef, .undef, .undef, .undef, .undef, .undef, .undef, .undef, .undef, .undef, .undef, .undef, .undef, .undef, .undef, .undef, .undef, .undef], live := fun _ _ => none } from rfl]
  have hL : ∀ b, b ≤ 65536 → es.length * b ≤ LIM := fun b hb => by have := Nat.mul_le_mul he.1 hb; unfold LIM; omega
  have hL1 : es.length ≤ LIM := by simpa using hL 1 (by omega)
  have hM : es.length ≤ maxLen := by have := he.1; unfold maxLen; omega
  have hlen : ∀ r ∈ es, r.length = 2 := fun r hr => (he.2 r hr).1
  have hfl := flat_len hlen
  have hch := chop_flat hlen
  have hz := filled_zero [.lit (.int .i64 0), .lit (.int .i64 0)] es
  simp -dsimp [Tryz.f89, hL, hL1, hM, ← hz]
  refine tol89 call _ hc100 rfl he (fun lv u4 u1 u5 u6 u8 u9 u10 u11 u12 u13 u14 u15 u16 u17 u18 u19 u20 u21 u22 => ?_) es.length _ 0 _ _ _ _ _ _ _ _ _ _ _ _ _ _ _ _ _ _ _ (by omega) (by omega)
  simp -dsimp [Tryz.f89, filled_end, filled_plain he, hfl, hch]
theorem tol90 (call : FuncId → List AV → Option AV) (m : Nat)
    (hc101 : ∀ x, OkL lay168 x → call 101 [.agg x] = some (.agg (x.map ex1)))
    {c : Code} (hcd : c = loopIn Tryz.f90 0) {es : List (List AV)} (he : OkR lay168 es) {F : Ex × Env → Prop} (h1 : ∀ (lv : Nat → Nat → Option Nat) (u4 u1 u5 u6 u8 u9 u10 u11 u12 u13 u14 u15 u16 u17 u18 u19 u20 u21 u22 : AV), F (.exit 0, { s := [.sl .sh es, u1, .sl .ex [], .mrow 7 es.length 2, u4, u5, u6, .row es.length 2 (filled [.lit (.int .i64 0), .lit (.bool false)] es es.length), u8, u9, u10, u11, u12, u13, u14, u15, u16, u17, u18, u19, u20, u21, u22], live := lv })) :
    ∀ (k N i : Nat) (lv : Nat → Nat → Option Nat) (u1 u5 u6 u8 u9 u10 u11 u12 u13 u14 u15 u16 u17 u18 u19 u20 u21 u22 : AV), k < N → k + i = es.length →
      Ends (evLoop (evCode Tryz.prog call m c) N { s := [.sl .sh es, u1, .sl .ex [], .mrow 7 es.length 2, .lit (.int .i64 (i : Int)), u5, u6, .row es.length 2 (filled [.lit (.int .i64 0), .lit (.bool false)] es i), u8, u9, u10, u11, u12, u13, u14, u15, u16, u17, u18, u19, u20, u21, u22], live := lv }) F := by
  have hlen : ∀ r ∈ es, r.length = 2 := fun r hr => (he.2 r hr).1
  intro k
  induction k with
  | zero =>
    intro N i lv u1 u5 u6 u8 u9 u10 u11 u12 u13 u14 u15 u16 u17 u18 u19 u20 u21 u22 hN hk
    obtain ⟨N, rfl⟩ : ∃ N', N = N' + 1 := ⟨N - 1, by omega⟩
    have hi : i = es.length := by omega
    subst hi
    rw [ev_turn hcd]
    simp -dsimp [Tryz.f90]
    exact h1 _ _ _ _ _ _ _ _ _ _ _ _ _ _ _ _ _ _ _ _
  | succ k ih =>
    intro N i lv u1 u5 u6 u8 u9 u10 u11 u12 u13 u14 u15 u16 u17 u18 u19 u20 u21 u22 hN hk
    obtain ⟨N, rfl⟩ : ∃ N', N = N' + 1 := ⟨N - 1, by omega⟩
    obtain ⟨x, hx, hxo, hxt⟩ := he.get (i := i) (by omega)
    have hlt : ((i : Int) < (es.length : Int)) := by omega
    have hlt' : i < es.length := by omega
    have hbd : i < 9223372036854775807 := by have := he.1; omega
    have hsz : i * 2 + 2 ≤ (filled [.lit (.int .i64 0), .lit (.bool false)] es i).length := by rw [filled_length (s := 2) (by omega) rfl hlen]; omega
    have hset := filled_set (z := [.lit (.int .i64 0), .lit (.bool false)]) (s := 2) hx rfl hlen
    have hxe : es[i]'hlt' = x := by have := List.getElem?_eq_getElem hlt'; rw [hx] at this; exact (Option.some.inj this).symm
    have hcl : ∀ k, (filled [.lit (.int .i64 0), .lit (.bool false)] es i).map (clean1 k) = filled [.lit (.int .i64 0), .lit (.bool false)] es i := fun k => filled_clean k i rfl he.2
    have hxl : x.length = 2 := hxo.1
    have her := hc101 x hxo
    have hh := hxo.ex_home 20
    have ho := hxo.ex_owned
    have ha := hxo.ex_all
    simp only [List.all_map] at ha
    simp only [List.map_map] at hh
    skip
    rw [ev_turn hcd]
    simp -dsimp [Tryz.f90, hlt, hlt', hx, hxe, wrap_small hbd, hcl, hsz, hset, hxl, hxo.plain, her, hh, ho, ha]
    exact ih N (i + 1) _ _ _ _ _ _ _ _ _ _ _ _ _ _ _ _ _ _ _ (by omega) (by omega)
theorem tof90 (call : FuncId → List AV → Option AV)
    (hc101 : ∀ x, OkL lay168 x → call 101 [.agg x] = some (.agg (x.map ex1)))
    {es : List (List AV)} (he : OkR lay168 es) : ∃ m, evBody Tryz.prog call m Tryz.f90 [.sl .sh es] = some (.sl .ex es) := by
  refine ⟨es.length + 1, ?_⟩
  apply ends_eq
  rw [ev_body (c := _) rfl]
  rw [show entry Tryz.f90 [.sl .sh es] = { s := [.sl .sh es, .undef, .undef, .undef, .undef, .undef, .undef, .undef, .undef, .undef, .undef, .undef, .undef, .undef, .undef, .undef, .undef, .undef, .undef, .undef, .undef, .undef, .undef], live := fun _ _ => none } from rfl]
  have hL : ∀ b, b ≤ 65536 → es.length * b ≤ LIM := fun b hb => by have := Nat.mul_le_mul he.1 hb; unfold LIM; omega
  have hL1 : es.length ≤ LIM := by simpa using hL 1 (by omega)
  have hM : es.length ≤ maxLen := by have := he.1; unfold maxLen; omega
  have hlen : ∀ r ∈ es, r.length = 2 := fun r hr => (he.2 r hr).1
  have hfl := flat_len hlen
  have hch := chop_flat hlen
  have hz := filled_zero [.lit (.int .i64 0), .lit (.bool false)] es
  simp -dsimp [Tryz.f90, hL, hL1, hM, ← hz]
  refine tol90 call _ hc101 rfl he (fun lv u4 u1 u5 u6 u8 u9 u10 u11 u12 u13 u14 u15 u16 u17 u18 u19 u20 u21 u22 => ?_) es.length _ 0 _ _ _ _ _ _ _ _ _ _ _ _ _ _ _ _ _ _ _ (by omega) (by omega)
  simp -dsimp [Tryz.f90, filled_end, filled_plain he, hfl, hch]
theorem tof91 (call : FuncId → List AV → Option AV) (m : Nat)
    {x : List AV} (hx : OkL lay159 x) : evBody Tryz.prog call m Tryz.f91 [.agg x] = some (.agg (x.map ex1)) := by
  obtain ⟨c, r, rfl, hc, tx0⟩ := hx.cons_inv
  obtain ⟨x0, rfl, wx0⟩ := hc.int_inv
  obtain ⟨c, r, rfl, hc, tx1⟩ := tx0.cons_inv
  obtain ⟨x1, rfl⟩ := hc.bool_inv
  obtain ⟨c, r, rfl, hc, tx2⟩ := tx1.cons_inv
  obtain ⟨x2, rfl, wx2⟩ := hc.int_inv
  obtain ⟨c, r, rfl, hc, tx3⟩ := tx2.cons_inv
  obtain ⟨x3, rfl⟩ := hc.bool_inv
  have := tx3.nil_inv; subst this
  apply ends_eq
  rw [ev_body (c := _) rfl]
  rw [show entry Tryz.f91 [.agg [.lit (.int .i64 x0), .lit (.bool x1), .lit (.int .i64 x2), .lit (.bool x3)]] = { s := [.agg [.lit (.int .i64 x0), .lit (.bool x1), .lit (.int .i64 x2), .lit (.bool x3)], .undef, .undef, .undef, .undef, .undef, .undef, .undef, .undef, .undef, .undef, .undef, .undef, .undef, .undef, .undef, .undef], live := fun _ _ => none } from rfl]
  simp -dsimp [Tryz.f91, setCells, wx0, wx2]
theorem tof99 (call : FuncId → List AV → Option AV) (m : Nat)
    {x : List AV} (hx : OkL lay163 x) : evBody Tryz.prog call m Tryz.f99 [.agg x] = some (.agg (x.map ex1)) := by
  obtain ⟨c, r, rfl, hc, tx0⟩ := hx.cons_inv
  obtain ⟨x0, rfl, wx0⟩ := hc.str_inv
  obtain ⟨c, r, rfl, hc, tx1⟩ := tx0.cons_inv
  obtain ⟨x1, rfl, wx1⟩ := hc.str_inv
  have := tx1.nil_inv; subst this
  apply ends_eq
  rw [ev_body (c := _) rfl]
  rw [show entry Tryz.f99 [.agg [.lit (.string x0), .lit (.string x1)]] = { s := [.agg [.lit (.string x0), .lit (.string x1)], .undef, .undef, .undef, .undef, .undef, .undef, .undef, .undef, .undef, .undef], live := fun _ _ => none } from rfl]
  simp -dsimp [Tryz.f99, setCells, wx0, wx1]
theorem tof100 (call : FuncId → List AV → Option AV) (m : Nat)
    {x : List AV} (hx : OkL lay166 x) : evBody Tryz.prog call m Tryz.f100 [.agg x] = some (.agg (x.map ex1)) := by
  obtain ⟨c, r, rfl, hc, tx0⟩ := hx.cons_inv
  obtain ⟨x0, rfl, wx0⟩ := hc.int_inv
  obtain ⟨c, r, rfl, hc, tx1⟩ := tx0.cons_inv
  obtain ⟨x1, rfl, wx1⟩ := hc.int_inv
  have := tx1.nil_inv; subst this
  apply ends_eq
  rw [ev_body (c := _) rfl]
  rw [show entry Tryz.f100 [.agg [.lit (.int .i64 x0), .lit (.int .i64 x1)]] = { s := [.agg [.lit (.int .i64 x0), .lit (.int .i64 x1)], .undef, .undef, .undef, .undef, .undef, .undef, .undef, .undef, .undef, .undef], live := fun _ _ => none } from rfl]
  simp -dsimp [Tryz.f100, setCells, wx0, wx1]
theorem tof101 (call : FuncId → List AV → Option AV) (m : Nat)
    {x : List AV} (hx : OkL lay168 x) : evBody Tryz.prog call m Tryz.f101 [.agg x] = some (.agg (x.map ex1)) := by
  obtain ⟨c, r, rfl, hc, tx0⟩ := hx.cons_inv
  obtain ⟨x0, rfl, wx0⟩ := hc.int_inv
  obtain ⟨c, r, rfl, hc, tx1⟩ := tx0.cons_inv
  obtain ⟨x1, rfl⟩ := hc.bool_inv
  have := tx1.nil_inv; subst this
  apply ends_eq
  rw [ev_body (c := _) rfl]
  rw [show entry Tryz.f101 [.agg [.lit (.int .i64 x0), .lit (.bool x1)]] = { s := [.agg [.lit (.int .i64 x0), .lit (.bool x1)], .undef, .undef, .undef, .undef, .undef, .undef, .undef, .undef, .undef, .undef], live := fun _ _ => none } from rfl]
  simp -dsimp [Tryz.f101, setCells, wx0]
end Go.Proofs.YtlgdhdelhpklbaaGreat.EV
