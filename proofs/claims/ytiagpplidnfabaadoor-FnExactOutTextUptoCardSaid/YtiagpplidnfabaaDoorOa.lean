/- OutText: the small functions of both packages, by the evaluator. -/
import Derived.Test.YtiagpplidnfabaaDoorSq
import Derived.Test.YtiagpplidnfabaaDoorLow
import Derived.Test.YtiagpplidnfabaaDoorSf
import Derived.Test.YtiagpplidnfabaaDoorPr
set_option linter.unusedSimpArgs false
set_option linter.unusedVariables false
set_option maxHeartbeats 4000000
set_option maxRecDepth 20000
namespace Go.Proofs.YtiagpplidnfabaaDoor.EV
open Go.RowKit
open Classical

/-- a number's digits -/
def dig (n : Int) : ByteArray := ⟨(Lib.itoa n).toArray⟩
def isTm (n : Int) : Bool := decide (0 ≤ n ∧ n ≤ 1000000000000000)

/-! what was walked -/
theorem p44 (s : ByteArray) (hs : s.size ≤ 1073741824) : Pure Tryd.prog 44 [.lit (.string s)] (.lit (.string (lowS s))) := pure_lit (us := [.string s]) fun w _ => lower_any s w hs
theorem p39 (s : ByteArray) (hs : s.size ≤ 1073741824) : Pure Tryd.prog 39 [.lit (.string s)] (.lit (.string (lowS s))) := pure_lit (us := [.string s]) fun w _ => l1Lower_any s w hs
theorem p29 (n : Int) (h0 : -9223372036854775808 ≤ n) (h1 : n ≤ 9223372036854775807) : Pure Tryd.prog 29 [.lit (.int .i64 n), .lit (.int .i64 10)] (.lit (.string (dig n))) :=
  pure_lit (us := [.int .i64 n, .int .i64 10]) fun w ht => (Tryd.strconv_FormatInt_10 n h0 h1 w (ht _ (List.mem_singleton.2 rfl))).mono fun e w' ⟨he, k, os, hw⟩ => by
    refine ⟨he, ?_⟩
    subst hw
    refine ⟨rfl, rfl, rfl, by simp [Sort.grow, World.drewN], fun i hi => ?_⟩
    simp only [Sort.grow, World.drewN] at *
    rw [Array.getElem?_append_left hi]

/-! the evaluator's -/
theorem ev16 (call : FuncId → List AV → Option AV) (m : Nat) (n lo hi : Int) : evBody Tryd.prog call m Tryd.f16 [.lit (.int .i64 n), .lit (.int .i64 lo), .lit (.int .i64 hi)] = some (.lit (.bool (decide (lo ≤ n ∧ n ≤ hi)))) := by
  apply ends_eq
  rw [ev_body (c := _) rfl, show entry Tryd.f16 [.lit (.int .i64 n), .lit (.int .i64 lo), .lit (.int .i64 hi)] = { s := [.lit (.int .i64 n), .lit (.int .i64 lo), .lit (.int .i64 hi), .undef, .undef, .undef, .undef, .undef, .undef, .undef, .undef, .undef, .undef, .undef, .undef], live := fun _ _ => none } from rfl]
  by_cases h : lo ≤ n <;> simp -dsimp [Tryd.f16, ↓br_dec, binA, binI, h]
theorem ev24 (call : FuncId → List AV → Option AV) (m : Nat) (n lo hi : Int) : evBody Tryd.prog call m Tryd.f24 [.lit (.int .i64 n), .lit (.int .i64 lo), .lit (.int .i64 hi)] = some (.lit (.bool (decide (lo ≤ n ∧ n ≤ hi)))) := by
  apply ends_eq
  rw [ev_body (c := _) rfl, show entry Tryd.f24 [.lit (.int .i64 n), .lit (.int .i64 lo), .lit (.int .i64 hi)] = { s := [.lit (.int .i64 n), .lit (.int .i64 lo), .lit (.int .i64 hi), .undef, .undef, .undef, .undef, .undef, .undef, .undef, .undef, .undef, .undef, .undef, .undef], live := fun _ _ => none } from rfl]
  by_cases h : lo ≤ n <;> simp -dsimp [Tryd.f24, ↓br_dec, binA, binI, h]
theorem ev15 (call : FuncId → List AV → Option AV) (m : Nat) (n : Int) (hc : ∀ n lo hi, call 16 [.lit (.int .i64 n), .lit (.int .i64 lo), .lit (.int .i64 hi)] = some (.lit (.bool (decide (lo ≤ n ∧ n ≤ hi))))) : evBody Tryd.prog call m Tryd.f15 [.lit (.int .i64 n)] = some (.lit (.bool (isTm n))) := by
  apply ends_eq
  rw [ev_body (c := _) rfl, show entry Tryd.f15 [.lit (.int .i64 n)] = { s := [.lit (.int .i64 n), .undef, .undef, .undef, .undef], live := fun _ _ => none } from rfl]
  simp -dsimp [Tryd.f15, hc, isTm]
theorem ev23 (call : FuncId → List AV → Option AV) (m : Nat) (n : Int) (hc : ∀ n lo hi, call 24 [.lit (.int .i64 n), .lit (.int .i64 lo), .lit (.int .i64 hi)] = some (.lit (.bool (decide (lo ≤ n ∧ n ≤ hi))))) : evBody Tryd.prog call m Tryd.f23 [.lit (.int .i64 n)] = some (.lit (.bool (isTm n))) := by
  apply ends_eq
  rw [ev_body (c := _) rfl, show entry Tryd.f23 [.lit (.int .i64 n)] = { s := [.lit (.int .i64 n), .undef, .undef, .undef, .undef], live := fun _ _ => none } from rfl]
  simp -dsimp [Tryd.f23, hc, isTm]
theorem ev37 (call : FuncId → List AV → Option AV) (m : Nat) (s t : ByteArray) (hs : s.size ≤ 1073741824) (ht : t.size ≤ 1073741824) (hc : ∀ s : ByteArray, s.size ≤ 1073741824 → call 44 [.lit (.string s)] = some (.lit (.string (lowS s)))) : evBody Tryd.prog call m Tryd.f37 [.lit (.string s), .lit (.string t)] = some (.lit (.bool (decide (lowS s = lowS t)))) := by
  apply ends_eq
  rw [ev_body (c := _) rfl, show entry Tryd.f37 [.lit (.string s), .lit (.string t)] = { s := [.lit (.string s), .lit (.string t), .undef, .undef, .undef, .undef, .undef, .undef, .undef, .undef], live := fun _ _ => none } from rfl]
  simp -dsimp [Tryd.f37, hc s hs, hc t ht]
theorem ev34 (call : FuncId → List AV → Option AV) (m : Nat) (s t : ByteArray) (hs : s.size ≤ 1073741824) (ht : t.size ≤ 1073741824) (hc : ∀ s : ByteArray, s.size ≤ 1073741824 → call 39 [.lit (.string s)] = some (.lit (.string (lowS s)))) : evBody Tryd.prog call m Tryd.f34 [.lit (.string s), .lit (.string t)] = some (.lit (.bool (decide (lowS s = lowS t)))) := by
  apply ends_eq
  rw [ev_body (c := _) rfl, show entry Tryd.f34 [.lit (.string s), .lit (.string t)] = { s := [.lit (.string s), .lit (.string t), .undef, .undef, .undef, .undef, .undef, .undef, .undef, .undef], live := fun _ _ => none } from rfl]
  simp -dsimp [Tryd.f34, hc s hs, hc t ht]
theorem ev17 (call : FuncId → List AV → Option AV) (m : Nat) (n : Int) (hc : call 29 [.lit (.int .i64 n), .lit (.int .i64 10)] = some (.lit (.string (dig n)))) : evBody Tryd.prog call m Tryd.f17 [.lit (.int .i64 n)] = some (.lit (.string (dig n))) := by
  apply ends_eq
  rw [ev_body (c := _) rfl, show entry Tryd.f17 [.lit (.int .i64 n)] = { s := [.lit (.int .i64 n), .undef, .undef, .undef, .undef], live := fun _ _ => none } from rfl]
  simp -dsimp [Tryd.f17, hc]

/-! digits, one after the other -/
theorem nDigits_le : ∀ (k u : Nat), u < 10 ^ (k + 1) → Lib.nDigits u ≤ k + 1
  | 0, u, h => by rw [Lib.nDigits, dif_pos (by simpa using h)]; omega
  | k + 1, u, h => by
    rw [Lib.nDigits]
    split
    · omega
    · have := nDigits_le k (u / 10) (by rw [Nat.pow_succ] at h; omega)
      omega
theorem dig_size (n : Int) (h0 : 0 ≤ n) (h1 : n ≤ 9223372036854775807) : (dig n).size ≤ 20 := by
  have e : (dig n).size = (Lib.itoa n).length := by simp [dig, ByteArray.size]
  rw [e]
  unfold Lib.itoa
  rw [if_neg (by omega), Lib.decDigits_length]
  exact nDigits_le 19 _ (by have : n.toNat ≤ 9223372036854775807 := by omega
                            omega)
theorem dig_small (n : Int) (h0 : 0 ≤ n) (h : n < 10) : dig n = ⟨#[UInt8.ofNat (48 + n).toNat]⟩ := by
  unfold dig Lib.itoa
  rw [if_neg (by omega), Lib.decDigits, dif_pos (by omega), show (48 + n).toNat = 48 + n.toNat by omega]
theorem dig_step (n : Int) (h0 : 0 ≤ n) (h : ¬ n < 10) : dig (n.tdiv 10) ++ ⟨#[UInt8.ofNat (48 + n.tmod 10).toNat]⟩ = dig n := by
  obtain ⟨u, rfl⟩ := Int.eq_ofNat_of_zero_le h0
  have e1 : (u : Int).tdiv 10 = ((u / 10 : Nat) : Int) := by rw [Int.tdiv_eq_ediv_of_nonneg (by omega)]; omega
  have e2 : (u : Int).tmod 10 = ((u % 10 : Nat) : Int) := by rw [Int.tmod_eq_emod_of_nonneg (by omega)]; omega
  rw [e1, e2, show (48 + ((u % 10 : Nat) : Int)).toNat = 48 + u % 10 by omega]
  have hi : ∀ v : Nat, Lib.itoa (v : Int) = Lib.decDigits v := fun v => by unfold Lib.itoa; rw [if_neg (by omega)]; simp
  unfold dig
  rw [hi, hi]
  conv => rhs; rw [Lib.decDigits, dif_neg (by omega)]
  apply ByteArray.ext
  rw [ByteArray.data_append]
  simp
theorem dr25_0 : drawnA Tryd.prog (drawnIn Tryd.f25 0) = true := drawn_of (tab := [⟨some 10, [0], false, []⟩, ⟨some 11, [10], false, [0]⟩, ⟨some 12, [11], false, [1]⟩, ⟨some 13, [0], false, []⟩, ⟨some 14, [13], false, [3]⟩, ⟨some 15, [14], false, [4]⟩, ⟨some 16, [15], false, [5]⟩, ⟨some 17, [16], false, [6]⟩, ⟨some 18, [17], false, [7]⟩, ⟨some 19, [12, 18], false, [2, 8]⟩, ⟨some 2, [19], false, [9, 2, 0, 1, 2, 3, 4, 5, 6, 7, 8, 9]⟩]) follows_mixed (by kernel_rfl) (by kernel_rfl)
theorem ev25 (call : FuncId → List AV → Option AV) (m : Nat) (n : Int) (h0 : 0 ≤ n) (h1 : n ≤ 9223372036854775807) (hc : ¬ n < 10 → call 25 [.lit (.int .i64 (n.tdiv 10))] = some (.lit (.string (dig (n.tdiv 10))))) : evBody Tryd.prog call m Tryd.f25 [.lit (.int .i64 n)] = some (.lit (.string (dig n))) := by
  apply ends_eq
  have dr0 := dr25_0
  simp only [drawnIn, drawnsOf, Tryd.f25, List.getD_cons_succ, List.getD_cons_zero, List.nil_append, List.append_nil, List.cons_append] at dr0
  by_cases h : n < 10
  · have e := dig_small n h0 h
    have w1 : IntKind.i64.wrap (48 + n) = 48 + n := by rw [IntKind.wrap_i64]; omega
    have w2 : IntKind.u8.wrap (48 + n) = 48 + n := by simp [IntKind.wrap, IntKind.bits, IntKind.signed]; omega
    rw [ev_body (c := _) rfl, show entry Tryd.f25 [.lit (.int .i64 n)] = { s := [.lit (.int .i64 n), .undef, .undef, .undef, .undef, .undef, .undef, .undef, .undef, .undef, .undef, .undef, .undef, .undef, .undef, .undef, .undef, .undef, .undef, .undef], live := fun _ _ => none } from rfl]
    simp -dsimp [Tryd.f25, ↓br_dec, h, w1, w2, e, chunk1, bytesOfA, byteOf, LIT]
  · have e := dig_step n h0 h
    have hc := hc h
    have d1 : n.tdiv 10 = n / 10 := Int.tdiv_eq_ediv_of_nonneg h0
    have d2 : n.tmod 10 = n % 10 := Int.tmod_eq_emod_of_nonneg h0
    have w1 : IntKind.i64.wrap (48 + n.tmod 10) = 48 + n.tmod 10 := by rw [IntKind.wrap_i64]; omega
    have w2 : IntKind.u8.wrap (48 + n.tmod 10) = 48 + n.tmod 10 := by simp [IntKind.wrap, IntKind.bits, IntKind.signed]; omega
    have w3 : IntKind.i64.wrap (n.tdiv 10) = n.tdiv 10 := by rw [IntKind.wrap_i64]; omega
    have hz := dig_size (n.tdiv 10) (by omega) (by omega)
    have hq : (dig (n.tdiv 10)).size + ByteArray.size ⟨#[UInt8.ofNat (48 + n.tmod 10).toNat]⟩ ≤ 9223372036854775807 := by
      have : ByteArray.size ⟨#[UInt8.ofNat (48 + n.tmod 10).toNat]⟩ = 1 := rfl
      omega
    rw [ev_body (c := _) rfl, show entry Tryd.f25 [.lit (.int .i64 n)] = { s := [.lit (.int .i64 n), .undef, .undef, .undef, .undef, .undef, .undef, .undef, .undef, .undef, .undef, .undef, .undef, .undef, .undef, .undef, .undef, .undef, .undef, .undef], live := fun _ _ => none } from rfl]
    simp -dsimp [Tryd.f25, ↓br_dec, h, w1, w2, w3, hq, e, hc, chunk1, bytesOfA, byteOf, LIT, binA, binI, binS, ↓ev_drawn dr0]
end Go.Proofs.YtiagpplidnfabaaDoor.EV
