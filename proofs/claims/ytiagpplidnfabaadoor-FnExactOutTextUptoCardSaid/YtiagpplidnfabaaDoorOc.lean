/- OutText: the reference's join of values; the texts of outs. -/
import Derived.Test.YtiagpplidnfabaaDoorOb
set_option linter.unusedSimpArgs false
set_option linter.unusedVariables false
set_option maxHeartbeats 4000000
set_option maxRecDepth 20000
namespace Go.Proofs.YtiagpplidnfabaaDoor.EV
open Go.RowKit
open Classical

theorem lp26 (call : FuncId → List AV → Option AV) (m : Nat) (nm : ByteArray) (hnm : nm.size ≤ 1073741824) (hc : ∀ s t : ByteArray, s.size ≤ 1073741824 → t.size ≤ 1073741824 → call 34 [.lit (.string s), .lit (.string t)] = some (.lit (.bool (decide (lowS s = lowS t)))))
    {c : Code} (hcd : c = loopIn Tryd.f26 0) {es : List (List AV)} (he : OkR lay71 es) {F : Ex × Env → Prop}
    (h1 : ∀ (t : ByteArray) (lv : Nat → Nat → Option Nat) (u2 u3 u8 u9 u10 u11 u12 u13 u14 u15 u16 u17 u18 u19 u20 u21 u22 u23 u24 u25 u26 u27 u28 u29 u30 u31 u32 u33 u34 : AV), F (.exit 0, { s := [.sl .sh es, .lit (.string nm), u2, u3, .lit (.string ⟨#[]⟩), .lit (.bool false), .lit (.string t), .lit (.bool (anyAl nm es)), u8, u9, u10, u11, u12, u13, u14, u15, u16, u17, u18, u19, u20, u21, u22, u23, u24, u25, u26, u27, u28, u29, u30, u31, u32, u33, u34], live := lv })) :
    ∀ (k N i : Nat) (t : ByteArray) (lv : Nat → Nat → Option Nat) (u2 u3 u9 u10 u11 u12 u13 u14 u15 u16 u17 u18 u19 u20 u21 u22 u23 u24 u25 u26 u27 u28 u29 u30 u31 u32 u33 u34 : AV), k < N → k + i = es.length → t.size ≤ i * 1073741828 →
      Ends (evLoop (evCode Tryd.prog call m c) N { s := [.sl .sh es, .lit (.string nm), u2, u3, .lit (.string ⟨#[]⟩), .lit (.bool false), .lit (.string t), .lit (.bool (anyAl nm (es.take i))), .lit (.int .i64 (i : Int)), u9, u10, u11, u12, u13, u14, u15, u16, u17, u18, u19, u20, u21, u22, u23, u24, u25, u26, u27, u28, u29, u30, u31, u32, u33, u34], live := lv }) F := by
  intro k
  induction k with
  | zero =>
    intro N i t lv u2 u3 u9 u10 u11 u12 u13 u14 u15 u16 u17 u18 u19 u20 u21 u22 u23 u24 u25 u26 u27 u28 u29 u30 u31 u32 u33 u34 hN hk ht
    obtain ⟨N, rfl⟩ : ∃ N', N = N' + 1 := ⟨N - 1, by omega⟩
    have hi : i = es.length := by omega
    subst hi
    rw [List.take_of_length_le (Nat.le_refl _), ev_turn hcd]
    simp -dsimp [Tryd.f26]
    exact h1 t _ _ _ _ _ _ _ _ _ _ _ _ _ _ _ _ _ _ _ _ _ _ _ _ _ _ _ _ _ _
  | succ k ih =>
    intro N i t lv u2 u3 u9 u10 u11 u12 u13 u14 u15 u16 u17 u18 u19 u20 u21 u22 u23 u24 u25 u26 u27 u28 u29 u30 u31 u32 u33 u34 hN hk ht
    obtain ⟨N, rfl⟩ : ∃ N', N = N' + 1 := ⟨N - 1, by omega⟩
    obtain ⟨x, hx, hxo, hxt⟩ := he.get (i := i) (by omega)
    have hlt : ((i : Int) < (es.length : Int)) := by omega
    have hel := he.1
    have hbd : i < 9223372036854775807 := by omega
    obtain ⟨c0, r, rfl, hc0, t0⟩ := hxo.cons_inv
    obtain ⟨a, rfl, wa⟩ := hc0.str_inv
    obtain ⟨c1, r, rfl, hc1, t1⟩ := t0.cons_inv
    obtain ⟨b, rfl, wb⟩ := hc1.str_inv
    have := t1.nil_inv; subst this
    have hcc := hc a nm wa hnm
    have hs2 : ByteArray.size ⟨#[44, 32]⟩ = 2 := rfl
    have hq1 : t.size + ByteArray.size ⟨#[44, 32]⟩ ≤ 9223372036854775807 := by omega
    have hq2 : t.size + ByteArray.size ⟨#[44, 32]⟩ + b.size ≤ 9223372036854775807 := by omega
    have hq3 : t.size + b.size ≤ 9223372036854775807 := by omega
    have hsn := anyAl_snoc nm (es.take i) [.lit (.string a), .lit (.string b)]
    rw [← hxt] at hsn
    rw [ev_turn hcd]
    by_cases hal : lowS a = lowS nm
    · simp only [alH, hal, decide_true, Bool.or_true] at hsn
      cases hf : anyAl nm (es.take i) with
      | true =>
        simp -dsimp [Tryd.f26, hlt, hx, wrap_small hbd, hcc, hal, ↓br_dec, binA, binS, binI, hq1, hq2]
        rw [← hsn]
        refine ih N (i + 1) _ _ _ _ _ _ _ _ _ _ _ _ _ _ _ _ _ _ _ _ _ _ _ _ _ _ _ _ _ _ (by omega) (by omega) ?_
        rw [ByteArray.size_append, ByteArray.size_append]; omega
      | false =>
        simp -dsimp [Tryd.f26, hlt, hx, wrap_small hbd, hcc, hal, ↓br_dec, binA, binS, binI, hq3]
        rw [← hsn]
        refine ih N (i + 1) _ _ _ _ _ _ _ _ _ _ _ _ _ _ _ _ _ _ _ _ _ _ _ _ _ _ _ _ _ _ (by omega) (by omega) ?_
        rw [ByteArray.size_append]; omega
    · have hsn' : anyAl nm (es.take (i + 1)) = anyAl nm (es.take i) := by rw [hsn]; simp [alH, hal]
      simp -dsimp [Tryd.f26, hlt, hx, wrap_small hbd, hcc, hal, ↓br_dec, binA, binI]
      rw [← hsn']
      refine ih N (i + 1) _ _ _ _ _ _ _ _ _ _ _ _ _ _ _ _ _ _ _ _ _ _ _ _ _ _ _ _ _ _ (by omega) (by omega) ?_
      exact Nat.le_trans ht (Nat.mul_le_mul_right _ (by omega))
/-- all values of a name: it is asked here whether there are any -/
theorem ev26 (call : FuncId → List AV → Option AV) (nm : ByteArray) (hnm : nm.size ≤ 1073741824) (hc : ∀ s t : ByteArray, s.size ≤ 1073741824 → t.size ≤ 1073741824 → call 34 [.lit (.string s), .lit (.string t)] = some (.lit (.bool (decide (lowS s = lowS t)))))
    {es : List (List AV)} (he : OkR lay71 es) : ∃ m t, evBody Tryd.prog call m Tryd.f26 [.sl .sh es, .lit (.string nm)] = some (.tup [.lit (.string t), .lit (.bool (anyAl nm es))]) := by
  suffices h : Ends (evBody Tryd.prog call (es.length + 1) Tryd.f26 [.sl .sh es, .lit (.string nm)]) (fun d => ∃ t, d = .tup [.lit (.string t), .lit (.bool (anyAl nm es))]) by
    obtain ⟨d, h1, t, rfl⟩ := h; exact ⟨_, t, h1⟩
  rw [ev_body (c := _) rfl, show entry Tryd.f26 [.sl .sh es, .lit (.string nm)] = { s := [.sl .sh es, .lit (.string nm), .undef, .undef, .undef, .undef, .undef, .undef, .undef, .undef, .undef, .undef, .undef, .undef, .undef, .undef, .undef, .undef, .undef, .undef, .undef, .undef, .undef, .undef, .undef, .undef, .undef, .undef, .undef, .undef, .undef, .undef, .undef, .undef, .undef], live := fun _ _ => none } from rfl]
  simp -dsimp [Tryd.f26]
  refine lp26 call _ nm hnm hc rfl he (fun t lv u2 u3 u8 u9 u10 u11 u12 u13 u14 u15 u16 u17 u18 u19 u20 u21 u22 u23 u24 u25 u26 u27 u28 u29 u30 u31 u32 u33 u34 => ?_) es.length _ 0 ⟨#[]⟩ _ _ _ _ _ _ _ _ _ _ _ _ _ _ _ _ _ _ _ _ _ _ _ _ _ _ _ _ _ (by omega) (by omega) (by rw [Nat.zero_mul]; exact Nat.le_refl 0)
  simp -dsimp [Tryd.f26, finC]

/-! the texts -/
theorem bsz (l : Array UInt8) : ByteArray.size ⟨l⟩ = l.size := rfl
theorem binA_sadd (t : TypeId) {a b : ByteArray} (h : a.size + b.size ≤ 9223372036854775807) : binA Tryd.prog .add t (.lit (.string a)) (.lit (.string b)) = some (.lit (.string (a ++ b))) := by
  simp [binA, binS, h]
/-- may it be told? -/
def outOk (kind id status : Int) : Bool := isTm id && (decide (kind = 1) && decide (0 ≤ status ∧ status ≤ 999) || decide (kind = 2))
noncomputable def outT (kind id status : Int) (src : ByteArray) (body : Nat) (host path : ByteArray) (hs : List (List AV)) : ByteArray :=
  if kind = 1 then ⟨#[97, 110, 115, 119, 101, 114, 32]⟩ ++ dig id ++ ⟨#[32]⟩ ++ src ++ ⟨#[32]⟩ ++ dig status ++ ⟨#[32]⟩ ++ dig body
  else if anyAl ⟨#[105, 102, 45, 110, 111, 110, 101, 45, 109, 97, 116, 99, 104]⟩ hs = true then ⟨#[102, 101, 116, 99, 104, 32]⟩ ++ dig id ++ ⟨#[32]⟩ ++ host ++ path ++ ⟨#[32, 105, 102]⟩
  else ⟨#[102, 101, 116, 99, 104, 32]⟩ ++ dig id ++ ⟨#[32]⟩ ++ host ++ path
theorem low_mark : lowS ⟨#[105, 102, 45, 110, 111, 110, 101, 45, 109, 97, 116, 99, 104]⟩ = lowS ⟨#[73, 102, 45, 78, 111, 110, 101, 45, 77, 97, 116, 99, 104]⟩ := by decide +kernel
theorem anyAl_mark (hs : List (List AV)) : anyAl ⟨#[105, 102, 45, 110, 111, 110, 101, 45, 109, 97, 116, 99, 104]⟩ hs = anyAl ⟨#[73, 102, 45, 78, 111, 110, 101, 45, 77, 97, 116, 99, 104]⟩ hs := by
  unfold anyAl
  congr 1
  first | done | (unfold alH; rw [low_mark])
/-- what is told of an out -/
noncomputable def outR : List AV → AV
  | [.lit (.int _ kind), .lit (.int _ id), .lit (.string src), .lit (.int _ status), _, .sl _ body, _, .lit (.string host), .lit (.string path), .sl _ hs] =>
    .agg (if outOk kind id status = true then [.lit (.int .i64 0), .lit (.string (outT kind id status src body.length host path hs))] else [.lit (.int .i64 3), .lit (.string ⟨#[]⟩)])
  | _ => .junk
noncomputable def outP : List AV → AV
  | [.lit (.int _ kind), .lit (.int _ id), .lit (.string src), .lit (.int _ status), _, .sl _ body, _, .lit (.string host), .lit (.string path), .sl _ hs] =>
    .tup [.lit (.string (if outOk kind id status = true then outT kind id status src body.length host path hs else ⟨#[]⟩)), .lit (.bool (outOk kind id status))]
  | _ => .junk
theorem dr7_0 : drawnA Tryd.prog (drawnIn Tryd.f7 0) = true := drawn_of (tab := [⟨some 36, [1], false, []⟩, ⟨some 37, [36], false, [0]⟩, ⟨some 38, [37], false, [1]⟩, ⟨some 39, [38], false, [2]⟩, ⟨some 40, [39], false, [3]⟩, ⟨some 41, [1], false, []⟩, ⟨some 42, [41], false, [5]⟩, ⟨some 43, [40, 42], false, [4, 6]⟩, ⟨some 44, [43], false, [7]⟩, ⟨some 45, [1], false, []⟩, ⟨some 46, [45], false, [9]⟩, ⟨some 47, [46], false, [10]⟩, ⟨some 48, [47], false, [11, 2]⟩, ⟨some 49, [44, 48], false, [8, 12]⟩, ⟨some 50, [49], false, [13]⟩, ⟨some 51, [1], false, []⟩, ⟨some 52, [51], false, [15]⟩, ⟨some 53, [52], false, [16]⟩, ⟨some 54, [53], false, [17]⟩, ⟨some 55, [54], false, [18, 12]⟩, ⟨some 56, [50, 55], false, [14, 19]⟩, ⟨some 57, [56], false, [20]⟩, ⟨none, [2, 57], true, [21, 19, 0, 1, 2, 3, 4, 5, 6, 7, 8, 9, 10, 11, 12, 13, 14, 15, 16, 17, 18, 19, 20, 21]⟩]) follows_mixed (by kernel_rfl) (by kernel_rfl)
theorem dr7_1 : drawnA Tryd.prog (drawnIn Tryd.f7 1) = true := drawn_of (tab := [⟨some 58, [1], false, []⟩, ⟨some 59, [58], false, [0]⟩, ⟨some 60, [59], false, [1]⟩, ⟨some 61, [60], false, [2]⟩, ⟨some 62, [61], false, [3]⟩, ⟨some 63, [1], false, []⟩, ⟨some 64, [63], false, [5]⟩, ⟨some 65, [64], false, [6]⟩, ⟨some 66, [62, 65], false, [4, 7]⟩, ⟨some 67, [1], false, []⟩, ⟨some 68, [67], false, [9]⟩, ⟨some 69, [68], false, [10]⟩, ⟨some 70, [66, 69], false, [8, 11]⟩, ⟨some 3, [70], false, [12, 2, 0, 1, 2, 3, 4, 5, 6, 7, 8, 9, 10, 11, 12]⟩]) follows_mixed (by kernel_rfl) (by kernel_rfl)
theorem ev7 (call : FuncId → List AV → Option AV) (m : Nat) (h15 : ∀ n, call 15 [.lit (.int .i64 n)] = some (.lit (.bool (isTm n)))) (h16 : ∀ n lo hi, call 16 [.lit (.int .i64 n), .lit (.int .i64 lo), .lit (.int .i64 hi)] = some (.lit (.bool (decide (lo ≤ n ∧ n ≤ hi)))))
    (h17 : ∀ n, 0 ≤ n → n ≤ 9223372036854775807 → call 17 [.lit (.int .i64 n)] = some (.lit (.string (dig n)))) (h18 : ∀ es nm, OkR lay71 es → nm.size ≤ 1073741824 → ∃ t, call 18 [.sl .sh es, .lit (.string nm)] = some (.tup [.lit (.string t), .lit (.bool (anyAl nm es))]))
    {x : List AV} (hx : OkL lay40 x) : evBody Tryd.prog call m Tryd.f7 [.agg x] = some (outR x) := by
  obtain ⟨c, r, rfl, hc, tx0⟩ := hx.cons_inv
  obtain ⟨x0, rfl, wx0⟩ := hc.int_inv
  obtain ⟨c, r, rfl, hc, tx1⟩ := tx0.cons_inv
  obtain ⟨x1, rfl, wx1⟩ := hc.int_inv
  obtain ⟨c, r, rfl, hc, tx2⟩ := tx1.cons_inv
  obtain ⟨x2, rfl, wx2⟩ := hc.str_inv
  obtain ⟨c, r, rfl, hc, tx3⟩ := tx2.cons_inv
  obtain ⟨x3, rfl, wx3⟩ := hc.int_inv
  obtain ⟨c, r, rfl, hc, tx4⟩ := tx3.cons_inv
  obtain ⟨x4, rfl, wx4⟩ := hc.sl_inv
  obtain ⟨c, r, rfl, hc, tx5⟩ := tx4.cons_inv
  obtain ⟨x5, rfl, wx5⟩ := hc.sl_inv
  obtain ⟨c, r, rfl, hc, tx6⟩ := tx5.cons_inv
  obtain ⟨x6, rfl, wx6⟩ := hc.str_inv
  obtain ⟨c, r, rfl, hc, tx7⟩ := tx6.cons_inv
  obtain ⟨x7, rfl, wx7⟩ := hc.str_inv
  obtain ⟨c, r, rfl, hc, tx8⟩ := tx7.cons_inv
  obtain ⟨x8, rfl, wx8⟩ := hc.str_inv
  obtain ⟨c, r, rfl, hc, tx9⟩ := tx8.cons_inv
  obtain ⟨x9, rfl, wx9⟩ := hc.sl_inv
  have := tx9.nil_inv; subst this
  obtain ⟨t, h18⟩ := h18 x9 ⟨#[73, 102, 45, 78, 111, 110, 101, 45, 77, 97, 116, 99, 104]⟩ wx9 (by decide +kernel)
  apply ends_eq
  have dr0 := dr7_0
  simp only [drawnIn, drawnsOf, Tryd.f7, List.getD_cons_succ, List.getD_cons_zero, List.nil_append, List.append_nil, List.cons_append] at dr0
  have dr1 := dr7_1
  simp only [drawnIn, drawnsOf, Tryd.f7, List.getD_cons_succ, List.getD_cons_zero, List.nil_append, List.append_nil, List.cons_append] at dr1
  rw [ev_body (c := _) rfl, show entry Tryd.f7 [.agg [.lit (.int .i64 x0), .lit (.int .i64 x1), .lit (.string x2), .lit (.int .i64 x3), .sl .sh x4, .sl .sh x5, .lit (.string x6), .lit (.string x7), .lit (.string x8), .sl .sh x9]] = { s := [.agg [.lit (.int .i64 x0), .lit (.int .i64 x1), .lit (.string x2), .lit (.int .i64 x3), .sl .sh x4, .sl .sh x5, .lit (.string x6), .lit (.string x7), .lit (.string x8), .sl .sh x9], .undef, .undef, .undef, .undef, .undef, .undef, .undef, .undef, .undef, .undef, .undef, .undef, .undef, .undef, .undef, .undef, .undef, .undef, .undef, .undef, .undef, .undef, .undef, .undef, .undef, .undef, .undef, .undef, .undef, .undef, .undef, .undef, .undef, .undef, .undef, .undef, .undef, .undef, .undef, .undef, .undef, .undef, .undef, .undef, .undef, .undef, .undef, .undef, .undef, .undef, .undef, .undef, .undef, .undef, .undef, .undef, .undef, .undef, .undef, .undef, .undef, .undef, .undef, .undef, .undef, .undef, .undef, .undef, .undef, .undef, .undef, .undef, .undef, .undef, .undef, .undef, .undef, .undef, .undef, .undef, .undef, .undef], live := fun _ _ => none } from rfl]
  simp only [outR]
  by_cases hi : isTm x1 = true
  · have hid : 0 ≤ x1 ∧ x1 ≤ 1000000000000000 := by simpa [isTm] using hi
    have e1 := h17 x1 (by omega) (by omega)
    have z1 := dig_size x1 (by omega) (by omega)
    by_cases hk1 : x0 = 1
    · subst hk1
      by_cases hs : 0 ≤ x3 ∧ x3 ≤ 999
      · have hok : outOk 1 x1 x3 = true := by simp [outOk, hi, hs]
        have e2 := h17 x3 (by omega) (by omega)
        have e3 := h17 (x5.length : Int) (by omega) (by have := wx5.1; omega)
        have z2 := dig_size x3 (by omega) (by omega)
        have z3 := dig_size (x5.length : Int) (by omega) (by have := wx5.1; omega)
        simp -dsimp (disch := first | rfl | exact Or.inr rfl | exact Or.inl rfl | omega | (simp only [ByteArray.size_append, bsz, List.size_toArray, List.length_cons, List.length_nil]; omega)) [Tryd.f7, hi, hs.1, hs.2, hok, h15, h16, e1, e2, e3, binA_sadd, outT, ↓br_dec, setCells, buildA, fillA, ↓ev_drawn dr0, ↓ev_drawn dr1]
      · have hok : outOk 1 x1 x3 = false := by simp [outOk, hi, hs]
        have hs' : (decide (0 ≤ x3 ∧ x3 ≤ 999)) = false := by simpa using hs
        have h16 := h16 x3 0 999
        rw [hs'] at h16
        simp -dsimp (disch := first | rfl | exact Or.inr rfl | exact Or.inl rfl | omega | (simp only [ByteArray.size_append, bsz, List.size_toArray, List.length_cons, List.length_nil]; omega)) [Tryd.f7, hi, hok, h15, h16, ↓br_dec, setCells, buildA, fillA]
    · by_cases hk2 : x0 = 2
      · subst hk2
        have hok : outOk 2 x1 x3 = true := by simp [outOk, hi]
        cases ha : anyAl ⟨#[73, 102, 45, 78, 111, 110, 101, 45, 77, 97, 116, 99, 104]⟩ x9 with
        | true =>
          rw [ha] at h18
          simp -dsimp (disch := first | rfl | exact Or.inr rfl | exact Or.inl rfl | omega | (simp only [ByteArray.size_append, bsz, List.size_toArray, List.length_cons, List.length_nil]; omega)) [Tryd.f7, hi, hok, h15, h16, h18, e1, binA_sadd, outT, anyAl_mark, ha, ↓br_dec, setCells, buildA, fillA, ↓ev_drawn dr0, ↓ev_drawn dr1]
        | false =>
          rw [ha] at h18
          simp -dsimp (disch := first | rfl | exact Or.inr rfl | exact Or.inl rfl | omega | (simp only [ByteArray.size_append, bsz, List.size_toArray, List.length_cons, List.length_nil]; omega)) [Tryd.f7, hi, hok, h15, h16, h18, e1, binA_sadd, outT, anyAl_mark, ha, ↓br_dec, setCells, buildA, fillA, ↓ev_drawn dr0, ↓ev_drawn dr1]
      · have hok : outOk x0 x1 x3 = false := by simp [outOk, hk1, hk2]
        simp -dsimp (disch := first | rfl | exact Or.inr rfl | exact Or.inl rfl | omega | (simp only [ByteArray.size_append, bsz, List.size_toArray, List.length_cons, List.length_nil]; omega)) [Tryd.f7, hi, hk1, hk2, hok, h15, h16, ↓br_dec, setCells, buildA, fillA]
  · have hi' : isTm x1 = false := by simpa using hi
    have hok : outOk x0 x1 x3 = false := by simp [outOk, hi']
    by_cases hk1 : x0 = 1
    · subst hk1
      simp -dsimp (disch := first | rfl | exact Or.inr rfl | exact Or.inl rfl | omega | (simp only [ByteArray.size_append, bsz, List.size_toArray, List.length_cons, List.length_nil]; omega)) [Tryd.f7, hi', hok, h15, h16, ↓br_dec, setCells, buildA, fillA]
    · by_cases hk2 : x0 = 2
      · subst hk2
        simp -dsimp (disch := first | rfl | exact Or.inr rfl | exact Or.inl rfl | omega | (simp only [ByteArray.size_append, bsz, List.size_toArray, List.length_cons, List.length_nil]; omega)) [Tryd.f7, hi', hok, h15, h16, ↓br_dec, setCells, buildA, fillA]
      · simp -dsimp (disch := first | rfl | exact Or.inr rfl | exact Or.inl rfl | omega | (simp only [ByteArray.size_append, bsz, List.size_toArray, List.length_cons, List.length_nil]; omega)) [Tryd.f7, hi', hk1, hk2, hok, h15, h16, ↓br_dec, setCells, buildA, fillA]
end Go.Proofs.YtiagpplidnfabaaDoor.EV
