/- heldStringS, heldNamesResult: by rewriting. -/
import Derived.Test.YtcddclkccpfdkaaDoorWc
import Derived.Test.YtcddclkccpfdkaaDoorEa
import Derived.Test.YtcddclkccpfdkaaDoorPr
set_option linter.unusedSimpArgs false
set_option linter.unusedVariables false
set_option maxHeartbeats 4000000
set_option maxRecDepth 20000
namespace Go.Proofs.YtcddclkccpfdkaaDoor.EV
open Go.RowKit
open Classical

def marks (n : Nat) : List (List AV) := (List.range n).map fun j => [.lit (.string (markT (j + 1)))]
theorem marks_len (n : Nat) : (marks n).length = n := by simp [marks]
theorem marks_get {n i : Nat} (h : i < n) : (marks n)[i]? = some [.lit (.string (markT (i + 1)))] := by simp [marks, h]
theorem dr13_0 : drawnA Tryd.prog (drawnIn Tryd.f13 0) = true := drawn_of (tab := [⟨some 12, [0], false, []⟩, ⟨some 13, [5], false, []⟩, ⟨some 14, [12, 13], false, [0, 1]⟩, ⟨some 15, [14], false, [2]⟩, ⟨some 16, [1], false, []⟩, ⟨some 17, [16], false, [4]⟩, ⟨some 18, [15, 17], false, [3, 5]⟩]) follows_mixed (by kernel_rfl) (by kernel_rfl)

theorem lp13 (call : FuncId → List AV → Option AV) (m : Nat) (hc : ∀ k : Nat, 1 ≤ k → k ≤ 4001 → call 18 [.lit (.int .i64 k)] = some (.lit (.string (markT k))))
    {c : Code} (hcd : c = loopIn Tryd.f13 0) {n : Nat} (hn : n ≤ 4000) {F : Ex × Env → Prop}
    (h1 : ∀ (lv : Nat → Nat → Option Nat) (u2 u3 u6 u7 u8 u9 u10 u11 u12 u13 u14 u15 u16 u17 u18 u19 u20 u21 : AV), F (.exit 0, { s := [.sl .sh (marks n), .lit (.int .i64 ((n + 1 : Nat) : Int)), u2, u3, .lit (.int .i64 0), .lit (.int .i64 (n : Int)), u6, u7, u8, u9, u10, u11, u12, u13, u14, u15, u16, u17, u18, u19, u20, u21], live := lv })) :
    ∀ (k N i kk : Nat) (lv : Nat → Nat → Option Nat) (u2 u3 u6 u7 u8 u9 u10 u11 u12 u13 u14 u15 u16 u17 u18 u19 u20 u21 : AV), k < N → k + i = n → Hid (kk = i + 1) →
      (∀ u ∈ [u12, u13, u14, u15, u16, u17, u18], notCell u = true) →
      Ends (evLoop (evCode Tryd.prog call m c) N { s := [.sl .sh (marks n), .lit (.int .i64 (kk : Int)), u2, u3, .lit (.int .i64 0), .lit (.int .i64 (i : Int)), u6, u7, u8, u9, u10, u11, u12, u13, u14, u15, u16, u17, u18, u19, u20, u21], live := lv }) F := by
  intro k
  induction k with
  | zero =>
    intro N i kk lv u2 u3 u6 u7 u8 u9 u10 u11 u12 u13 u14 u15 u16 u17 u18 u19 u20 u21 hN hk hkk hu
    obtain ⟨N, rfl⟩ : ∃ N', N = N' + 1 := ⟨N - 1, by omega⟩
    have hi : i = n := by omega
    subst hi
    rw [ev_turn hcd]
    have hml := marks_len i
    simp -dsimp [Tryd.f13, ↓br_dec, hml]
    have := h1
    rw [← hkk.out] at this
    exact this _ _ _ _ _ _ _ _ _ _ _ _ _ _ _ _ _ _ _
  | succ k ih =>
    intro N i kk lv u2 u3 u6 u7 u8 u9 u10 u11 u12 u13 u14 u15 u16 u17 u18 u19 u20 u21 hN hk hkk hu
    obtain ⟨N, rfl⟩ : ∃ N', N = N' + 1 := ⟨N - 1, by omega⟩
    have hlt : ((i : Int) < (n : Int)) := by omega
    have hml := marks_len n
    have hx := marks_get (n := n) (i := i) (by omega)
    have hbd : i < 9223372036854775807 := by omega
    have hbd2 : kk < 9223372036854775807 := by have := hkk.out; omega
    simp only [List.mem_cons, List.not_mem_nil, or_false, forall_eq_or_imp, forall_eq] at hu
    have hcc := hc kk (by have := hkk.out; omega) (by have := hkk.out; omega)
    have hw1 := wrap_small hbd
    have hw2 := wrap_small hbd2
    rw [← hkk.out] at hx
    have hkk2 : Hid (kk + 1 = i + 1 + 1) := by rw [hkk.out]; exact rfl
    have dr0 := dr13_0
    simp only [drawnIn, drawnsOf, Tryd.f13, List.getD_cons_succ, List.getD_cons_zero, List.nil_append, List.append_nil, List.cons_append] at dr0
    rw [ev_turn hcd]
    have ihh := ih N (i + 1) (kk + 1)
    simp -dsimp [Tryd.f13, ↓br_dec, ↓ev_drawn dr0, setCells, hlt, hml, hx, hw1, hw2, hu, hcc]
    exact ihh _ _ _ _ _ _ _ _ _ _ _ _ _ _ _ _ _ _ _ (by omega) (by omega) hkk2 (by simp [nc_lit])
theorem ev13 (call : FuncId → List AV → Option AV) (hc : ∀ k : Nat, 1 ≤ k → k ≤ 4001 → call 18 [.lit (.int .i64 k)] = some (.lit (.string (markT k)))) {n : Nat} (hn : n ≤ 4000) :
    ∃ m, evBody Tryd.prog call m Tryd.f13 [.sl .sh (marks n), .lit (.int .i64 1)] = some (.lit (.int .i64 ((n + 1 : Nat) : Int))) := by
  refine ⟨n + 1, ?_⟩
  apply ends_eq
  rw [ev_body (c := _) rfl, show entry Tryd.f13 [.sl .sh (marks n), .lit (.int .i64 1)] = { s := [.sl .sh (marks n), .lit (.int .i64 1), .undef, .undef, .undef, .undef, .undef, .undef, .undef, .undef, .undef, .undef, .undef, .undef, .undef, .undef, .undef, .undef, .undef, .undef, .undef, .undef], live := fun _ _ => none } from rfl]
  simp -dsimp [Tryd.f13]
  refine lp13 call _ hc rfl hn (fun lv u2 u3 u6 u7 u8 u9 u10 u11 u12 u13 u14 u15 u16 u17 u18 u19 u20 u21 => ?_) n _ 0 1 _ _ _ _ _ _ _ _ _ _ _ _ _ _ _ _ _ _ _ (by omega) (by omega) (by exact (rfl : (1:Nat) = 0 + 1)) (by simp [nc_lit, notCell])
  simp -dsimp [Tryd.f13]
theorem ev8 (call : FuncId → List AV → Option AV) (m : Nat) {n : Nat} (v : Int) (hn : n ≤ 4000) (hc : call 13 [.sl .sh (marks n), .lit (.int .i64 1)] = some (.lit (.int .i64 ((n + 1 : Nat) : Int)))) :
    evBody Tryd.prog call m Tryd.f8 [.agg [.lit (.int .i64 v), .sl .sh (marks n)], .lit (.int .i64 1)] = some (.lit (.int .i64 ((n + 1 : Nat) : Int))) := by
  apply ends_eq
  rw [ev_body (c := _) rfl, show entry Tryd.f8 [.agg [.lit (.int .i64 v), .sl .sh (marks n)], .lit (.int .i64 1)] = { s := [.agg [.lit (.int .i64 v), .sl .sh (marks n)], .lit (.int .i64 1), .undef, .undef, .undef, .undef, .undef, .undef, .undef, .undef, .undef, .undef], live := fun _ _ => none } from rfl]
  have hneg : ¬ (((n + 1 : Nat) : Int) < 0) := by omega
  generalize ((n + 1 : Nat) : Int) = r at hc hneg ⊢
  simp -dsimp [Tryd.f8, hc, hneg, ↓br_dec]
end Go.Proofs.YtcddclkccpfdkaaDoor.EV
