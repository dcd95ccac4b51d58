/- spec.WordsOf: by rewriting. -/
import Derived.Test.YtcddclkccpfdkaaDoorWd
set_option linter.unusedSimpArgs false
set_option linter.unusedVariables false
set_option maxHeartbeats 4000000
set_option maxRecDepth 20000
namespace Go.Proofs.YtcddclkccpfdkaaDoor.EV
open Go.RowKit
open Classical

def cellsS (l : List ByteArray) : List (List AV) := l.map fun x => [.lit (.string x)]
theorem cellsS_len (l : List ByteArray) : (cellsS l).length = l.length := by simp [cellsS]
theorem cellsS_snoc (l : List ByteArray) (x : ByteArray) : cellsS l ++ [[.lit (.string x)]] = cellsS (l ++ [x]) := by simp [cellsS]
theorem cellsS_sized (l : List ByteArray) : sized 1 (cellsS l) = true := by unfold sized cellsS; simp
/-- the byte at i -/
def byteAt (s : ByteArray) (i : Nat) : Nat := (s.data.toList.getD i 0).toNat
theorem byteAt_eq {s : ByteArray} {i : Nat} (h : i < s.size) : (s[i]'h).toNat = byteAt s i := by
  unfold byteAt
  have h2 : i < s.data.size := h
  simp only [List.getD, Array.getElem?_toList, Array.getElem?_eq_getElem h2, Option.getD_some]
  rfl
theorem binA_leq {P : Program} (t : TypeId) (a b : Int) : binA P .leq t (.lit (.int .i64 a)) (.lit (.int .i64 b)) = some (.lit (.bool (decide (a ≤ b)))) := by simp [binA, binI]
attribute [simp] binA_leq
/-- the pieces from i on; 'fr': where the piece under way began -/
def cutAcc (s : ByteArray) : Nat → Nat → Nat → List ByteArray
  | 0, i, fr => [s.extract fr i]
  | k + 1, i, fr => if byteAt s i = 32 then s.extract fr i :: cutAcc s k (i + 1) (i + 1) else cutAcc s k (i + 1) fr

theorem lp14 (call : FuncId → List AV → Option AV) (m : Nat)
    {c : Code} (hcd : c = loopIn Tryd.f14 0) {s : ByteArray} (hs : s.size ≤ 3000) {F : Ex × Env → Prop} (R : List ByteArray)
    (h1 : ∀ (lv : Nat → Nat → Option Nat) (fr i : AV) (u2 u3 u8 u9 u10 u11 u12 u13 u14 u15 u16 u17 u18 u19 u20 u21 u22 u23 u24 u25 u26 u27 u28 u29 u30 u31 u32 u33 u34 u35 : AV), lv 32 0 = some R.length → F (.exit 0, { s := [.lit (.string s), .lit (.int .u8 32), u2, u3, .sl .ex [], .sl (.ow 32 0 9) (cellsS R), fr, i, u8, u9, u10, u11, u12, u13, u14, u15, u16, u17, u18, u19, u20, u21, u22, u23, u24, u25, u26, u27, u28, u29, u30, u31, u32, u33, u34, u35], live := lv })) :
    ∀ (k N i fr : Nat) (L : List ByteArray) (o : Own) (lv : Nat → Nat → Option Nat) (u2 u3 u8 u9 u10 u11 u12 u13 u14 u15 u16 u17 u18 u19 u20 u21 u22 u23 u24 u25 u26 u27 u28 u29 u30 u31 u32 u33 u34 u35 : AV), k + 1 < N → k + i = s.size → fr ≤ i → L.length ≤ i → R = L ++ cutAcc s k i fr →
      ((o = .ex ∧ L = []) ∨ (o = .ow 32 0 9 ∧ lv 32 0 = some L.length)) →
      Ends (evLoop (evCode Tryd.prog call m c) N { s := [.lit (.string s), .lit (.int .u8 32), u2, u3, .sl .ex [], .sl o (cellsS L), .lit (.int .i64 (fr : Int)), .lit (.int .i64 (i : Int)), u8, u9, u10, u11, u12, u13, u14, u15, u16, u17, u18, u19, u20, u21, u22, u23, u24, u25, u26, u27, u28, u29, u30, u31, u32, u33, u34, u35], live := lv }) F := by
  have fin : ∀ (N i : Nat) (fr : AV) (lv : Nat → Nat → Option Nat) (u2 u3 u8 u9 u10 u11 u12 u13 u14 u15 u16 u17 u18 u19 u20 u21 u22 u23 u24 u25 u26 u27 u28 u29 u30 u31 u32 u33 u34 u35 : AV), 0 < N → s.size < i → lv 32 0 = some R.length →
      Ends (evLoop (evCode Tryd.prog call m c) N { s := [.lit (.string s), .lit (.int .u8 32), u2, u3, .sl .ex [], .sl (.ow 32 0 9) (cellsS R), fr, .lit (.int .i64 (i : Int)), u8, u9, u10, u11, u12, u13, u14, u15, u16, u17, u18, u19, u20, u21, u22, u23, u24, u25, u26, u27, u28, u29, u30, u31, u32, u33, u34, u35], live := lv }) F := by
    intro N i fr lv u2 u3 u8 u9 u10 u11 u12 u13 u14 u15 u16 u17 u18 u19 u20 u21 u22 u23 u24 u25 u26 u27 u28 u29 u30 u31 u32 u33 u34 u35 hN hi hlv
    obtain ⟨N, rfl⟩ : ∃ N', N = N' + 1 := ⟨N - 1, by omega⟩
    have hle : ¬ ((i : Int) ≤ (s.size : Int)) := by omega
    rw [ev_turn hcd]
    simp -dsimp [Tryd.f14, ↓br_dec, hle]
    exact h1 _ _ _ _ _ _ _ _ _ _ _ _ _ _ _ _ _ _ _ _ _ _ _ _ _ _ _ _ _ _ _ _ _ hlv
  intro k
  induction k with
  | zero =>
    intro N i fr L o lv u2 u3 u8 u9 u10 u11 u12 u13 u14 u15 u16 u17 u18 u19 u20 u21 u22 u23 u24 u25 u26 u27 u28 u29 u30 u31 u32 u33 u34 u35 hN hk hfr hL hR ho
    obtain ⟨N, rfl⟩ : ∃ N', N = N' + 1 := ⟨N - 1, by omega⟩
    have hi : i = s.size := by omega
    subst hi
    have hsz := cellsS_sized L
    have hq : (∀ x, x ∈ cellsS L → x.length = 1) = True := eq_true (by unfold sized at hsz; simpa using hsz)
    have hcl := cellsS_len L
    have hbd : s.size < 9223372036854775807 := by omega
    have hM : (cellsS L).length + 1 ≤ maxLen := by unfold maxLen; omega
    have hLI : ((cellsS L).length + 1) * 16 ≤ LIM := by unfold LIM; omega
    have hsn := cellsS_snoc L (s.extract fr s.size)
    simp only [cutAcc] at hR
    rw [← hR] at hsn
    have hRl : R.length = L.length + 1 := by rw [hR]; simp
    rw [ev_turn hcd]
    have hM' : L.length + 1 ≤ maxLen := by rw [← hcl]; exact hM
    have hLI' : (L.length + 1) * 16 ≤ LIM := by rw [← hcl]; exact hLI
    have hlt : s.size < s.size + 1 := by omega
    have hw := wrap_small hbd
    rcases ho with ⟨rfl, rfl⟩ | ⟨rfl, hlv⟩
    · have hc0 : cellsS [] = [] := rfl
      rw [hc0, List.nil_append] at hsn
      rw [hc0]
      simp -dsimp [Tryd.f14, ↓br_dec, setCells, chunk1, LIT, appendStep, sized, maxLen, LIM, indexA, sliceA, cutA, hw, hfr]
      rw [hsn]
      exact fin N _ _ _ _ _ _ _ _ _ _ _ _ _ _ _ _ _ _ _ _ _ _ _ _ _ _ _ _ _ _ _ _ _ (by omega) hlt (by simp [hRl])
    · simp -dsimp [Tryd.f14, ↓br_dec, setCells, chunk1, LIT, appendStep, hq, hM', hLI', hlv, sized, indexA, sliceA, cutA, hw, hfr, hcl]
      rw [hsn]
      exact fin N _ _ _ _ _ _ _ _ _ _ _ _ _ _ _ _ _ _ _ _ _ _ _ _ _ _ _ _ _ _ _ _ _ (by omega) hlt (by simp [hRl])
  | succ k ih =>
    intro N i fr L o lv u2 u3 u8 u9 u10 u11 u12 u13 u14 u15 u16 u17 u18 u19 u20 u21 u22 u23 u24 u25 u26 u27 u28 u29 u30 u31 u32 u33 u34 u35 hN hk hfr hL hR ho
    obtain ⟨N, rfl⟩ : ∃ N', N = N' + 1 := ⟨N - 1, by omega⟩
    have hlt : i < s.size := by omega
    have hle : ((i : Int) ≤ (s.size : Int)) := by omega
    have hne : ¬ ((i : Int) = (s.size : Int)) := by omega
    have hsz := cellsS_sized L
    have hq : (∀ x, x ∈ cellsS L → x.length = 1) = True := eq_true (by unfold sized at hsz; simpa using hsz)
    have hcl := cellsS_len L
    have hbd : i < 9223372036854775807 := by omega
    have hM' : L.length + 1 ≤ maxLen := by unfold maxLen; omega
    have hLI' : (L.length + 1) * 16 ≤ LIM := by unfold LIM; omega
    have hsn := cellsS_snoc L (s.extract fr i)
    have hby := byteAt_eq hlt
    have hile : i ≤ s.size := by omega
    have hw := wrap_small hbd
    simp only [cutAcc] at hR
    rw [ev_turn hcd]
    by_cases hb : byteAt s i = 32
    · rw [if_pos hb] at hR
      have hbi : ((byteAt s i : Nat) : Int) = 32 := by omega
      have hR' : R = (L ++ [s.extract fr i]) ++ cutAcc s k (i + 1) (i + 1) := by rw [hR]; simp
      rcases ho with ⟨rfl, rfl⟩ | ⟨rfl, hlv⟩
      · have hc0 : cellsS [] = [] := rfl
        rw [hc0, List.nil_append] at hsn
        rw [hc0]
        simp -dsimp [Tryd.f14, ↓br_dec, setCells, chunk1, LIT, appendStep, sized, maxLen, LIM, indexA, sliceA, cutA, hw, hfr, hlt, hle, hne, hby, hbi, hile]
        rw [hsn]
        exact ih N (i + 1) (i + 1) _ _ _ _ _ _ _ _ _ _ _ _ _ _ _ _ _ _ _ _ _ _ _ _ _ _ _ _ _ _ _ _ _ (by omega) (by omega) (Nat.le_refl _) (by simp) hR' (.inr ⟨rfl, by simp⟩)
      · simp -dsimp [Tryd.f14, ↓br_dec, setCells, chunk1, LIT, appendStep, hq, hM', hLI', hlv, sized, indexA, sliceA, cutA, hw, hfr, hcl, hlt, hle, hne, hby, hbi, hile]
        rw [hsn]
        exact ih N (i + 1) (i + 1) _ _ _ _ _ _ _ _ _ _ _ _ _ _ _ _ _ _ _ _ _ _ _ _ _ _ _ _ _ _ _ _ _ (by omega) (by omega) (Nat.le_refl _) (by simp; omega) hR' (.inr ⟨rfl, by simp⟩)
    · rw [if_neg hb] at hR
      have hbi : ¬ ((byteAt s i : Nat) : Int) = 32 := by omega
      rcases ho with ⟨rfl, rfl⟩ | ⟨rfl, hlv⟩
      · simp -dsimp [Tryd.f14, ↓br_dec, setCells, indexA, hw, hlt, hle, hne, hby, hbi]
        exact ih N (i + 1) fr _ _ _ _ _ _ _ _ _ _ _ _ _ _ _ _ _ _ _ _ _ _ _ _ _ _ _ _ _ _ _ _ _ (by omega) (by omega) (by omega) (by simp) hR (.inl ⟨rfl, rfl⟩)
      · simp -dsimp [Tryd.f14, ↓br_dec, setCells, indexA, hw, hlt, hle, hne, hby, hbi]
        exact ih N (i + 1) fr _ _ _ _ _ _ _ _ _ _ _ _ _ _ _ _ _ _ _ _ _ _ _ _ _ _ _ _ _ _ _ _ _ (by omega) (by omega) (by omega) (by omega) hR (.inr ⟨rfl, hlv⟩)
end Go.Proofs.YtcddclkccpfdkaaDoor.EV
