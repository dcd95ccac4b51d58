/- spec.WordsOf: by rewriting, second part. -/
import Derived.Test.YtcddclkccpfdkaaDoorWe
set_option linter.unusedSimpArgs false
set_option linter.unusedVariables false
set_option maxHeartbeats 4000000
set_option maxRecDepth 20000
namespace Go.Proofs.YtcddclkccpfdkaaDoor.EV
open Go.RowKit
open Classical

theorem cutAcc_len (s : ByteArray) : ∀ k i fr, (cutAcc s k i fr).length ≤ k + 1
  | 0, i, fr => by simp [cutAcc]
  | k + 1, i, fr => by
    have h1 := cutAcc_len s k (i + 1) (i + 1)
    have h2 := cutAcc_len s k (i + 1) fr
    simp only [cutAcc]; split
    · simp only [List.length_cons]; omega
    · omega
theorem ev14 (call : FuncId → List AV → Option AV) {s : ByteArray} (hs : s.size ≤ 3000) :
    ∃ m, evBody Tryd.prog call m Tryd.f14 [.lit (.string s), .lit (.int .u8 32)] = some (.sl (.ow 0 0 9) (cellsS (cutAcc s s.size 0 0))) := by
  refine ⟨s.size + 2, ?_⟩
  apply ends_eq
  rw [ev_body (c := _) rfl, show entry Tryd.f14 [.lit (.string s), .lit (.int .u8 32)] = { s := [.lit (.string s), .lit (.int .u8 32), .undef, .undef, .undef, .undef, .undef, .undef, .undef, .undef, .undef, .undef, .undef, .undef, .undef, .undef, .undef, .undef, .undef, .undef, .undef, .undef, .undef, .undef, .undef, .undef, .undef, .undef, .undef, .undef, .undef, .undef, .undef, .undef, .undef, .undef], live := fun _ _ => none } from rfl]
  have hcl := cellsS_len (cutAcc s s.size 0 0)
  simp -dsimp [Tryd.f14, chunk1, LIT]
  refine lp14 call _ rfl hs (cutAcc s s.size 0 0) (fun lv fr i u2 u3 u8 u9 u10 u11 u12 u13 u14 u15 u16 u17 u18 u19 u20 u21 u22 u23 u24 u25 u26 u27 u28 u29 u30 u31 u32 u33 u34 u35 hlv => ?_) s.size _ 0 0 [] .ex _ _ _ _ _ _ _ _ _ _ _ _ _ _ _ _ _ _ _ _ _ _ _ _ _ _ _ _ _ _ _ (by omega) (by omega) (Nat.le_refl _) (Nat.le_refl _) rfl (.inl ⟨rfl, rfl⟩)
  simp -dsimp [Tryd.f14, hlv, hcl]

theorem noText_eq (x : ByteArray) : noText x = decide (x = ⟨#[]⟩) := by
  unfold noText
  rw [ByteArray.toList_eq]
  rcases x with ⟨⟨l⟩⟩
  cases l <;> simp
def keepS (l : List ByteArray) : List ByteArray := l.filter fun x => !noText x
theorem keepS_len (l : List ByteArray) : (keepS l).length ≤ l.length := List.length_filter_le _ _

theorem lp9 (call : FuncId → List AV → Option AV) (m : Nat)
    {c : Code} (hcd : c = loopIn Tryd.f9 0) {s : ByteArray} {P : List ByteArray} (hP : P.length ≤ 3001) {F : Ex × Env → Prop}
    (h1 : ∀ (o : Own) (lv : Nat → Nat → Option Nat) (i : AV) (u1 u2 u6 u7 u8 u9 u10 u11 u12 u13 u14 u15 u16 u17 u18 u19 u20 u21 u22 u23 u24 u25 u26 u27 : AV), ((o = .ex ∧ keepS P = []) ∨ (o = .ow 26 0 9 ∧ lv 26 0 = some (keepS P).length)) → F (.exit 0, { s := [.lit (.string s), u1, .sl .ex [], .sl o (cellsS (keepS P)), .sl (.ow 8 0 9) (cellsS P), i, u6, u7, u8, u9, u10, u11, u12, u13, u14, u15, u16, u17, u18, u19, u20, u21, u22, u23, u24, u25, u26, u27], live := lv })) :
    ∀ (k N i : Nat) (o : Own) (lv : Nat → Nat → Option Nat) (u1 u2 u6 u7 u8 u9 u10 u11 u12 u13 u14 u15 u16 u17 u18 u19 u20 u21 u22 u23 u24 u25 u26 u27 : AV), k < N → k + i = P.length →
      ((o = .ex ∧ keepS (P.take i) = []) ∨ (o = .ow 26 0 9 ∧ lv 26 0 = some (keepS (P.take i)).length)) →
      Ends (evLoop (evCode Tryd.prog call m c) N { s := [.lit (.string s), u1, .sl .ex [], .sl o (cellsS (keepS (P.take i))), .sl (.ow 8 0 9) (cellsS P), .lit (.int .i64 (i : Int)), u6, u7, u8, u9, u10, u11, u12, u13, u14, u15, u16, u17, u18, u19, u20, u21, u22, u23, u24, u25, u26, u27], live := lv }) F := by
  intro k
  induction k with
  | zero =>
    intro N i o lv u1 u2 u6 u7 u8 u9 u10 u11 u12 u13 u14 u15 u16 u17 u18 u19 u20 u21 u22 u23 u24 u25 u26 u27 hN hk ho
    obtain ⟨N, rfl⟩ : ∃ N', N = N' + 1 := ⟨N - 1, by omega⟩
    have hi : i = P.length := by omega
    subst hi
    rw [List.take_of_length_le (Nat.le_refl _)] at ho ⊢
    have hpl := cellsS_len P
    rw [ev_turn hcd]
    simp -dsimp [Tryd.f9, ↓br_dec, hpl]
    exact h1 _ _ _ _ .undef _ _ _ _ _ _ _ _ _ _ _ _ _ _ _ _ _ _ _ _ _ _ ho
  | succ k ih =>
    intro N i o lv u1 u2 u6 u7 u8 u9 u10 u11 u12 u13 u14 u15 u16 u17 u18 u19 u20 u21 u22 u23 u24 u25 u26 u27 hN hk ho
    obtain ⟨N, rfl⟩ : ∃ N', N = N' + 1 := ⟨N - 1, by omega⟩
    have hil : i < P.length := by omega
    have hlt : ((i : Int) < (P.length : Int)) := by omega
    have hpl := cellsS_len P
    have hx : (cellsS P)[i]? = some [.lit (.string P[i])] := by simp [cellsS, hil]
    have hbd : i < 9223372036854775807 := by omega
    have hw := wrap_small hbd
    have htk : P.take (i + 1) = P.take i ++ [P[i]] := by rw [List.take_succ_eq_append_getElem hil]
    have hks : keepS (P.take (i + 1)) = keepS (P.take i) ++ (if noText P[i] = true then [] else [P[i]]) := by
      rw [htk]; unfold keepS; rw [List.filter_append]; congr 1
      cases hnt : noText P[i] <;> simp [hnt]
    have hkl : (keepS (P.take i)).length ≤ i := Nat.le_trans (keepS_len _) (by simp; omega)
    have hsz := cellsS_sized (keepS (P.take i))
    have hq : (∀ x, x ∈ cellsS (keepS (P.take i)) → x.length = 1) = True := eq_true (by unfold sized at hsz; simpa using hsz)
    have hcl := cellsS_len (keepS (P.take i))
    have hM' : (keepS (P.take i)).length + 1 ≤ maxLen := by unfold maxLen; omega
    have hLI' : ((keepS (P.take i)).length + 1) * 16 ≤ LIM := by unfold LIM; omega
    have hsn := cellsS_snoc (keepS (P.take i)) P[i]
    generalize P[i] = x at hx hks hsn htk
    rw [noText_eq] at hks
    rw [ev_turn hcd]
    by_cases hb : x = ⟨#[]⟩
    · have hks' : keepS (P.take (i + 1)) = keepS (P.take i) := by rw [hks]; simp [hb]
      rw [← hks'] at ho ⊢
      rcases ho with ⟨rfl, hn⟩ | ⟨rfl, hlv⟩
      · simp -dsimp [Tryd.f9, ↓br_dec, setCells, hw, hlt, hpl, hx, hb]
        exact ih N (i + 1) _ _ _ .undef _ _ _ _ _ _ _ _ _ _ _ _ _ _ _ _ _ _ _ _ _ _ (by omega) (by omega) (.inl ⟨rfl, hn⟩)
      · simp -dsimp [Tryd.f9, ↓br_dec, setCells, hw, hlt, hpl, hx, hb]
        exact ih N (i + 1) _ _ _ .undef _ _ _ _ _ _ _ _ _ _ _ _ _ _ _ _ _ _ _ _ _ _ (by omega) (by omega) (.inr ⟨rfl, hlv⟩)
    · have hks' : keepS (P.take (i + 1)) = keepS (P.take i) ++ [x] := by rw [hks]; simp [hb]
      rw [← hks'] at hsn
      rcases ho with ⟨rfl, hn⟩ | ⟨rfl, hlv⟩
      · have hc0 : cellsS (keepS (P.take i)) = [] := by rw [hn]; rfl
        rw [hc0, List.nil_append] at hsn
        rw [hc0]
        simp -dsimp [Tryd.f9, ↓br_dec, setCells, chunk1, LIT, appendStep, sized, maxLen, LIM, hw, hlt, hpl, hx, hb]
        rw [hsn]
        exact ih N (i + 1) _ _ _ .undef _ _ _ _ _ _ _ _ _ _ _ _ _ _ _ _ _ _ _ _ _ _ (by omega) (by omega) (.inr ⟨rfl, by simp [hks', hn]⟩)
      · simp -dsimp [Tryd.f9, ↓br_dec, setCells, chunk1, LIT, appendStep, hq, hM', hLI', hlv, sized, hw, hcl, hlt, hpl, hx, hb]
        rw [hsn]
        exact ih N (i + 1) _ _ _ .undef _ _ _ _ _ _ _ _ _ _ _ _ _ _ _ _ _ _ _ _ _ _ (by omega) (by omega) (.inr ⟨rfl, by simp [hks']⟩)
theorem ev9 (call : FuncId → List AV → Option AV) {s : ByteArray} {P : List ByteArray} (hP : P.length ≤ 3001) (hc : call 14 [.lit (.string s), .lit (.int .u8 32)] = some (.sl (.ow 0 0 9) (cellsS P))) :
    ∃ m o, (o = .ex ∨ o = .ow 0 0 9) ∧ evBody Tryd.prog call m Tryd.f9 [.lit (.string s)] = some (.sl o (cellsS (keepS P))) := by
  suffices h : Ends (evBody Tryd.prog call (P.length + 1) Tryd.f9 [.lit (.string s)]) (fun d => ∃ o, (o = .ex ∨ o = .ow 0 0 9) ∧ d = .sl o (cellsS (keepS P))) by
    obtain ⟨d, h1, o, ho, rfl⟩ := h; exact ⟨_, o, ho, h1⟩
  rw [ev_body (c := _) rfl, show entry Tryd.f9 [.lit (.string s)] = { s := [.lit (.string s), .undef, .undef, .undef, .undef, .undef, .undef, .undef, .undef, .undef, .undef, .undef, .undef, .undef, .undef, .undef, .undef, .undef, .undef, .undef, .undef, .undef, .undef, .undef, .undef, .undef, .undef, .undef], live := fun _ _ => none } from rfl]
  have hpl := cellsS_len P
  have hkl := cellsS_len (keepS P)
  simp -dsimp [Tryd.f9, hc, chunk1, LIT, hpl]
  refine lp9 call _ rfl (s := s) hP (fun o lv i u1 u2 u6 u7 u8 u9 u10 u11 u12 u13 u14 u15 u16 u17 u18 u19 u20 u21 u22 u23 u24 u25 u26 u27 ho => ?_) P.length _ 0 .ex _ _ .undef _ _ _ _ _ _ _ _ _ _ _ _ _ _ _ _ _ _ _ _ _ _ (by omega) (by omega) (.inl ⟨rfl, rfl⟩)
  rcases ho with ⟨rfl, hv⟩ | ⟨rfl, hlv⟩
  · simp -dsimp [Tryd.f9]
  · simp -dsimp [Tryd.f9, hlv, hkl]
def namesS (s : ByteArray) : List ByteArray := if 3000 < s.size then [] else keepS (cutAcc s s.size 0 0)
theorem ev4 (call : FuncId → List AV → Option AV) (m : Nat) {s : ByteArray} (hc : s.size ≤ 3000 → ∃ o, (o = .ex ∨ o = .ow 0 0 9) ∧ call 9 [.lit (.string s)] = some (.sl o (cellsS (keepS (cutAcc s s.size 0 0))))) :
    ∃ o, evBody Tryd.prog call m Tryd.f4 [.lit (.string s)] = some (.agg [.lit (.int .i64 (codeOf s)), .sl o (cellsS (namesS s))]) := by
  suffices h : Ends (evBody Tryd.prog call m Tryd.f4 [.lit (.string s)]) (fun d => ∃ o, d = .agg [.lit (.int .i64 (codeOf s)), .sl o (cellsS (namesS s))]) by
    obtain ⟨d, h1, o, rfl⟩ := h; exact ⟨_, h1⟩
  rw [ev_body (c := _) rfl, show entry Tryd.f4 [.lit (.string s)] = { s := [.lit (.string s), .undef, .undef, .undef, .undef, .undef, .undef, .undef, .undef, .undef], live := fun _ _ => none } from rfl]
  by_cases hlt : 3000 < s.size
  · have e1 : namesS s = [] := if_pos hlt
    have e2 : codeOf s = 2 := if_pos hlt
    have hlt' : ((s.size : Int) > 3000) := by omega
    have hlt2 : (3000 < (s.size : Int)) := by omega
    rw [e1, e2]
    simp -dsimp [Tryd.f4, hlt', hlt2, ↓br_dec, setCells, buildA, fillA, cellsS, binA, binI]
  · have e1 : namesS s = keepS (cutAcc s s.size 0 0) := if_neg hlt
    have e2 : codeOf s = 0 := if_neg hlt
    have hlt' : ¬ ((s.size : Int) > 3000) := by omega
    have hlt2 : ¬ (3000 < (s.size : Int)) := by omega
    obtain ⟨o, ho, hc9⟩ := hc (by omega)
    rw [e1, e2]
    generalize cellsS (keepS (cutAcc s s.size 0 0)) = es at hc9 ⊢
    rcases ho with rfl | rfl
    · simp -dsimp [Tryd.f4, hlt', hlt2, ↓br_dec, setCells, buildA, fillA, hc9, binA, binI]
    · simp -dsimp [Tryd.f4, hlt', hlt2, ↓br_dec, setCells, buildA, fillA, hc9, binA, binI]
end Go.Proofs.YtcddclkccpfdkaaDoor.EV
