/- OutText: head lines with a name. -/
import Derived.Test.YtiagpplidnfabaaDoorOa
set_option linter.unusedSimpArgs false
set_option linter.unusedVariables false
set_option maxHeartbeats 4000000
set_option maxRecDepth 20000
namespace Go.Proofs.YtiagpplidnfabaaDoor.EV
open Go.RowKit
open Classical

/-- has a head line this name? -/
noncomputable def alH (nm : ByteArray) : List AV → Bool
  | [.lit (.string a), _] => decide (lowS a = lowS nm)
  | _ => false
def valH : List AV → List AV
  | [_, v] => [v]
  | _ => [.junk]
noncomputable def vals (nm : ByteArray) (es : List (List AV)) : List (List AV) := (es.filter (alH nm)).map valH
noncomputable def anyAl (nm : ByteArray) (es : List (List AV)) : Bool := es.any (alH nm)
theorem vals_sized (nm : ByteArray) (es : List (List AV)) : sized 1 (vals nm es) = true := by
  unfold sized vals
  simp only [List.all_map, List.all_eq_true]
  intro r _
  simp only [Function.comp]
  unfold valH
  split <;> rfl
theorem vals_len (nm : ByteArray) (es : List (List AV)) : (vals nm es).length ≤ es.length := by
  unfold vals; rw [List.length_map]; exact List.length_filter_le _ _
theorem vals_snoc (nm : ByteArray) (es : List (List AV)) (r : List AV) : vals nm (es ++ [r]) = if alH nm r = true then vals nm es ++ [valH r] else vals nm es := by
  unfold vals
  rw [List.filter_append, List.map_append]
  by_cases h : alH nm r = true <;> simp [h]
theorem anyAl_snoc (nm : ByteArray) (es : List (List AV)) (r : List AV) : anyAl nm (es ++ [r]) = (anyAl nm es || alH nm r) := by simp [anyAl]
theorem vals_nil (nm : ByteArray) (es : List (List AV)) : (vals nm es = []) = (anyAl nm es = false) := by
  apply propext
  unfold vals anyAl
  simp [List.filter_eq_nil_iff]

theorem lp30 (call : FuncId → List AV → Option AV) (m : Nat) (nm : ByteArray) (hnm : nm.size ≤ 1073741824) (hc : ∀ s t : ByteArray, s.size ≤ 1073741824 → t.size ≤ 1073741824 → call 37 [.lit (.string s), .lit (.string t)] = some (.lit (.bool (decide (lowS s = lowS t)))))
    {c : Code} (hcd : c = loopIn Tryd.f30 0) {es : List (List AV)} (he : OkR lay71 es) {F : Ex × Env → Prop}
    (h1 : ∀ (o : Own) (lv : Nat → Nat → Option Nat) (u2 u3 u6 u7 u8 u11 u12 u13 u14 u15 u16 u17 u18 u19 u20 u21 u22 u23 u24 u25 : AV), ((o = .ex ∧ vals nm es = []) ∨ (o = .ow 23 0 9 ∧ lv 23 0 = some (vals nm es).length)) → F (.exit 0, { s := [.sl .sh es, .lit (.string nm), u2, u3, .sl .ex [], .sl o (vals nm es), u6, u7, u8, .sl .sh es, .lit (.int .i64 (es.length : Int)), u11, u12, u13, u14, u15, u16, u17, u18, u19, u20, u21, u22, u23, u24, u25], live := lv })) :
    ∀ (k N i : Nat) (o : Own) (lv : Nat → Nat → Option Nat) (u2 u3 u6 u7 u8 u12 u13 u14 u15 u16 u17 u18 u19 u20 u21 u22 u23 u24 u25 : AV), k < N → k + i = es.length →
      ((o = .ex ∧ vals nm (es.take i) = []) ∨ (o = .ow 23 0 9 ∧ lv 23 0 = some (vals nm (es.take i)).length)) →
      Ends (evLoop (evCode Tryd.prog call m c) N { s := [.sl .sh es, .lit (.string nm), u2, u3, .sl .ex [], .sl o (vals nm (es.take i)), u6, u7, u8, .sl .sh es, .lit (.int .i64 (es.length : Int)), .lit (.int .i64 (i : Int)), u12, u13, u14, u15, u16, u17, u18, u19, u20, u21, u22, u23, u24, u25], live := lv }) F := by
  intro k
  induction k with
  | zero =>
    intro N i o lv u2 u3 u6 u7 u8 u12 u13 u14 u15 u16 u17 u18 u19 u20 u21 u22 u23 u24 u25 hN hk ho
    obtain ⟨N, rfl⟩ : ∃ N', N = N' + 1 := ⟨N - 1, by omega⟩
    have hi : i = es.length := by omega
    subst hi
    rw [List.take_of_length_le (Nat.le_refl _)] at ho ⊢
    rw [ev_turn hcd]
    simp -dsimp [Tryd.f30]
    exact h1 o _ _ _ _ _ _ _ _ _ _ _ _ _ _ _ _ _ _ _ _ _ ho
  | succ k ih =>
    intro N i o lv u2 u3 u6 u7 u8 u12 u13 u14 u15 u16 u17 u18 u19 u20 u21 u22 u23 u24 u25 hN hk ho
    obtain ⟨N, rfl⟩ : ∃ N', N = N' + 1 := ⟨N - 1, by omega⟩
    obtain ⟨x, hx, hxo, hxt⟩ := he.get (i := i) (by omega)
    have hlt : ((i : Int) < (es.length : Int)) := by omega
    have hbd : i < 9223372036854775807 := by have := he.1; omega
    obtain ⟨c0, r, rfl, hc0, t0⟩ := hxo.cons_inv
    obtain ⟨a, rfl, wa⟩ := hc0.str_inv
    obtain ⟨c1, r, rfl, hc1, t1⟩ := t0.cons_inv
    obtain ⟨b, rfl, wb⟩ := hc1.str_inv
    have := t1.nil_inv; subst this
    have hcc := hc a nm wa hnm
    have hsz := vals_sized nm (es.take i)
    have hq : (∀ x, x ∈ vals nm (es.take i) → x.length = 1) = True := eq_true (by unfold sized at hsz; simpa using hsz)
    have hvl := vals_len nm (es.take i)
    have htl : (es.take i).length ≤ es.length := by simp; omega
    have hel := he.1
    have hM : (vals nm (es.take i)).length + 1 ≤ maxLen := by unfold maxLen; omega
    have hL : ((vals nm (es.take i)).length + 1) * 16 ≤ LIM := by unfold LIM; omega
    have hsn := vals_snoc nm (es.take i) [.lit (.string a), .lit (.string b)]
    rw [← hxt] at hsn
    rw [ev_turn hcd]
    by_cases hal : lowS a = lowS nm
    · simp only [alH, hal, decide_true, if_true, valH] at hsn
      rcases ho with ⟨rfl, hv⟩ | ⟨rfl, hlv⟩
      · rw [hv]
        rw [hv] at hsn
        simp -dsimp [Tryd.f30, hlt, hx, wrap_small hbd, hcc, hal, ↓br_dec, setCells, chunk1, LIT, appendStep, sized, maxLen, LIM]
        simp only [List.nil_append] at hsn
        rw [← hsn]
        refine ih N (i + 1) _ _ _ _ _ _ _ _ _ _ _ _ _ _ _ _ _ _ _ _ _ (by omega) (by omega) (.inr ⟨rfl, ?_⟩)
        simp [hsn]
      · simp -dsimp [Tryd.f30, hlt, hx, wrap_small hbd, hcc, hal, ↓br_dec, setCells, chunk1, LIT, appendStep, hq, hM, hL, hlv, sized]
        rw [← hsn]
        refine ih N (i + 1) _ _ _ _ _ _ _ _ _ _ _ _ _ _ _ _ _ _ _ _ _ (by omega) (by omega) (.inr ⟨rfl, ?_⟩)
        simp [hsn]
    · have hsn' : vals nm (es.take (i + 1)) = vals nm (es.take i) := by rw [hsn]; simp [alH, hal]
      rcases ho with ⟨rfl, hv⟩ | ⟨rfl, hlv⟩
      · simp -dsimp [Tryd.f30, hlt, hx, wrap_small hbd, hcc, hal, ↓br_dec, setCells]
        rw [← hsn']
        exact ih N (i + 1) _ _ _ _ _ _ _ _ _ _ _ _ _ _ _ _ _ _ _ _ _ (by omega) (by omega) (.inl ⟨rfl, by rw [hsn']; exact hv⟩)
      · simp -dsimp [Tryd.f30, hlt, hx, wrap_small hbd, hcc, hal, ↓br_dec, setCells]
        rw [← hsn']
        exact ih N (i + 1) _ _ _ _ _ _ _ _ _ _ _ _ _ _ _ _ _ _ _ _ _ (by omega) (by omega) (.inr ⟨rfl, by rw [hsn']; simpa using hlv⟩)
/-- the values of all head lines with a name -/
theorem ev30 (call : FuncId → List AV → Option AV) (nm : ByteArray) (hnm : nm.size ≤ 1073741824) (hc : ∀ s t : ByteArray, s.size ≤ 1073741824 → t.size ≤ 1073741824 → call 37 [.lit (.string s), .lit (.string t)] = some (.lit (.bool (decide (lowS s = lowS t)))))
    {es : List (List AV)} (he : OkR lay71 es) : ∃ m o, (o = .ex ∨ o = .ow 0 0 9) ∧ evBody Tryd.prog call m Tryd.f30 [.sl .sh es, .lit (.string nm)] = some (.sl o (vals nm es)) := by
  suffices h : Ends (evBody Tryd.prog call (es.length + 1) Tryd.f30 [.sl .sh es, .lit (.string nm)]) (fun d => ∃ o, (o = .ex ∨ o = .ow 0 0 9) ∧ d = .sl o (vals nm es)) by
    obtain ⟨d, h1, o, ho, rfl⟩ := h; exact ⟨_, o, ho, h1⟩
  rw [ev_body (c := _) rfl, show entry Tryd.f30 [.sl .sh es, .lit (.string nm)] = { s := [.sl .sh es, .lit (.string nm), .undef, .undef, .undef, .undef, .undef, .undef, .undef, .undef, .undef, .undef, .undef, .undef, .undef, .undef, .undef, .undef, .undef, .undef, .undef, .undef, .undef, .undef, .undef, .undef], live := fun _ _ => none } from rfl]
  simp -dsimp [Tryd.f30, chunk1, LIT]
  refine lp30 call _ nm hnm hc rfl he (fun o lv u2 u3 u6 u7 u8 u11 u12 u13 u14 u15 u16 u17 u18 u19 u20 u21 u22 u23 u24 u25 ho => ?_) es.length _ 0 .ex _ _ _ _ _ _ _ _ _ _ _ _ _ _ _ _ _ _ _ _ (by omega) (by omega) (.inl ⟨rfl, rfl⟩)
  rcases ho with ⟨rfl, hv⟩ | ⟨rfl, hlv⟩
  · simp -dsimp [Tryd.f30]
  · simp -dsimp [Tryd.f30, hlv]

/-- the first value: it is asked here whether there is one -/
theorem ev18 (call : FuncId → List AV → Option AV) (m : Nat) (nm : ByteArray) {es : List (List AV)} (he : OkR lay71 es) (hc : ∃ o, (o = .ex ∨ o = .ow 0 0 9) ∧ call 30 [.sl .sh es, .lit (.string nm)] = some (.sl o (vals nm es))) :
    ∃ t, evBody Tryd.prog call m Tryd.f18 [.sl .sh es, .lit (.string nm)] = some (.tup [.lit (.string t), .lit (.bool (anyAl nm es))]) := by
  suffices h : Ends (evBody Tryd.prog call m Tryd.f18 [.sl .sh es, .lit (.string nm)]) (fun d => ∃ t, d = .tup [.lit (.string t), .lit (.bool (anyAl nm es))]) by
    obtain ⟨d, h1, t, rfl⟩ := h; exact ⟨t, h1⟩
  obtain ⟨o, ho, hc⟩ := hc
  rw [ev_body (c := _) rfl, show entry Tryd.f18 [.sl .sh es, .lit (.string nm)] = { s := [.sl .sh es, .lit (.string nm), .undef, .undef, .undef, .undef, .undef, .undef, .undef, .undef, .undef, .undef, .undef, .undef, .undef, .undef], live := fun _ _ => none } from rfl]
  cases hv : vals nm es with
  | nil =>
    have hn : anyAl nm es = false := by rw [← vals_nil]; exact hv
    rw [hv] at hc
    rcases ho with rfl | rfl <;> simp -dsimp [Tryd.f18, hc, hn, ↓br_dec, finC]
  | cons r l =>
    have hn : anyAl nm es = true := by
      cases h : anyAl nm es with
      | true => rfl
      | false => rw [← vals_nil, hv] at h; cases h
    rw [hv] at hc
    have hr : ∃ t, r = [.lit (.string t)] := by
      have hm : r ∈ vals nm es := by rw [hv]; simp
      unfold vals at hm
      simp only [List.mem_map, List.mem_filter] at hm
      obtain ⟨x, ⟨hx, _⟩, rfl⟩ := hm
      obtain ⟨c0, q, rfl, hc0, t0⟩ := (he.2 x hx).cons_inv
      obtain ⟨a, rfl, wa⟩ := hc0.str_inv
      obtain ⟨c1, q, rfl, hc1, t1⟩ := t0.cons_inv
      obtain ⟨b, rfl, wb⟩ := hc1.str_inv
      have := t1.nil_inv; subst this
      exact ⟨b, rfl⟩
    obtain ⟨t, rfl⟩ := hr
    have hl : ¬ ((l.length : Int) + 1 = 0) := by omega
    rcases ho with rfl | rfl <;> simp -dsimp [Tryd.f18, hc, hn, ↓br_dec, finC, natA, hl]
end Go.Proofs.YtiagpplidnfabaaDoor.EV
