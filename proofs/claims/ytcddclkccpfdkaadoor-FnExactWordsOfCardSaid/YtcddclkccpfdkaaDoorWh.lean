/- The contracts at worlds. -/
import Derived.Test.YtcddclkccpfdkaaDoorWg
import Derived.Test.YtcddclkccpfdkaaDoorTp
set_option linter.unusedSimpArgs false
set_option linter.unusedVariables false
namespace Go.Proofs.YtcddclkccpfdkaaDoor.EV
open Go.RowKit

theorem call_one {P : Program} {d0 : AV} {f : FuncId} {xs : List AV} (hp : Pure P f xs d0) : callR P (fun _ _ d => d = d0) f xs = some d0 := by
  obtain ⟨d, h1, rfl⟩ := callR_spec (R := fun _ _ d => d = d0) ⟨d0, rfl, hp⟩
  exact h1
theorem p18 (k : Nat) (h1 : 1 ≤ k) (h2 : k ≤ 4001) : Pure Tryd.prog 18 [.lit (.int .i64 k)] (.lit (.string (markT k))) :=
  pure_lit (us := [.int .i64 k]) fun w _ => markText_any k w h1 (by omega)
theorem p13 {n : Nat} (hn : n ≤ 4000) : Pure Tryd.prog 13 [.sl .sh (marks n), .lit (.int .i64 1)] (.lit (.int .i64 ((n + 1 : Nat) : Int))) :=
  pure_of (R := fun f xs d => ∃ k : Nat, xs = [.lit (.int .i64 k)] ∧ d = .lit (.string (markT k))) Tryd.func13 (ev13 _ (fun k h1 h2 => by
    obtain ⟨d, h, k', he, rfl⟩ := callR_spec (R := fun f xs d => ∃ k : Nat, xs = [.lit (.int .i64 k)] ∧ d = .lit (.string (markT k))) ⟨_, ⟨k, rfl, rfl⟩, p18 k h1 h2⟩
    simp only [List.cons.injEq, AV.lit.injEq, Value.int.injEq, true_and, and_true] at he
    have : k' = k := by omega
    subst this; exact h) hn)
theorem p8 {n : Nat} (hn : n ≤ 4000) (v : Int) : Pure Tryd.prog 8 [.agg [.lit (.int .i64 v), .sl .sh (marks n)], .lit (.int .i64 1)] (.lit (.int .i64 ((n + 1 : Nat) : Int))) :=
  pure_of Tryd.func8 ⟨0, ev8 _ 0 v hn (call_one (p13 hn))⟩
open Classical in
theorem p11 {x y : List (List AV)} (hx : OkR lay9 x) (hy : OkR lay9 y) : Pure Tryd.prog 11 [.sl .sh x, .sl .sh y] (.lit (.bool (decide (x = y)))) :=
  pure_of (R := fun _ _ _ => False) Tryd.func11 (same11 _ hx hy)
open Classical in
theorem p6 {x y : List AV} (hx : OkL lay24 x) (hy : OkL lay24 y) : Pure Tryd.prog 6 [.agg x, .agg y] (.lit (.bool (decide (x = y)))) :=
  pure_of (R := fun f xs d => ∃ x y, xs = [.sl .sh x, .sl .sh y] ∧ d = .lit (.bool (decide (x = y)))) Tryd.func6 ⟨0, same6 _ 0 (fun x y hx hy => by
    obtain ⟨d, h, x', y', he, rfl⟩ := callR_spec (R := fun f xs d => ∃ x y, xs = [.sl .sh x, .sl .sh y] ∧ d = .lit (.bool (decide (x = y)))) ⟨_, ⟨x, y, rfl, rfl⟩, p11 hx hy⟩
    simp only [List.cons.injEq, AV.sl.injEq, true_and, and_true] at he
    obtain ⟨rfl, rfl⟩ := he
    exact h) hx hy⟩
theorem p14 {s : ByteArray} (hs : s.size ≤ 3000) : Pure Tryd.prog 14 [.lit (.string s), .lit (.int .u8 32)] (.sl (.ow 0 0 9) (cellsS (cutAcc s s.size 0 0))) :=
  pure_of (R := fun _ _ _ => False) Tryd.func14 (ev14 _ hs)
theorem p9 {s : ByteArray} (hs : s.size ≤ 3000) : ∃ o, (o = .ex ∨ o = .ow 0 0 9) ∧ Pure Tryd.prog 9 [.lit (.string s)] (.sl o (cellsS (keepS (cutAcc s s.size 0 0)))) := by
  obtain ⟨m, o, ho, h⟩ := ev9 _ (P := cutAcc s s.size 0 0) (Nat.le_trans (cutAcc_len _ _ _ _) (by omega)) (call_one (p14 hs))
  exact ⟨o, ho, pure_of Tryd.func9 ⟨m, h⟩⟩
theorem p4 (s : ByteArray) : ∃ o, Pure Tryd.prog 4 [.lit (.string s)] (.agg [.lit (.int .i64 (codeOf s)), .sl o (cellsS (namesL s))]) := by
  rw [← names_eq]
  by_cases hs : s.size ≤ 3000
  · obtain ⟨o, ho, hp⟩ := p9 hs
    obtain ⟨o', h⟩ := ev4 _ 0 (fun _ => ⟨o, ho, call_one hp⟩)
    exact ⟨o', pure_of Tryd.func4 ⟨0, h⟩⟩
  · obtain ⟨o', h⟩ := ev4 (callR Tryd.prog fun _ _ _ => False) 0 (s := s) (fun h => absurd h hs)
    exact ⟨o', pure_of Tryd.func4 ⟨0, h⟩⟩

theorem cutAcc_size (s : ByteArray) : ∀ k i fr, ∀ x ∈ cutAcc s k i fr, x.size ≤ s.size
  | 0, i, fr, x, h => by
    simp only [cutAcc, List.mem_singleton] at h; subst h; rw [ByteArray.size_extract]; omega
  | k + 1, i, fr, x, h => by
    simp only [cutAcc] at h
    split at h
    · rcases List.mem_cons.1 h with rfl | h
      · rw [ByteArray.size_extract]; omega
      · exact cutAcc_size s k _ _ x h
    · exact cutAcc_size s k _ _ x h
theorem namesL_size (s : ByteArray) : ∀ x ∈ namesL s, x.size ≤ 3000 := by
  intro x hx
  rw [← names_eq] at hx
  unfold namesS at hx
  split at hx
  · cases hx
  · have := cutAcc_size s _ _ _ x (List.mem_filter.1 hx).1
    omega

theorem cellsS_flat (l : List ByteArray) : (cellsS l).flatten = l.map fun x => AV.lit (.string x) := by
  induction l with
  | nil => rfl
  | cons x l ih =>
    show [AV.lit (.string x)] ++ (cellsS l).flatten = _
    rw [ih]; rfl
/-- the row at A reads as l -/
def RowAt (w : World) (A : Option Addr) (l : List ByteArray) : Prop := ∀ (j : Nat) x, l[j]? = some x → ∃ a, A = some a ∧ w.cell? (a.add j) = some (.string x)
theorem slR_of {w : World} {A : Option Addr} {l : List ByteArray} {c : Nat} (h : RowAt w A l) (hc : l.length ≤ c) : SlR (ctxOf w).Cs (cellsS l) A c := by
  have hf := cellsS_flat l
  refine ⟨1, l.map Value.string, ?_, by rw [cellsS_len]; exact hc, ?_, ?_⟩
  · intro x hx; simp only [cellsS, List.mem_map] at hx; obtain ⟨y, _, rfl⟩ := hx; rfl
  · rw [hf]
    refine ⟨by simp, fun j x y hx hy => ?_⟩
    simp only [List.getElem?_map, Option.map_eq_some_iff] at hx hy
    obtain ⟨u, hu, rfl⟩ := hx
    obtain ⟨v, hv, rfl⟩ := hy
    rw [hu] at hv; cases hv
    exact .lit _ rfl
  · intro j y hy
    simp only [List.getElem?_map, Option.map_eq_some_iff] at hy
    obtain ⟨u, hu, rfl⟩ := hy
    exact h j u hu
theorem vr_of {w : World} {A : Option Addr} {l : List ByteArray} {c : Nat} {v : Value} (h : RowAt w A l) (hc : l.length ≤ c) : VR (ctxOf w) (.agg [.lit v, .sl .sh (cellsS l)]) (.agg #[v, .slice A l.length c]) := by
  have h1 : CR0 (ctxOf w) (.sl .sh (cellsS l)) (.slice A (cellsS l).length c) := .sl (slR_of h hc) trivial
  rw [cellsS_len] at h1
  exact .a (.agg (vs := [v, .slice A l.length c]) (All2.cons (.lit v) (All2.cons h1 All2.nil)))

theorem noTab {P : Program} (w : World) : TabW P w := fun x hx => by simp [tabList] at hx
theorem lit_call {P : Program} {f : FuncId} {xs : List AV} {vs : List Value} {W : World} {v : Value} (hp : Pure P f xs (.lit v)) (hv : All2 (VR (ctxOf W)) xs vs) :
    Calls P f vs.toArray W fun e W' => e = .returned v ∧ Below W.heap.size W W' :=
  (hp (ctxOf W) W vs (noTab W) (fun _ => rfl) (fun _ _ => rfl) (ctx_wi W _) hv).mono fun e W' ⟨v, κ', he, hr⟩ => by
    have h := hr.vr.lit_inv
    subst h; exact ⟨he, hr.bl⟩
theorem add_blk (a : Addr) (j : Nat) : (a.add j).block = a.block := by
  unfold Addr.add; split <;> rfl
theorem RowAt.below {w w' : World} {A : Option Addr} {l : List ByteArray} {g B : Nat} (h : RowAt w A l) (hA : ∀ a, A = some a → a.block < B) (hb : Below B w w') : RowAt w' A l := fun j x hx => by
  obtain ⟨a, ha, hc⟩ := h j x hx
  exact ⟨a, ha, (hb.cell (p := a.add j) (by have := hA a ha; rw [add_blk]; exact this)).trans hc⟩

theorem use4 (s : ByteArray) (w : World) : Calls Tryd.prog 4 #[.string s] w fun e w' => ∃ A c, e = .returned (.agg #[.int .i64 (codeOf s), .slice A (namesL s).length c]) ∧ Below w.heap.size w w' ∧ (namesL s).length ≤ c ∧ RowAt w' A (namesL s) := by
  obtain ⟨o, hp⟩ := p4 s
  refine (hp (ctxOf w) w [.string s] (noTab w) (fun _ => rfl) (fun _ _ => rfl) (ctx_wi w _) (All2.cons (.a (.c (.c0 (.lit _)))) All2.nil)).mono fun e w' ⟨v, κ', he, hr⟩ => ?_
  have h := hr.vr
  cases h with
  | a h => cases h with
    | c h => cases h with
      | c0 h => cases h
    | agg hc =>
      rename_i vs
      obtain ⟨v0, r, rfl, h0, t0⟩ := hc.cons_inv
      obtain ⟨v1, r, rfl, h1, t1⟩ := t0.cons_inv
      have := t1.nil_inv; subst this
      cases h0
      cases h1 with
      | sl hs ho =>
        rename_i A c
        obtain ⟨k, vs, hk, hlc, hv, hcs⟩ := hs.out
        rw [cellsS_len] at hlc he
        refine ⟨A, c, he, hr.bl, hlc, fun j x hx => ?_⟩
        rw [cellsS_flat] at hv
        obtain ⟨y, hy, hpr⟩ := hv.get (j := j) (x := .lit (.string x)) (by simp [hx])
        obtain ⟨a, ha, hca⟩ := hcs j y hy
        cases hpr
        exact ⟨a, ha, hr.wi.cs _ _ hca⟩

theorem okL_of {l : List ByteArray} {c : Int} (hl : l.length ≤ 3001) (hs : ∀ x ∈ l, x.size ≤ 3000) (h0 : IntKind.i64.wrap c = c) : OkL lay24 [.lit (.int .i64 c), .sl .sh (cellsS l)] := by
  simp only [okl_cons, okl_nil, okc_sl, okc_int, and_true]
  refine ⟨h0, by rw [cellsS_len]; omega, fun r hr => ?_⟩
  · simp only [cellsS, List.mem_map] at hr
    obtain ⟨x, hx, rfl⟩ := hr
    have := hs x hx
    simp only [okl_cons, okl_nil, okc_str, and_true]
    omega
theorem use6 {s : ByteArray} {w : World} {A A' : Option Addr} {c c' : Nat} (h : RowAt w A (namesL s)) (h' : RowAt w A' (namesL s)) (hl : (namesL s).length ≤ 3001) (hc : (namesL s).length ≤ c) (hc' : (namesL s).length ≤ c') :
    Calls Tryd.prog 6 #[.agg #[.int .i64 (codeOf s), .slice A (namesL s).length c], .agg #[.int .i64 (codeOf s), .slice A' (namesL s).length c']] w fun e W' => e = .returned (.bool true) ∧ Below w.heap.size w W' := by
  have hok : OkL lay24 [.lit (.int .i64 (codeOf s)), .sl .sh (cellsS (namesL s))] := okL_of hl (namesL_size s) (by unfold codeOf; split <;> decide)
  have hp := p6 hok hok
  simp only [decide_true] at hp
  exact lit_call hp (All2.cons (vr_of h hc) (All2.cons (vr_of h' hc') All2.nil))
def marksL (n : Nat) : List ByteArray := (List.range n).map fun j => markT (j + 1)
theorem marks_eq (n : Nat) : marks n = cellsS (marksL n) := by simp [marks, cellsS, marksL]
theorem use8 {n : Nat} (hn : n ≤ 4000) {w : World} {A : Option Addr} {c : Nat} {v : Int} (h : RowAt w A (marksL n)) (hc : n ≤ c) :
    Calls Tryd.prog 8 #[.agg #[.int .i64 v, .slice A n c], .int .i64 1] w fun e W' => e = .returned (.int .i64 ((n + 1 : Nat) : Int)) ∧ Below w.heap.size w W' := by
  have hp := p8 hn v
  rw [marks_eq] at hp
  have hml : (marksL n).length = n := by simp [marksL]
  have := vr_of (v := .int .i64 v) h (by rw [hml]; exact hc)
  rw [hml] at this
  exact lit_call hp (All2.cons this (All2.cons (.a (.c (.c0 (.lit _)))) All2.nil))
theorem rowAt_marks {w : World} {A : Option Addr} {blk : Nat} {d : List ByteArray} (hA : d ≠ [] → A = some ⟨blk, 0, none⟩) (h : MarkRow w blk d d.length) : RowAt w A (marksL d.length) := fun j x hx => by
  have hj : j < d.length := by have := (List.getElem?_eq_some_iff.1 hx).1; simpa [marksL] using this
  refine ⟨_, hA (by intro e; rw [e] at hj; simp at hj), ?_⟩
  rw [Addr.add_lit, Nat.zero_add, (h j hj).1, if_pos hj]
  simp [marksL, hj] at hx
  rw [hx]
theorem rowAt_names {w : World} {A : Option Addr} {blk : Nat} {d : List ByteArray} (hA : d ≠ [] → A = some ⟨blk, 0, none⟩) (h : MarkRow w blk d 0) : RowAt w A d := fun j x hx => by
  have hj : j < d.length := (List.getElem?_eq_some_iff.1 hx).1
  refine ⟨_, hA (by intro e; rw [e] at hj; simp at hj), ?_⟩
  rw [Addr.add_lit, Nat.zero_add, (h j hj).1, if_neg (by omega)]
  simp [List.getD, hx]
end Go.Proofs.YtcddclkccpfdkaaDoor.EV
