/- markStringS, heldStringS: walked. -/
import Derived.Test.YtcddclkccpfdkaaDoorWb
set_option linter.unusedSimpArgs false
set_option linter.unusedVariables false
namespace Go.Proofs.YtcddclkccpfdkaaDoor.EV
open Go.RowKit Go.Proofs Go.Lib Go.Sort

/-- all that lay lies as it was, but for one block -/
structure But (blk : Nat) (w w' : World) : Prop where
  os : w'.os = w.os
  tape : w'.tape = w.tape
  output : w'.output = w.output
  size : w.heap.size ≤ w'.heap.size
  block : ∀ k, k < w.heap.size → k ≠ blk → w'.heap[k]? = w.heap[k]?
theorem But.refl (blk : Nat) (w : World) : But blk w w := ⟨rfl, rfl, rfl, Nat.le_refl _, fun _ _ _ => rfl⟩
theorem But.below {blk : Nat} {w w' w'' : World} (h : But blk w w') (hb : Go.RowKit.Below w'.heap.size w' w'') : But blk w w'' :=
  ⟨hb.os.trans h.os, hb.tape.trans h.tape, hb.output.trans h.output, Nat.le_trans h.size hb.size, fun k hk hn => (hb.block k (Nat.lt_of_lt_of_le hk h.size)).trans (h.block k hk hn)⟩
theorem But.set {blk : Nat} {w w' : World} (h : But blk w w') (j : Nat) (v : Value) : But blk w (w'.setCell ⟨blk, j, none⟩ v) := by
  have hs : (w'.setCell ⟨blk, j, none⟩ v).heap.size = w'.heap.size := by rw [setCell_eq]; simp [mapBlock]
  exact ⟨h.os, h.tape, h.output, by rw [hs]; exact h.size, fun k hk hn => (Below.heap_setCell w' ⟨blk, j, none⟩ v k hn).trans (h.block k hk hn)⟩
theorem But.old {blk B : Nat} {w0 w w' : World} (h : But blk w w') (h0 : Go.RowKit.Below B w0 w) (hB : B ≤ blk) (hs : B ≤ w.heap.size) : Go.RowKit.Below B w0 w' :=
  ⟨h.os.trans h0.os, h.tape.trans h0.tape, h.output.trans h0.output, Nat.le_trans h0.size h.size, fun k hk => (h.block k (by omega) (by omega)).trans (h0.block k hk)⟩

/-- the row behind j marks -/
def MarkRow (w : World) (blk : Nat) (d : List ByteArray) (j : Nat) : Prop :=
  ∀ t, t < d.length → w.cell? ⟨blk, t, none⟩ = some (.string (if t < j then markT (t + 1) else d.getD t ⟨#[]⟩)) ∧ w.frozen? ⟨blk, t, none⟩ = false
theorem MarkRow.below {w w' : World} {blk : Nat} {d : List ByteArray} {j B : Nat} (h : MarkRow w blk d j) (hb : Go.RowKit.Below B w w') (hlt : blk < B) : MarkRow w' blk d j := fun t ht =>
  ⟨(hb.cell (p := ⟨blk, t, none⟩) hlt).trans (h t ht).1, (hb.frozen (p := ⟨blk, t, none⟩) hlt).trans (h t ht).2⟩
theorem MarkRow.step {w : World} {blk : Nat} {d : List ByteArray} {j : Nat} (h : MarkRow w blk d j) (hj : j < d.length) : MarkRow (w.setCell ⟨blk, j, none⟩ (.string (markT (j + 1)))) blk d (j + 1) := by
  intro t ht
  refine ⟨?_, by rw [World.frozen?_setCell]; exact (h t ht).2⟩
  by_cases hjt : t = j
  · subst hjt
    rw [World.cell?_setCell_same _ _ _ (h t ht).1, if_pos (by omega)]
  · rw [World.cell?_setCell_other _ _ _ _ (by simp; try omega), (h t ht).1]
    congr 2
    by_cases hlt : t < j
    · rw [if_pos hlt, if_pos (by omega)]
    · rw [if_neg hlt, if_neg (by omega)]

theorem But.trans {blk : Nat} {w w' w'' : World} (h : But blk w w') (h' : But blk w' w'') : But blk w w'' :=
  ⟨h'.os.trans h.os, h'.tape.trans h.tape, h'.output.trans h.output, Nat.le_trans h.size h'.size, fun k hk hn => (h'.block k (Nat.lt_of_lt_of_le hk h.size) hn).trans (h.block k hk hn)⟩

set_option maxHeartbeats 1000000 in
theorem markStringS_any (d : List ByteArray) (A : Option Addr) (blk c : Nat) (w : World) (hA : d ≠ [] → A = some ⟨blk, 0, none⟩) (hblk : blk < w.heap.size) (hd : d.length ≤ 4000) (hc : d.length ≤ c) (hrow : MarkRow w blk d 0) :
    Calls Tryd.prog 12 #[.slice A d.length c, .int .i64 1] w fun e w' => e = .returned (.int .i64 (d.length + 1 : Nat)) ∧ But blk w w' ∧ MarkRow w' blk d d.length := by
  go_enter Tryd.func12, Tryd.ntmps12
  go_wp2
  go_loopw [1, 5] (fun kv i wr => ∃ (k j : Nat), Hid (k = j + 1) ∧ j ≤ d.length ∧ kv = .int .i64 k ∧ i = .int .i64 j ∧ But blk w wr ∧ MarkRow wr blk d j) (fun _ i _ => d.length - (intOf i).toNat)
  case atStart => exact ⟨1, 0, rfl, Nat.zero_le _, rfl, rfl, But.refl _ _, hrow⟩
  case round =>
    obtain ⟨k, j, hkj, hj, rfl, rfl, hb, hr⟩ := hrel
    have hk9 : k ≤ 4001 := by have := hkj.out; omega
    have hk1 : 1 ≤ k := by have := hkj.out; omega
    by_cases hlt : j < d.length
    · have hmt := markText_any k wr (by omega) (by omega)
      have hAs : A = some ⟨blk, 0, none⟩ := hA (by intro h; rw [h] at hlt; simp at hlt)
      subst hAs
      go_wp2_with (go_at_call 18; refine hmt.mono ?_; rintro e w2 ⟨rfl, hb2⟩; have hr2 := hr.below hb2 (Nat.lt_of_lt_of_le hblk hb.size); have hc2 := (hr2 j hlt).1; have hf2 := (hr2 j hlt).2; have hbb := hb.below hb2)
      all_goals
        refine ⟨⟨k + 1, j + 1, ?_, hlt, rfl, rfl, hbb.set j _, ?_⟩, by simp [intOf]; omega⟩
        · have := hkj.out; exact (by omega : k + 1 = j + 1 + 1)
        · rw [hkj.out]; exact hr2.step hlt
    · have hje : j = d.length := by omega
      go_wp2
      go_ret
      have := hkj.out
      rw [hje] at hr
      exact ⟨by rw [show k = d.length + 1 by omega]; rfl, hb, hr⟩

set_option maxHeartbeats 1000000 in
theorem markNames_any (d : List ByteArray) (A : Option Addr) (blk c : Nat) (v : Value) (w : World) (hA : d ≠ [] → A = some ⟨blk, 0, none⟩) (hblk : blk < w.heap.size) (hd : d.length ≤ 4000) (hc : d.length ≤ c) (hrow : MarkRow w blk d 0) :
    Calls Tryd.prog 7 #[.agg #[v, .slice A d.length c], .int .i64 1] w fun e w' => e = .returned (.int .i64 (d.length + 1 : Nat)) ∧ But blk w w' ∧ MarkRow w' blk d d.length := by
  have hm : ∀ o : Obj, Calls Tryd.prog 12 #[.slice A d.length c, .int .i64 1] (w.alloc o) fun e w' => e = .returned (.int .i64 (d.length + 1 : Nat)) ∧ But blk w w' ∧ MarkRow w' blk d d.length := fun o => by
    have hb := (Go.RowKit.Below.refl w.heap.size w).alloc (Nat.le_refl _) o
    exact (markStringS_any d A blk c (w.alloc o) hA (Nat.lt_of_lt_of_le hblk hb.size) hd hc (hrow.below hb hblk)).mono fun e w' ⟨he, h1, h2⟩ => ⟨he, ((But.refl blk w).below hb).trans h1, h2⟩
  go_enter Tryd.func7, Tryd.ntmps7
  go_wp2_with (go_at_call 12; refine (hm _).mono ?_; rintro e w2 ⟨rfl, hb, hr⟩)
  go_ret
  exact ⟨rfl, hb, hr⟩

def namesL (s : ByteArray) : List ByteArray := if 3000 < s.size then [] else wordsL s
def codeOf (s : ByteArray) : Int := if 3000 < s.size then 2 else 0
theorem row_set2 {W : World} {g : Nat} {a b x y : Value} {t : TypeId} {fr : Nat × Nat} (h : W.heap[g]? = some (.cells #[a, b] t fr)) : ((W.setCell ⟨g, 0, none⟩ x).setCell ⟨g, 1, none⟩ y).heap[g]? = some (.cells #[x, y] t fr) := by
  rw [setCell_eq, setCell_eq, mapBlock_mapBlock]
  simp [mapBlock, Array.getElem?_modify, h, onCells]
theorem two_cells {w w2 : World} {a b : Value} {t : TypeId} {B : Nat} (hb : Go.RowKit.Below B (w.alloc (.cells #[a, b] t)) w2) (hB : w.heap.size < B) : w2.heap[w.heap.size]? = some (.cells #[a, b] t (0, 0)) ∧ w2.cell? ⟨w.heap.size, 0, none⟩ = some a ∧ w2.cell? ⟨w.heap.size, 1, none⟩ = some b ∧ w2.frozen? ⟨w.heap.size, 0, none⟩ = false ∧ w2.frozen? ⟨w.heap.size, 1, none⟩ = false := by
  refine ⟨(hb.block _ hB).trans (heap_alloc_new w _), ?_, ?_, ?_, ?_⟩
  · exact (hb.cell (p := ⟨w.heap.size, 0, none⟩) hB).trans (by rw [World.cell?_alloc_new]; rfl)
  · exact (hb.cell (p := ⟨w.heap.size, 1, none⟩) hB).trans (by rw [World.cell?_alloc_new]; rfl)
  · exact (hb.frozen (p := ⟨w.heap.size, 0, none⟩) hB).trans (by rw [World.frozen?_alloc_new])
  · exact (hb.frozen (p := ⟨w.heap.size, 1, none⟩) hB).trans (by rw [World.frozen?_alloc_new])

set_option maxHeartbeats 1000000 in
theorem wordsOfR_any (s : ByteArray) (m : Int) (w : World) (h0 : 0 < w.heap.size) (hm : w.cell? ⟨0, 0, none⟩ = some (.int .i64 m)) :
    Calls Tryd.prog 5 #[.string s] w fun e w' => ∃ A c blk, e = .returned (.agg #[.int .i64 (codeOf s), .slice A (namesL s).length c]) ∧ (namesL s ≠ [] → A = some ⟨blk, 0, none⟩) ∧ w.heap.size ≤ blk ∧ blk < w'.heap.size ∧ Go.RowKit.Below w.heap.size w w' ∧ MarkRow w' blk (namesL s) 0 ∧ (namesL s).length ≤ c ∧ (namesL s).length ≤ 3001 := by
  have hal := fun o => (Go.RowKit.Below.refl w.heap.size w).alloc (Nat.le_refl _) o
  by_cases hlt : 3000 < s.size
  · have e1 : namesL s = [] := if_pos hlt
    have e2 : codeOf s = 2 := if_pos hlt
    rw [e1, e2]
    have h2 := two_cells (w := w) (a := .int .i64 0) (b := .slice none 0 0) (t := 24) (B := w.heap.size + 1) (Go.RowKit.Below.refl _ _) (by omega)
    go_enter Tryd.func5, Tryd.ntmps5
    go_wp2
    try simp only [Exit.inBlock, Exit.then]
    refine bodyPost_ret (results_cell_row rfl _ _ w.heap.size 24 _ (0, 0) _ rfl (heap_alloc_new w _) Tryd.underlying24 rfl rfl) rfl ?_
    exact ⟨none, 0, w.heap.size, rfl, fun h => absurd rfl h, Nat.le_refl _, by simp, hal _, fun t ht => by simp at ht, Nat.le_refl _, Nat.zero_le _⟩
  · have e1 : namesL s = wordsL s := if_neg hlt
    have e2 : codeOf s = 0 := if_neg hlt
    rw [e1, e2]
    have hw := fun o => wordsOf_any s m (w.alloc o) (by omega) (((hal o).cell (p := ⟨0, 0, none⟩) h0).trans hm)
    go_enter Tryd.func5, Tryd.ntmps5
    go_wp2_with (go_at_call 10; refine (hw _).mono ?_; rintro e w2 ⟨c, rfl, hb, hH, hsz, hlc, hl3⟩; obtain ⟨hg, hc0, hc1, hf0, hf1⟩ := two_cells hb (by simp))
    try simp only [Exit.inBlock, Exit.then]
    refine bodyPost_ret (results_cell_row rfl _ _ w.heap.size 24 _ (0, 0) _ rfl (row_set2 hg) Tryd.underlying24 rfl rfl) rfl ?_
    have hsz1 : ∀ o : Obj, (w.alloc o).heap.size = w.heap.size + 1 := fun o => by simp
    rw [hsz1] at hb hH hsz
    have hb3 : Go.RowKit.Below w.heap.size w ((w2.setCell ⟨w.heap.size, 0, none⟩ (.int .i64 0)).setCell ⟨w.heap.size, 1, none⟩ (.slice (some ⟨w.heap.size + 1, 0, none⟩) (wordsL s).length c)) :=
      (((hal _).trans (hb.mono (by omega))).setCell (Nat.le_refl _) _).setCell (Nat.le_refl _) _
    refine ⟨some ⟨w.heap.size + 1, 0, none⟩, c, w.heap.size + 1, rfl, fun _ => rfl, by omega, ?_, hb3, fun t ht => ?_, hlc, hl3⟩
    · rw [setCell_eq, setCell_eq]; simpa [mapBlock] using hsz
    · have h := hH t (by simpa using ht)
      rw [Nat.zero_add] at h
      refine ⟨?_, by rw [World.frozen?_setCell, World.frozen?_setCell]; exact h.2⟩
      rw [World.cell?_setCell_other _ _ _ _ (by simp), World.cell?_setCell_other _ _ _ _ (by simp), h.1, if_neg (Nat.not_lt_zero _)]
      congr 2
      rw [getElem!_pos _ t (by simpa using ht)]
      simp [List.getD, ht]
end Go.Proofs.YtcddclkccpfdkaaDoor.EV
