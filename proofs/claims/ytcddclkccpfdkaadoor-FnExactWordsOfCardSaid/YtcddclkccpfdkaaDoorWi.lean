/- The law: walked. -/
import Derived.Test.YtcddclkccpfdkaaDoorWh
set_option linter.unusedSimpArgs false
set_option linter.unusedVariables false
namespace Go.Proofs.YtcddclkccpfdkaaDoor.EV
open Go.RowKit

theorem RowAt.keep {w W : World} {A : Option Addr} {l : List ByteArray} (h : RowAt w A l) (hb : Below w.heap.size w W) : RowAt W A l := fun j x hx => by
  obtain ⟨a, ha, hc⟩ := h j x hx
  exact ⟨a, ha, (hb.cell (p := a.add j) (cell_lt hc)).trans hc⟩
/-- a box of two cells -/
def Box (w : World) (b : Nat) (x y : Value) : Prop := w.cell? ⟨b, 0, none⟩ = some x ∧ w.cell? ⟨b, 1, none⟩ = some y
theorem Box.lt {w : World} {b : Nat} {x y : Value} (h : Box w b x y) : b < w.heap.size := cell_lt h.1
theorem Box.keep {w W : World} {b : Nat} {x y : Value} (h : Box w b x y) (hb : Below w.heap.size w W) : Box W b x y :=
  ⟨(hb.cell (p := ⟨b, 0, none⟩) h.lt).trans h.1, (hb.cell (p := ⟨b, 1, none⟩) h.lt).trans h.2⟩
theorem Box.but {w W : World} {b blk : Nat} {x y : Value} (h : Box w b x y) (hb : But blk w W) (hne : b ≠ blk) : Box W b x y := by
  have := hb.block b h.lt hne
  exact ⟨(World.cell?_of_block (w := w) (a := ⟨b, 0, none⟩) this).trans h.1, (World.cell?_of_block (w := w) (a := ⟨b, 1, none⟩) this).trans h.2⟩
theorem Box.new {w : World} {x y : Value} {t : TypeId} : Box (w.alloc (.cells #[x, y] t)) w.heap.size x y :=
  let h := two_cells (w := w) (a := x) (b := y) (t := t) (B := w.heap.size + 1) (Below.refl _ _) (by omega)
  ⟨h.2.1, h.2.2.1⟩
theorem keepAlloc (w : World) (o : Obj) : Below w.heap.size w (w.alloc o) := (Below.refl w.heap.size w).alloc (Nat.le_refl _) o

set_option maxHeartbeats 2000000 in
theorem law_any (s : ByteArray) (m : Int) (w : World) (h0 : 0 < w.heap.size) (hm : w.cell? ⟨0, 0, none⟩ = some (.int .i64 m)) :
    Calls Tryd.prog 3 #[.string s] w fun e w' => e = .returned (.bool true) ∧ Below w.heap.size w w' := by
  by_cases hbig : 1048576 < s.size
  · go_enter Tryd.func3, Tryd.ntmps3
    go_wp2
    go_ret
    exact ⟨rfl, Below.refl _ _⟩
  · have hsz1 : ∀ (W : World) (o : Obj), (W.alloc o).heap.size = W.heap.size + 1 := fun W o => by simp
    have hu4 := use4 s w
    generalize hn : (namesL s).length = n at hu4
    generalize hcd : codeOf s = cd at hu4
    go_enter Tryd.func3, Tryd.ntmps3
    go_wp2_with (go_at_call 4; refine hu4.mono ?_; rintro e w1 ⟨A0, c0, rfl, hb1, hc0, hr0⟩)
    -- the first answer
    have B3 := hb1.trans ((keepAlloc w1 (.cells #[.int .i64 cd, .slice A0 n c0] 24)).mono hb1.size)
    have h5 := wordsOfR_any s m (w1.alloc (.cells #[.int .i64 cd, .slice A0 n c0] 24)) (by rw [hsz1]; omega) ((B3.cell (p := ⟨0, 0, none⟩) h0).trans hm)
    have x3 : Box (w1.alloc (.cells #[.int .i64 cd, .slice A0 n c0] 24)) w1.heap.size (.int .i64 cd) (.slice A0 n c0) := Box.new
    have r3 := hr0.keep (keepAlloc w1 (.cells #[.int .i64 cd, .slice A0 n c0] 24))
    generalize hW3 : w1.alloc (.cells #[.int .i64 cd, .slice A0 n c0] 24) = W3 at *
    have hs3 : W3.heap.size = w1.heap.size + 1 := by rw [← hW3, hsz1]
    refine h5.mono ?_
    rintro e w2 ⟨A1, c1, blk, rfl, hA1, hblk0, hblk1, hb2, hmr, hc1, hl⟩
    rw [hn, hcd]
    rw [hn] at hc1 hl
    have hr1 : RowAt w2 A1 (namesL s) := rowAt_names hA1 hmr
    have x3b := x3.keep hb2
    have r3b := r3.keep hb2
    have B4 := B3.trans (hb2.mono B3.size)
    have x4 : Box (w2.alloc (.cells #[.int .i64 cd, .slice A1 n c1] 24)) w2.heap.size (.int .i64 cd) (.slice A1 n c1) := Box.new
    have k4 := keepAlloc w2 (.cells #[.int .i64 cd, .slice A1 n c1] 24)
    have x3c := x3b.keep k4
    have r3c := r3b.keep k4
    have r1c := hr1.keep k4
    have B5 := B4.trans (k4.mono B4.size)
    have hmr4 := hmr.below k4 hblk1
    have h6 := use6 r1c r3c (by rw [hn]; exact hl) (by rw [hn]; exact hc1) (by rw [hn]; exact hc0)
    rw [hn, hcd] at h6
    obtain ⟨x3c0, x3c1⟩ := id x3c
    obtain ⟨x4c0, x4c1⟩ := id x4
    go_wp2_with (go_at_call 6; refine h6.mono ?_; rintro e w5 ⟨rfl, hb5⟩; have x4d := x4.keep hb5; have x4d0 := x4d.1; have x4d1 := x4d.2)
    -- the marks
    have x3d := x3c.keep hb5
    have r3d := r3c.keep hb5
    have hmr5 := hmr4.below hb5 (by rw [hsz1]; omega)
    have hb5s := hb5.size
    rw [hsz1] at hb5s
    have B6 := B5.trans (hb5.mono B5.size)
    have h7 := markNames_any (namesL s) A1 blk c1 (.int .i64 cd) w5 hA1 (by omega) (by rw [hn]; omega) (by rw [hn]; exact hc1) hmr5
    rw [hn] at h7
    have x3s := x3b.lt
    have hb2s := hb2.size
    have hb1s := hb1.size
    go_wp2_with (go_at_call 7; refine h7.mono ?_; rintro e w6 ⟨rfl, hbut, hmk⟩; have x4e := x4d.but hbut (by omega); have x4e0 := x4e.1; have x4e1 := x4e.2)
    -- they are held
    have x3e := x3d.but hbut (by omega)
    have r3e : RowAt w6 A0 (namesL s) := hr0.keep (hbut.old (((keepAlloc w1 _).trans ((hW3 ▸ hb2).mono (by rw [hsz1]; omega))).trans ((k4.mono (by omega)).trans (hb5.mono (by rw [hsz1]; omega)))) (by omega) (by omega))
    have B7 : Below w.heap.size w w6 := hbut.old B6 (by omega) (by omega)
    rw [← hn] at hmk
    have m6 : RowAt w6 A1 (marksL (namesL s).length) := rowAt_marks hA1 hmk
    rw [hn] at m6
    have h8 := use8 (v := cd) (by omega) m6 hc1
    have hneg : ¬ (((n + 1 : Nat) : Int) < 0) := by omega
    generalize hq : ((n + 1 : Nat) : Int) = q at h8 hneg
    go_wp2_with (go_at_call 8; refine h8.mono ?_; rintro e w7 ⟨rfl, hb7⟩)
    -- the second answer
    have B8 := B7.trans (hb7.mono B7.size)
    have x3f := x3e.keep hb7
    have x4f := x4e.keep hb7
    have r3f := r3e.keep hb7
    have m7 := m6.keep hb7
    have h5' := wordsOfR_any s m w7 (Nat.lt_of_lt_of_le h0 B8.size) ((B8.cell (p := ⟨0, 0, none⟩) h0).trans hm)
    refine h5'.mono ?_
    rintro e w8 ⟨A2, c2, blk2, rfl, hA2, hblk2, hblk3, hb8, hmr2, hc2, hl2⟩
    rw [hn, hcd]
    rw [hn] at hc2 hl2
    have k8 := keepAlloc w8 (.cells #[.int .i64 cd, .slice A2 n c2] 24)
    have r2 : RowAt w8 A2 (namesL s) := rowAt_names hA2 hmr2
    have x3g := (x3f.keep hb8).keep k8
    have x4g := (x4f.keep hb8).keep k8
    have r3g := (r3f.keep hb8).keep k8
    have r2g := r2.keep k8
    have m8 := (m7.keep hb8).keep k8
    have B9 := (B8.trans (hb8.mono B8.size)).trans (k8.mono (Nat.le_trans B8.size hb8.size))
    have h6' := use6 r2g r3g (by rw [hn]; exact hl2) (by rw [hn]; exact hc2) (by rw [hn]; exact hc0)
    rw [hn, hcd] at h6'
    obtain ⟨x3g0, x3g1⟩ := id x3g
    go_wp2_with (go_at_call 6; refine h6'.mono ?_; rintro e w9 ⟨rfl, hb9⟩; have x4h := x4g.keep hb9; have x4h0 := x4h.1; have x4h1 := x4h.2)
    have m9 := m8.keep hb9
    have h8' := use8 (v := cd) (by omega) m9 hc1
    rw [hq] at h8'
    go_wp2_with (go_at_call 8; refine h8'.mono ?_; rintro e w10 ⟨rfl, hb10⟩)
    go_ret
    have B10 := B9.trans (hb9.mono B9.size)
    exact ⟨rfl, B10.trans (hb10.mono B10.size)⟩
end Go.Proofs.YtcddclkccpfdkaaDoor.EV
