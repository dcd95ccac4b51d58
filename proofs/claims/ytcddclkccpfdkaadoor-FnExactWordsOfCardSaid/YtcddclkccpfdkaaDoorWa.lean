/- impl.WordsOf: walked (strings.Split and slices.DeleteFunc by their contracts). -/
import Derived.Test.YtcddclkccpfdkaaDoorSf
import Derived.Test.YtcddclkccpfdkaaDoorSl
import Derived.WalkKit
import Derived.ProofKit
import Derived.Below
import Derived.Lib.SliceRun
set_option linter.unusedSimpArgs false
set_option linter.unusedVariables false
namespace Go.Proofs.YtcddclkccpfdkaaDoor.EV
open Go.RowKit Go.Proofs Go.Lib Go.Sort

def blank : ByteArray := ⟨#[32]⟩
def noText (x : ByteArray) : Bool := x.toList.isEmpty
/-- the pieces of a text -/
def pieces (s : ByteArray) : List ByteArray := splitB blank 0 (countB s blank) s
/-- its words -/
def wordsL (s : ByteArray) : List ByteArray := (pieces s).filter fun x => !noText x

theorem gives17 (x : ByteArray) (W : World) : FnGives Tryd.prog 17 #[] #[.string x] (.bool (noText x)) W := by
  show Calls Tryd.prog 17 #[.string x] W _
  go_enter Tryd.func17, Tryd.ntmps17
  go_wp2
  go_ret
  exact ⟨rfl, 0, rfl⟩
theorem below_putRow {B blk off : Nat} {w w' : World} {enc : ByteArray → Value} (h : Go.RowKit.Below B w w') (hb : B ≤ blk) (d : Array ByteArray) : Go.RowKit.Below B w (putRow enc w' blk off d) := by
  refine ⟨h.os, h.tape, h.output, by rw [size_putRow]; exact h.size, fun k hk => ?_⟩
  rw [← h.block k hk]
  unfold putRow mapBlock
  simp only [Array.getElem?_modify]
  rw [if_neg (by omega)]
theorem len_pieces (s : ByteArray) : (pieces s).length = countB s blank + 1 := splitB_all blank (by decide) 0 _ s rfl

set_option maxHeartbeats 1000000 in
theorem wordsOf_any (s : ByteArray) (m : Int) (w : World) (hs : s.size ≤ 3000) (hm : w.cell? ⟨0, 0, none⟩ = some (.int .i64 m)) :
    Calls Tryd.prog 10 #[.string s] w fun e w' => ∃ c, e = .returned (.slice (some ⟨w.heap.size, 0, none⟩) (wordsL s).length c) ∧ Go.RowKit.Below w.heap.size w w' ∧ Holds Value.string w' w.heap.size 0 (wordsL s).toArray ∧ w.heap.size < w'.heap.size ∧ (wordsL s).length ≤ c ∧ (wordsL s).length ≤ 3001 := by
  have eg : ∀ args w, (callFunc 17 args).run Tryd.prog w = .ok (.enter 17 args) w := enters_of Tryd.func17 (by kernel_rfl) rfl
  have hsp := Tryd.strings_Split s blank m w (by omega) hm (by decide)
  have hle : countB s blank ≤ s.size := countB_le blank (by decide) _ s (Nat.le_refl _)
  have hlp := len_pieces s
  have hH : Holds Value.string (w.alloc (.cells ((pieces s).map Value.string).toArray 9)) w.heap.size 0 (pieces s).toArray := by
    intro j hj
    have hj' : j < (pieces s).length := by simpa using hj
    constructor
    · rw [World.cell?_alloc_new]; simp [hj']
    · rw [World.frozen?_alloc_new]
  have hcon := AnyE.slices_DeleteFunc Tryd.lw15 Value.string (fun _ => rfl) noText 17 #[] eg ⟨#[]⟩ Tryd.zeroValue9 w.heap.size 0 (countB s blank + 1) (pieces s).toArray (w.alloc (.cells ((pieces s).map Value.string).toArray 9))
    (fun W x _ => gives17 x W) (fun n os dk x _ => gives17 x _) hH (by simp [hlp]; omega) (by simp [hlp])
  change Calls Tryd.prog 15 _ _ _ at hcon
  have hsz : (pieces s).toArray.size = countB s blank + 1 := by simp [hlp]
  rw [hsz] at hcon
  have hlen : (wordsL s).length ≤ countB s blank + 1 := by rw [← hlp]; exact List.length_filter_le _ _
  go_enter Tryd.func10, Tryd.ntmps10
  go_wp2_with first
    | (go_at_call 16; refine hsp.mono ?_; rintro e w' ⟨rfl, rfl⟩)
    | (go_at_call 15; refine hcon.mono ?_; rintro e w' ⟨rfl, q, rfl⟩)
  go_ret
  refine ⟨countB s blank + 1, rfl, ?_, ?_, ?_, hlen, by omega⟩
  · have h1 : Go.RowKit.Below w.heap.size w (Sort.ahead (w.alloc (.cells ((pieces s).map Value.string).toArray 9)) q) := by
      have := (Go.RowKit.Below.refl w.heap.size w).alloc (Nat.le_refl _) (.cells ((pieces s).map Value.string).toArray 9)
      exact ⟨this.os, this.tape, this.output, this.size, this.block⟩
    exact below_putRow h1 (Nat.le_refl _) _
  · intro j hj
    have := holds_putRow Value.string _ w.heap.size 0 _ ((wordsL s) ++ List.replicate ((pieces s).toArray.size - (wordsL s).length) (⟨#[]⟩ : ByteArray)).toArray (holds_ahead Value.string _ q _ _ _ hH) (by simp [hlp]; omega)
    have hj' : j < (wordsL s).length := by simpa using hj
    have h2 := this j (by simp; omega)
    rw [hsz, Nat.zero_add] at h2
    rw [Nat.zero_add]
    refine ⟨h2.1.trans ?_, h2.2⟩
    congr 2
    rw [getElem!_pos _ j (by simp; omega), getElem!_pos _ j hj]
    simp [List.getElem_append, hj']
  · simp
end Go.Proofs.YtcddclkccpfdkaaDoor.EV
