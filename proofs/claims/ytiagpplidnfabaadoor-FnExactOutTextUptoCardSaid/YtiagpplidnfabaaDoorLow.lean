/- 'lower': a text with small letters, in both packages: walked. -/
import Derived.Test.YtiagpplidnfabaaDoorProg
import Derived.WalkKit
import Derived.ProofKit
import Derived.Below
import Derived.Lib.ConvBytes
import Derived.Lib.Hide
import Derived.Lib.AtoiErrMem
import Derived.Laws.BytesArg
import Derived.Laws.BytesString
set_option linter.unusedSimpArgs false
set_option linter.unusedVariables false
namespace Go.Proofs.YtiagpplidnfabaaDoor.EV
open Go.RowKit

def lowB (b : UInt8) : UInt8 := if 65 ≤ b ∧ b ≤ 90 then b + 32 else b
/-- with small letters -/
def lowS (s : ByteArray) : ByteArray := ⟨(s.data.toList.map lowB).toArray⟩
/-- the bytes behind k rounds -/
def lowK (l : List UInt8) (k j : Nat) : UInt8 := if j < k then lowB (l.getD j 0) else l.getD j 0
/-- what the loop keeps -/
def LowRel (s : ByteArray) (w : World) (k : Nat) (wr : World) : Prop :=
  (∀ j, j < s.size → wr.cell? ⟨w.heap.size, j, none⟩ = some (.int .u8 (lowK s.data.toList k j).toNat)) ∧ (∀ j, j < s.size → wr.frozen? ⟨w.heap.size, j, none⟩ = false) ∧ Below w.heap.size w wr

theorem lowRel_start (s : ByteArray) (w : World) (e : TypeId) : LowRel s w 0 (Lib.bytesWorld w e s) := by
  refine ⟨fun j hj => ?_, fun j hj => ?_, Lib.bytesWorld_below w e s⟩
  · rw [Lib.bytesWorld_cell w e s j hj]; simp [lowK]
  · have h := Lib.bytesWorld_at_new w e s
    have hsz : s.size ≤ (Lib.bytesCells w e s).size := by simp [Lib.bytesCells]
    simp [World.frozen?, h]; try omega
theorem LowRel.below {s : ByteArray} {w wr : World} {k : Nat} (h : LowRel s w k wr) : Below w.heap.size w wr := h.2.2
theorem LowRel.at {s : ByteArray} {w wr : World} {k : Nat} (h : LowRel s w k wr) (hk : k < s.size) : wr.cell? ⟨w.heap.size, k, none⟩ = some (.int .u8 ((s.data.toList.getD k 0).toNat : Int)) := by
  have := h.1 k hk; simpa [lowK] using this
theorem LowRel.free {s : ByteArray} {w wr : World} {k : Nat} (h : LowRel s w k wr) (hk : k < s.size) : wr.frozen? ⟨w.heap.size, k, none⟩ = false := h.2.1 k hk
theorem lowB_nat (b : UInt8) : ((lowB b).toNat : Int) = if 65 ≤ (b.toNat : Int) ∧ (b.toNat : Int) ≤ 90 then (b.toNat : Int) + 32 else b.toNat := by
  unfold lowB
  by_cases h : 65 ≤ b ∧ b ≤ 90
  · rw [if_pos h]
    have h1 : 65 ≤ b.toNat := by simpa [UInt8.le_iff_toNat_le] using h.1
    have h2 : b.toNat ≤ 90 := by simpa [UInt8.le_iff_toNat_le] using h.2
    rw [if_pos (by omega), UInt8.toNat_add]
    simp; omega
  · rw [if_neg h, if_neg]
    intro h'
    apply h
    simp only [UInt8.le_iff_toNat_le]
    exact ⟨by have := h'.1; simp; omega, by have := h'.2; simp; omega⟩
/-- nothing is stored -/
theorem LowRel.keep {s : ByteArray} {w wr : World} {k : Nat} (h : LowRel s w k wr) (hk : k < s.size) (hb : ¬ (65 ≤ ((s.data.toList.getD k 0).toNat : Int) ∧ ((s.data.toList.getD k 0).toNat : Int) ≤ 90)) : LowRel s w (k + 1) wr := by
  refine ⟨fun j hj => ?_, h.2.1, h.2.2⟩
  rw [h.1 j hj]
  congr 2
  by_cases hjk : j = k
  · subst hjk
    simp only [lowK, Nat.lt_irrefl, if_false, Nat.lt_add_one, if_true]
    rw [lowB_nat, if_neg hb]
  · simp only [lowK]
    by_cases hlt : j < k
    · rw [if_pos hlt, if_pos (by omega)]
    · rw [if_neg hlt, if_neg (by omega)]
/-- the small letter is stored -/
theorem LowRel.stored {s : ByteArray} {w wr : World} {k : Nat} (h : LowRel s w k wr) (hk : k < s.size) (hb : 65 ≤ ((s.data.toList.getD k 0).toNat : Int) ∧ ((s.data.toList.getD k 0).toNat : Int) ≤ 90) {n : Int} (hn : n = ((s.data.toList.getD k 0).toNat : Int) + 32) : LowRel s w (k + 1) (wr.setCell ⟨w.heap.size, k, none⟩ (.int .u8 n)) := by
  refine ⟨fun j hj => ?_, fun j hj => ?_, h.2.2.setCell (Nat.le_refl _) _⟩
  · by_cases hjk : j = k
    · subst hjk
      rw [World.cell?_setCell_same _ _ _ (h.1 j hj)]
      simp only [lowK, Nat.lt_add_one, if_true]
      rw [lowB_nat, if_pos hb, hn]
    · rw [World.cell?_setCell_other _ _ _ _ (by simp; try omega), h.1 j hj]
      congr 2
      simp only [lowK]
      by_cases hlt : j < k
      · rw [if_pos hlt, if_pos (by omega)]
      · rw [if_neg hlt, if_neg (by omega)]
  · rw [World.frozen?_setCell]; exact h.2.1 j hj
theorem lowS_out {s : ByteArray} {w wr : World} (P : Program) (src dst e : TypeId) (c : Nat) (hs : P.underlying src = some (.slice e)) (he : P.underlying e = some (.int .u8)) (hd : P.underlying dst = some .string) (h : LowRel s w s.size wr) :
    (convert src dst (.slice (some ⟨w.heap.size, 0, none⟩) s.size c)).run P wr = .ok (.string (lowS s)) wr := by
  rw [run_convert_bytes_string wr src dst e _ _ _ hs he hd]
  have hl : (loadCells ⟨w.heap.size, 0, none⟩ s.size).run P wr = .ok ((s.data.toList.map fun b => ((lowB b).toNat : Int)).map (Value.int .u8)).toArray wr := by
    have hlen : s.size = (((s.data.toList.map fun b => ((lowB b).toNat : Int)).map (Value.int .u8))).length := by rw [List.length_map, List.length_map]; rfl
    rw [hlen]
    exact run_loadCells_list (w := wr) (P := P) _ _ (fun j v hv => by
      have hj : j < s.size := by rw [hlen]; exact (List.getElem?_eq_some_iff.1 hv).1
      have := h.1 j hj
      rw [Addr.add_lit, Nat.zero_add, this]
      simp only [lowK, if_pos hj]
      simp only [List.getElem?_map, Option.map_eq_some_iff] at hv
      obtain ⟨n, ⟨b, hb, rfl⟩, rfl⟩ := hv
      simp [List.getD, hb])
  rw [run_bytesToString wr _ _ _ _ hl, foldl_push_bytes]
  congr 2
  unfold lowS
  congr 1
  show (#[] : Array UInt8) ++ _ = _
  rw [Array.empty_append, List.map_map]
  congr 1
  exact List.map_congr_left (fun b _ => by simp)

set_option maxHeartbeats 1000000 in
theorem lower_any (s : ByteArray) (w : World) (hs : s.size ≤ 1073741824) :
    Calls Tryd.prog 44 #[.string s] w fun e w' => e = .returned (.string (lowS s)) ∧ Below w.heap.size w w' := by
  have hconv := Lib.run_convert_string_bytes (P := Tryd.prog) w 9 23 5 s Tryd.underlying9 Tryd.underlying23 Tryd.underlying5
  go_enter Tryd.func44, Tryd.ntmps44
  go_wp2
  clear hconv
  go_loopw [10] (fun i wr => ∃ k : Nat, k ≤ s.size ∧ i = .int .i64 k ∧ LowRel s w k wr) (fun i _ => s.size - (intOf i).toNat)
  case atStart => exact ⟨0, Nat.zero_le _, rfl, lowRel_start s w 5⟩
  case round =>
    obtain ⟨k, hk, rfl, hr⟩ := hrel
    by_cases hlt : k < s.size
    · have hc := hr.at hlt
      have hf := hr.free hlt
      have hb0 : ((s.data.toList.getD k 0).toNat : Int) ≤ 255 := by have := (s.data.toList.getD k 0).toNat_lt; omega
      generalize hbk : (s.data.toList.getD k 0).toNat = b at hc hb0
      go_wp2
      all_goals refine ⟨⟨k + 1, by omega, by go_num, ?_⟩, by simp [intOf]; omega⟩
      all_goals first
        | exact hr.stored hlt (by rw [hbk]; exact ⟨by assumption, by assumption⟩) (by rw [hbk]; omega)
        | exact hr.keep hlt (by rw [hbk]; omega)
    · have hks : k = s.size := by omega
      subst hks
      have hback := lowS_out Tryd.prog 23 9 5 (grownCap w s.size 0 5) Tryd.underlying23 Tryd.underlying5 Tryd.underlying9 hr
      go_wp2
      go_ret
      exact ⟨rfl, hr.below⟩

set_option maxHeartbeats 1000000 in
theorem l1Lower_any (s : ByteArray) (w : World) (hs : s.size ≤ 1073741824) :
    Calls Tryd.prog 39 #[.string s] w fun e w' => e = .returned (.string (lowS s)) ∧ Below w.heap.size w w' := by
  have hconv := Lib.run_convert_string_bytes (P := Tryd.prog) w 9 23 5 s Tryd.underlying9 Tryd.underlying23 Tryd.underlying5
  go_enter Tryd.func39, Tryd.ntmps39
  go_wp2
  clear hconv
  go_loopw [4] (fun i wr => ∃ k : Nat, k ≤ s.size ∧ i = .int .i64 k ∧ LowRel s w k wr) (fun i _ => s.size - (intOf i).toNat)
  case atStart => exact ⟨0, Nat.zero_le _, rfl, lowRel_start s w 5⟩
  case round =>
    obtain ⟨k, hk, rfl, hr⟩ := hrel
    by_cases hlt : k < s.size
    · have hc := hr.at hlt
      have hf := hr.free hlt
      have hb0 : ((s.data.toList.getD k 0).toNat : Int) ≤ 255 := by have := (s.data.toList.getD k 0).toNat_lt; omega
      generalize hbk : (s.data.toList.getD k 0).toNat = b at hc hb0
      go_wp2
      all_goals refine ⟨⟨k + 1, by omega, by go_num, ?_⟩, by simp [intOf]; omega⟩
      all_goals first
        | exact hr.stored hlt (by rw [hbk]; exact ⟨by assumption, by assumption⟩) (by rw [hbk])
        | exact hr.keep hlt (by rw [hbk]; omega)
    · have hks : k = s.size := by omega
      subst hks
      have hback := lowS_out Tryd.prog 23 9 5 (grownCap w s.size 0 5) Tryd.underlying23 Tryd.underlying5 Tryd.underlying9 hr
      go_wp2
      go_ret
      exact ⟨rfl, hr.below⟩
end Go.Proofs.YtiagpplidnfabaaDoor.EV
