/- markText: walked. -/
import Derived.Test.YtcddclkccpfdkaaDoorWa
import Derived.Lib.ConvBytes

import Derived.Laws.BytesArg
import Derived.Laws.BytesString
set_option linter.unusedSimpArgs false
set_option linter.unusedVariables false
namespace Go.Proofs.YtcddclkccpfdkaaDoor.EV
open Go.RowKit Go.Proofs Go.Lib

def dig1 (n : Int) : ByteArray := ByteArray.empty.push (UInt8.ofNat n.toNat)
/-- the digits of k ahead of a text -/
def digs (k : Nat) (out : ByteArray) : ByteArray := if h : k = 0 then out else digs (k / 10) (dig1 (48 + (k : Int) % 10) ++ out)
termination_by k
decreasing_by omega
def markT (k : Nat) : ByteArray := ⟨#[109]⟩ ++ digs k ⟨#[]⟩
theorem digs_zero (out : ByteArray) : digs 0 out = out := by rw [digs]; simp
theorem digs_pos {k : Nat} (h : 0 < k) (out : ByteArray) : digs k out = digs (k / 10) (dig1 (48 + (k : Int) % 10) ++ out) := by rw [digs, dif_neg (by omega)]
theorem conv_dig (P : Program) (src dst e e' : TypeId) (wr : World) (n : Int) (hs : P.underlying src = some (.slice e)) (he : P.underlying e = some (.int .u8)) (hd : P.underlying dst = some .string) :
    (convert src dst (.slice (some ⟨wr.heap.size, 0, none⟩) 1 1)).run P (wr.alloc (.cells #[.int .u8 n] e')) = .ok (.string (dig1 n)) (wr.alloc (.cells #[.int .u8 n] e')) := by
  rw [run_convert_bytes_string _ src dst e _ _ _ hs he hd]
  have hl : (loadCells ⟨wr.heap.size, 0, none⟩ 1).run P (wr.alloc (.cells #[.int .u8 n] e')) = .ok ([n].map (Value.int .u8)).toArray (wr.alloc (.cells #[.int .u8 n] e')) :=
    run_loadCells_list (w := wr.alloc (.cells #[.int .u8 n] e')) (P := P) ⟨wr.heap.size, 0, none⟩ ([n].map (Value.int .u8)) (fun j v hv => by
      have hj : j = 0 := by have := (List.getElem?_eq_some_iff.1 hv).1; simpa using this
      subst hj
      rw [Addr.add_lit, World.cell?_alloc_new]
      simpa using hv)
  rw [run_bytesToString _ _ _ _ [n] hl]
  rfl

set_option maxHeartbeats 1000000 in
theorem markText_any (k0 : Nat) (w : World) (hk : 1 ≤ k0) (hs : k0 ≤ 9999) :
    Calls Tryd.prog 18 #[.int .i64 k0] w fun e w' => e = .returned (.string (markT k0)) ∧ Go.RowKit.Below w.heap.size w w' := by
  go_enter Tryd.func18, Tryd.ntmps18
  go_wp2
  go_loopw [0, 3] (fun i o wr => ∃ (k : Nat) (out : ByteArray), i = .int .i64 k ∧ o = .string out ∧ k * 10 ^ out.size ≤ 9999 ∧ out.size ≤ 4 ∧ digs k out = digs k0 ⟨#[]⟩ ∧ Go.RowKit.Below w.heap.size w wr) (fun i _ _ => (intOf i).toNat)
  case atStart => exact ⟨k0, ⟨#[]⟩, rfl, rfl, by simpa [ByteArray.size] using hs, by decide, rfl, Go.RowKit.Below.refl _ _⟩
  case round =>
    obtain ⟨k, out, rfl, rfl, hm, ho, hd, hb⟩ := hrel
    by_cases hlt : 0 < k
    · have hconv := conv_dig Tryd.prog 38 9 5 5 wr (48 + (k : Int) % 10) Tryd.underlying38 Tryd.underlying5 Tryd.underlying9
      have hsz : (dig1 (48 + (k : Int) % 10)).size = 1 := rfl
      go_wp2
      have hlt4 : out.size ≤ 3 := by
        rcases Nat.lt_or_ge out.size 4 with h | h
        · omega
        · exfalso
          have h4 : out.size = 4 := by omega
          rw [h4] at hm
          omega
      have hmm : k / 10 * 10 ^ (out.size + 1) ≤ 9999 := by
        rw [Nat.pow_succ, Nat.mul_comm (10 ^ out.size) 10, ← Nat.mul_assoc]
        exact Nat.le_trans (Nat.mul_le_mul_right _ (Nat.div_mul_le_self k 10)) hm
      have hdd : digs (k / 10) (dig1 (48 + (k : Int) % 10) ++ out) = digs k0 ⟨#[]⟩ := by rw [← digs_pos hlt]; exact hd
      have hos : (dig1 (48 + (k : Int) % 10) ++ out).size = out.size + 1 := by rw [ByteArray.size_append, hsz]; omega
      have hk9 : k ≤ 9999 := Nat.le_trans (Nat.le_mul_of_pos_right _ (Nat.pow_pos (by decide))) hm
      have hw : wrap64 ((k : Int) / 10) = ((k / 10 : Nat) : Int) := by unfold wrap64; omega
      refine ⟨⟨k / 10, _, by rw [hw], rfl, by rw [hos]; exact hmm, by omega, hdd, hb.alloc hb.size _⟩, ?_⟩
      rw [hw]
      simp only [intOf]
      omega
    · have hk0 : k = 0 := by omega
      rw [hk0, digs_zero] at hd
      have h109 : (⟨#[109]⟩ : ByteArray).size = 1 := rfl
      have hd2 := hd.symm
      clear hd
      go_wp2
      go_ret
      exact ⟨by simp [markT, hd2], hb⟩
end Go.Proofs.YtcddclkccpfdkaaDoor.EV
