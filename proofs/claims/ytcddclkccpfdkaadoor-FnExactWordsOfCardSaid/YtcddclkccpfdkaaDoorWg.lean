/- The words of a line: strings.Split against the reference's cut. -/
import Derived.Test.YtcddclkccpfdkaaDoorWf
set_option linter.unusedSimpArgs false
set_option linter.unusedVariables false
namespace Go.Proofs.YtcddclkccpfdkaaDoor.EV
open Go.RowKit Go.Lib

def cutL (acc : List UInt8) : List UInt8 → List (List UInt8)
  | [] => [acc]
  | b :: r => if b = 32 then acc :: cutL [] r else cutL (acc ++ [b]) r
theorem idx_miss : ∀ {a : List UInt8}, (32 : UInt8) ∉ a → index a [32] = -1
  | [], _ => rfl
  | b :: a, h => by
    have hb : (32 : UInt8) ≠ b := fun e => h (by simp [e])
    have ih := idx_miss (a := a) (fun e => h (List.mem_cons_of_mem _ e))
    simp [index, ih, hb]
theorem idx_hit : ∀ {a : List UInt8} (b : List UInt8), (32 : UInt8) ∉ a → index (a ++ 32 :: b) [32] = (a.length : Int)
  | [], b, _ => by simp [index]
  | x :: a, b, h => by
    have hb : (32 : UInt8) ≠ x := fun e => h (by simp [e])
    have ih := idx_hit (a := a) b (fun e => h (List.mem_cons_of_mem _ e))
    simp [index, ih, hb]
theorem cutL_split : ∀ (r acc : List UInt8), (32 : UInt8) ∉ acc → splitK [32] 0 (count (acc ++ r) [32]) (acc ++ r) = cutL acc r
  | [], acc, h => by
    rw [List.append_nil, count_miss (idx_miss h)]; rfl
  | b :: r, acc, h => by
    by_cases hb : b = 32
    · subst hb
      have hi := idx_hit r h
      rw [count_hit (by simp) hi, Nat.add_comm 1, splitK]
      have hd : (acc ++ 32 :: r).drop (acc.length + [(32 : UInt8)].length) = r := by simp
      have hne : ¬ ((acc.length : Int) == -1) = true := by simp
      rw [hi, if_neg hne, Int.toNat_natCast, Nat.add_zero, hd, List.take_left]
      have ih := cutL_split r [] (by simp)
      rw [List.nil_append] at ih
      simp only [cutL, if_true]
      rw [ih]
    · have ih := cutL_split r (acc ++ [b]) (by simp [h, Ne.symm hb])
      rw [List.append_assoc, List.singleton_append] at ih
      simp only [cutL, if_neg hb]
      exact ih
theorem seg_data (s : ByteArray) (a b : Nat) : (s.extract a b).data.toList = (s.data.toList.drop a).take (b - a) := by
  rw [extract_data]
theorem cutAcc_data (s : ByteArray) : ∀ (k i fr : Nat), k + i = s.size → fr ≤ i → (cutAcc s k i fr).map (·.data.toList) = cutL ((s.data.toList.drop fr).take (i - fr)) (s.data.toList.drop i)
  | 0, i, fr, hk, hf => by
    have hl : s.data.toList.length = s.size := rfl
    have : s.data.toList.drop i = [] := List.drop_eq_nil_of_le (by omega)
    rw [this]
    simp [cutAcc, cutL, seg_data]
  | k + 1, i, fr, hk, hf => by
    have hl : s.data.toList.length = s.size := rfl
    have hil : i < s.data.toList.length := by omega
    have hd : s.data.toList.drop i = s.data.toList[i] :: s.data.toList.drop (i + 1) := List.drop_eq_getElem_cons hil
    have hby : byteAt s i = (s.data.toList[i]).toNat := by
      have h2 : i < s.data.size := hil
      unfold byteAt
      simp only [List.getD, Array.getElem?_toList, Array.getElem?_eq_getElem h2, Option.getD_some]
      rfl
    have h1 := cutAcc_data s k (i + 1) (i + 1) (by omega) (Nat.le_refl _)
    have h2 := cutAcc_data s k (i + 1) fr (by omega) (by omega)
    rw [Nat.sub_self, List.take_zero] at h1
    rw [hd]
    simp only [cutAcc, cutL]
    by_cases hb : s.data.toList[i] = 32
    · rw [if_pos hb, if_pos (by rw [hby, hb]; rfl), List.map_cons, seg_data, h1]
    · have hb' : ¬ byteAt s i = 32 := by
        rw [hby]; intro h; apply hb; exact UInt8.toNat_inj.1 h
      rw [if_neg hb, if_neg hb', h2]
      congr 1
      have : i + 1 - fr = (i - fr) + 1 := by omega
      rw [this, List.take_succ_eq_append_getElem (by simp; omega)]
      congr 2
      simp; congr 1; omega
theorem pieces_eq (s : ByteArray) : pieces s = cutAcc s s.size 0 0 := by
  have h1 : (pieces s).map (·.data.toList) = splitK [32] 0 (count s.data.toList [32]) s.data.toList := splitB_data blank 0 (countB s blank) s
  have h2 := cutAcc_data s s.size 0 0 rfl (Nat.le_refl _)
  rw [Nat.sub_self, List.take_zero, List.drop_zero] at h2
  have h3 := cutL_split s.data.toList [] (by simp)
  rw [List.nil_append] at h3
  have hinj : Function.Injective (fun x : ByteArray => x.data.toList) := fun x y h => by
    rcases x with ⟨⟨x⟩⟩; rcases y with ⟨⟨y⟩⟩; simp at h; rw [h]
  exact (List.map_inj_right (fun x y h => hinj h)).1 (h1.trans (h3.trans h2.symm))
theorem names_eq (s : ByteArray) : namesS s = namesL s := by
  unfold namesS namesL wordsL keepS
  rw [pieces_eq]
end Go.Proofs.YtcddclkccpfdkaaDoor.EV
