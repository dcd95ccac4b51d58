/- A drawn region's order, checked off a small table. -/
import Derived.Test.YtcddclkccpfdkaaDoorEv19
set_option linter.unusedSimpArgs false
set_option linter.unusedVariables false
namespace Go.Proofs.YtcddclkccpfdkaaDoor.EV
open Go.RowKit
/-- of an operation: what it writes, what it looks at, is it loud, behind which it stands -/
structure Sm where
  dst : Option Nat
  looks : List Nat
  loud : Bool
  aft : List Nat
def smOf (ops : Array Oper) (o : Oper) : Sm := ⟨o.dst, o.looksAt ops, loudA o, (o.after.toList.filter (Region.binds .any)).map (·.on)⟩
def smsOf (ops : Array Oper) : List Sm := ops.toList.map (smOf ops)
def Sm.apart (x y : Sm) : Bool := !x.loud && !y.loud &&
  ((match x.dst with
   | some d => !y.looks.contains d && y.dst != some d
   | none => true) &&
  (match y.dst with
   | some d => !x.looks.contains d
   | none => true))
def Sm.okWith (i : Nat) (x y : Sm) : Bool := y.aft.contains i || x.apart y
def lexT : List Sm → Nat → Bool
  | [], _ => true
  | x :: l, k => x.aft.all (fun e => decide (e < k)) && l.all (x.okWith k) && lexT l (k + 1)
theorem ready_spec {ops : Array Oper} {listed : Array Bool} {k : Nat} {o : Oper} (ho : ops[k]? = some o) (h1 : listed.getD k true = false) (h2 : ∀ e ∈ o.after, Region.binds .any e = true → listed.getD e.on false = true) : (Region.ready .any ops listed).contains k = true := by
  have hk : k < ops.size := (Array.getElem?_eq_some_iff.1 ho).1
  simp only [Region.ready, List.contains_iff_mem, List.mem_filter, List.mem_range, ho, Option.map_some, Option.getD_some, h1, Bool.not_false, Bool.true_and]
  refine ⟨hk, ?_⟩
  rw [Array.all_eq_true_iff_forall_mem]
  intro e he
  cases hb : Region.binds .any e with
  | false => simp
  | true => simp only [Bool.not_true, Bool.false_or]; exact h2 e he hb
theorem lexA_of (ops : Array Oper) : ∀ (n k : Nat) (listed : Array Bool), k + n = ops.size → listed.size = ops.size → (∀ i, i < ops.size → listed.getD i true = decide (i < k)) →
    lexT ((smsOf ops).drop k) k = true → lexA ops n k listed = true
  | 0, k, listed, hk, hs, hl, _ => by
    simp only [lexA, List.isEmpty_iff, Region.ready, List.filter_eq_nil_iff, List.mem_range]
    intro i hi
    rw [hl i hi]
    simp; omega
  | n + 1, k, listed, hk, hs, hl, ht => by
    have hlt : k < ops.size := by omega
    have ho : ops[k]? = some ops[k] := Array.getElem?_eq_getElem hlt
    have hd : (smsOf ops).drop k = smOf ops ops[k] :: (smsOf ops).drop (k + 1) := by
      rw [List.drop_eq_getElem_cons (by simp [smsOf]; exact hlt)]
      simp [smsOf]
    rw [hd] at ht
    simp only [lexT, Bool.and_eq_true] at ht
    obtain ⟨⟨ha, hp⟩, hr⟩ := ht
    have haft : ∀ e ∈ ops[k].after, Region.binds .any e = true → e.on < k := by
      intro e he hb
      have := List.all_eq_true.1 ha e.on (by simp only [smOf, List.mem_map, List.mem_filter]; exact ⟨e, ⟨by simpa using he, hb⟩, rfl⟩)
      simpa using this
    have hget : ∀ i, i < ops.size → listed.getD i false = decide (i < k) := by
      intro i hi
      have := hl i hi
      rw [← hs] at hi
      simp only [Array.getD, hi, dif_pos] at this ⊢
      exact this
    have e : lexA ops (n + 1) k listed = ((Region.ready .any ops listed).contains k && freeOps ops listed k && lexA ops n (k + 1) (listed.setIfInBounds k true)) := rfl
    rw [e]
    simp only [Bool.and_eq_true]
    refine ⟨⟨ready_spec ho (by rw [hl k hlt]; simp) (fun e he hb => by
      have := haft e he hb
      rw [hget _ (by omega)]; simpa using this), ?_⟩, ?_⟩
    · unfold freeOps
      rw [ho]
      simp only [List.all_eq_true, List.mem_range]
      intro j hj
      rw [hl j hj]
      by_cases hjk : j < k
      · simp [hjk]
      by_cases hje : j = k
      · simp [hje]
      have hj' : k + 1 ≤ j := by omega
      have hoj : ops[j]? = some ops[j] := Array.getElem?_eq_getElem hj
      rw [hoj]
      have hm := List.all_eq_true.1 hp (smOf ops ops[j]) (by
        rw [List.mem_iff_getElem?]
        exact ⟨j - (k + 1), by rw [List.getElem?_drop, show k + 1 + (j - (k + 1)) = j by omega]; simp [smsOf, hj]⟩)
      simp only [Sm.okWith, Sm.apart, Bool.or_eq_true] at hm
      simp only [Bool.or_eq_true]
      rcases hm with hm | hm
      · refine .inr (.inl ?_)
        simp only [smOf, List.contains_iff_mem, List.mem_map, List.mem_filter] at hm
        obtain ⟨e, ⟨h1, h2⟩, h3⟩ := hm
        rw [← Array.any_toList, List.any_eq_true]
        exact ⟨e, h1, by simp [h2, h3]⟩
      · refine .inr (.inr ?_)
        unfold apartA Oper.apart
        exact hm
    · refine lexA_of ops n (k + 1) _ (by omega) (by simpa using hs) (fun i hi => ?_) hr
      have hi' : i < listed.size := by omega
      by_cases hik : i = k
      · subst hik; simp [Array.getD, hi']
      · have := hl i hi
        simp only [Array.getD, Array.size_setIfInBounds, hi', dif_pos] at this ⊢
        simp only [Array.getInternal_eq_getElem] at this ⊢
        rw [Array.getElem_setIfInBounds_ne (by simpa using hi') (by omega), this]
        simp; omega
theorem drawn_of {P : Program} {ops : Array Oper} {tab : List Sm} (hm : P.follows .mixedOrders = true) (ht : smsOf ops = tab) (hl : lexT tab 0 = true) : drawnA P ops = true := by
  unfold drawnA
  rw [hm, Bool.true_and]
  exact lexA_of ops ops.size 0 _ (by omega) (by simp) (fun i hi => by simp [Array.getD, hi]) (by simpa [ht] using hl)
end Go.Proofs.YtcddclkccpfdkaaDoor.EV
