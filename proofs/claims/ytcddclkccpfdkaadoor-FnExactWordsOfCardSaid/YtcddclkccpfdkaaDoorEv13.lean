/- Regions and code. -/
import Derived.Test.YtcddclkccpfdkaaDoorEv12
import Derived.LoopN
set_option linter.unusedSimpArgs false
set_option linter.unusedVariables false
namespace Go.Proofs.YtcddclkccpfdkaaDoor.EV
open Go.RowKit
variable {P : Program} {κ0 κ : Ctx} {w w0 : World} {E : Env} {a : Act} {call : FuncId → List AV → Option AV}

theorem SR.tr {t : Nat} {x : AV} {v : Value} (h : SR κ w t x v) : (∀ b, trOf x = .is b → v = .bool b) ∧ (trOf x = .no → ∀ b, v ≠ .bool b) := by
  have key : ∀ {x v}, VR κ x v → (∀ b, trOf x = .is b → v = .bool b) ∧ (trOf x = .no → ∀ b, v ≠ .bool b) := by
    intro x v h
    cases h with
    | a h => cases h with
      | c h => cases h with
        | c0 h => cases h with
          | lit v =>
            constructor
            · intro b hb
              cases v <;> simp [trOf] at hb ⊢
              exact hb
            · intro hb b
              cases v <;> simp [trOf] at hb ⊢
          | sl => exact ⟨fun b hb => by simp [trOf] at hb, fun _ b hb => by cases hb⟩
          | loc => exact ⟨fun b hb => by simp [trOf] at hb, fun _ b hb => by cases hb⟩
          | mrow => exact ⟨fun b hb => by simp [trOf] at hb, fun _ b hb => by cases hb⟩
          | eptr => exact ⟨fun b hb => by simp [trOf] at hb, fun _ b hb => by cases hb⟩
          | junk => exact ⟨fun b hb => by simp [trOf] at hb, fun hb => by simp [trOf] at hb⟩
        | fn => exact ⟨fun b hb => by simp [trOf] at hb, fun _ b hb => by cases hb⟩
      | agg => exact ⟨fun b hb => by simp [trOf] at hb, fun _ b hb => by cases hb⟩
    | tup => exact ⟨fun b hb => by simp [trOf] at hb, fun _ b hb => by cases hb⟩
  cases h with
  | val h => exact key h
  | cell hx =>
    cases x with
    | cell cs => exact ⟨fun b hb => by simp [trOf] at hb, fun _ b hb => by cases hb⟩
    | row n s cs => exact ⟨fun b hb => by simp [trOf] at hb, fun _ b hb => by cases hb⟩
    | _ => cases hx

theorem wantA_sound (h : FR P κ0 κ w0 E a w) {ops : Array Oper} {o : Oper} {t : Bool} (hw : wantA ops E o = some t) : Region.wanted o (yielded ops a.tmps) = t := by
  unfold wantA at hw
  unfold Region.wanted
  split at hw
  · rename_i hg; simp only [Option.some.injEq] at hw; subst hw; simp [hg]
  · rename_i j b hg
    simp only [hg]
    split at hw
    · rename_i hd
      simp only [Option.some.injEq] at hw; subst hw
      simp [yielded, hd]
    · rename_i d hd
      cases hx : E.s[d]? with
      | none =>
        have ht : a.tmps[d]? = none := Array.getElem?_eq_none_iff.2 (by rw [h.size]; exact List.getElem?_eq_none_iff.1 hx)
        simp only [Env.tr, hx, Option.some.injEq] at hw; subst hw
        simp [yielded, hd, ht]
      | some x =>
        obtain ⟨v, hv, hs⟩ := h.slots d x hx
        obtain ⟨h1, h2⟩ := hs.tr
        simp only [Env.tr, hx] at hw
        split at hw
        · cases hw
        · rename_i htr
          simp only [Option.some.injEq] at hw; subst hw
          have h3 := h2 htr
          simp only [yielded, hd, Option.bind_some, hv]
          cases v <;> first | rfl | exact absurd rfl (h3 _)
        · rename_i c htr
          simp only [Option.some.injEq] at hw; subst hw
          rw [h1 c htr] at hv
          simp only [yielded, hd, Option.bind_some, hv]
          cases c <;> cases b <;> rfl

theorem evOps_sound (hcall : ∀ f xs d, call f xs = some d → PureB P w0 f xs d) (ops : Array Oper) : ∀ (l : List Oper) (i : Nat) (κ : Ctx) (E E' : Env) (a : Act) (w : World), (∀ j, l[j]? = ops[i + j]?) → FR P κ0 κ w0 E a w → evOps P call ops l E = some E' →
    ∀ {Q : Exit → Act → World → Prop}, (∀ κ' a' w', FR P κ0 κ' w0 E' a' w' → Q .normal a' w') → wpOps P ops Q (List.range' i l.length) a w := by
  intro l
  induction l with
  | nil =>
    intro i κ E E' a w _ h hs Q hQ
    simp only [evOps, Option.some.injEq] at hs; subst hs
    exact hQ κ a w h
  | cons o l ih =>
    intro i κ E E' a w hl h hs Q hQ
    have ho : ops[i]? = some o := by simpa using (hl 0).symm
    have hl' : ∀ j, l[j]? = ops[i + 1 + j]? := fun j => by have := hl (j + 1); simpa [Nat.add_assoc, Nat.add_comm 1 j] using this
    simp only [evOps] at hs
    rw [List.length_cons, List.range'_succ]
    simp only [wpOps, ho]
    split at hs
    · rename_i t ht
      rw [wantA_sound h ht]
      cases t with
      | true =>
        simp only [if_true] at hs ⊢
        cases hst : evStep P call E o with
        | none => simp [hst] at hs
        | some E1 =>
          simp only [hst, Option.bind_some] at hs
          exact .inl (evStep_sound hcall h hst fun κ' a' w' h' => ih (i + 1) κ' E1 E' a' w' hl' h' hs hQ)
      | false =>
        simp only [Bool.false_eq_true, if_false] at hs ⊢
        exact ih (i + 1) κ _ E' _ w hl' (h.put o.dst (.lit _ _)) hs hQ
    · cases hs

end Go.Proofs.YtcddclkccpfdkaaDoor.EV
