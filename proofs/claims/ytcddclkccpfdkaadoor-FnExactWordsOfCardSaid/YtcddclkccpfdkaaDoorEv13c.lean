/- Code. -/
import Derived.Test.YtcddclkccpfdkaaDoorEv13b
import Derived.LoopN
set_option linter.unusedSimpArgs false
set_option linter.unusedVariables false
namespace Go.Proofs.YtcddclkccpfdkaaDoor.EV
open Go.RowKit
variable {P : Program} {κ0 κ : Ctx} {w w0 : World} {E : Env} {a : Act} {call : FuncId → List AV → Option AV}

def Ex.out : Ex → Exit
  | .normal => .normal
  | .ret => .ret
  | .exit id => .exit id

theorem evLoop_sound {c : Code} {m : Nat} (hb : ∀ (κ : Ctx) (E E' : Env) (a : Act) (w : World) (x : Ex), FR P κ0 κ w0 E a w → evCode P call m c E = some (x, E') → ∀ {Q : Exit → Act → World → Prop}, (∀ κ' a' w', FR P κ0 κ' w0 E' a' w' → Q x.out a' w') → c.wp P Q a w) :
    ∀ (n : Nat) (κ : Ctx) (E E' : Env) (a : Act) (w : World) (x : Ex), FR P κ0 κ w0 E a w → evLoop (evCode P call m c) n E = some (x, E') → ∀ {Q : Exit → Act → World → Prop}, (∀ κ' a' w', FR P κ0 κ' w0 E' a' w' → Q x.out a' w') → Code.rounds P c Q n a w := by
  intro n
  induction n with
  | zero => intro κ E E' a w x h hs; simp [evLoop] at hs
  | succ n ih =>
    intro κ E E' a w x h hs Q hQ
    simp only [evLoop] at hs
    cases hc : evCode P call m c E with
    | none => simp [hc] at hs
    | some r =>
      obtain ⟨y, E1⟩ := r
      simp only [hc, Option.bind_some] at hs
      show c.wp P _ a w
      refine hb κ E E1 a w y h hc fun κ' a' w' h' => ?_
      cases y with
      | normal => exact ih κ' E1 E' a' w' x h' hs hQ
      | ret => simp only [Option.some.injEq, Prod.mk.injEq] at hs; obtain ⟨rfl, rfl⟩ := hs; exact hQ κ' a' w' h'
      | exit id => simp only [Option.some.injEq, Prod.mk.injEq] at hs; obtain ⟨rfl, rfl⟩ := hs; exact hQ κ' a' w' h'

theorem evCode_sound (hcall : ∀ f xs d, call f xs = some d → PureB P w0 f xs d) (m : Nat) : ∀ (c : Code) (κ : Ctx) (E E' : Env) (a : Act) (w : World) (x : Ex), FR P κ0 κ w0 E a w → evCode P call m c E = some (x, E') →
    ∀ {Q : Exit → Act → World → Prop}, (∀ κ' a' w', FR P κ0 κ' w0 E' a' w' → Q x.out a' w') → c.wp P Q a w := by
  intro c
  induction c with
  | skip =>
    intro κ E E' a w x h hs Q hQ
    simp only [evCode, Option.some.injEq, Prod.mk.injEq] at hs; obtain ⟨rfl, rfl⟩ := hs
    exact wp_skip (hQ κ a w h)
  | region id ops draw =>
    intro κ E E' a w x h hs Q hQ
    cases draw with
    | false =>
      simp only [evCode] at hs
      cases ho : evOps P call ops ops.toList E with
      | none => simp [ho] at hs
      | some E1 =>
        simp only [ho, Option.map_some, Option.some.injEq, Prod.mk.injEq] at hs; obtain ⟨rfl, rfl⟩ := hs
        refine wp_region ?_
        have := evOps_sound hcall ops ops.toList 0 κ E E1 a w (by simp) h ho (Q := Q) hQ
        simpa [List.range_eq_range'] using this
    | true =>
      simp only [evCode] at hs
      split at hs
      · rename_i hd
        cases ho : evOpsD P call ops ops.toList E with
        | none => simp [ho] at hs
        | some E1 =>
          simp only [ho, Option.map_some, Option.some.injEq, Prod.mk.injEq] at hs; obtain ⟨rfl, rfl⟩ := hs
          exact drawn_sound hcall hd h ho hQ
      · cases hs
  | seq c1 c2 ih1 ih2 =>
    intro κ E E' a w x h hs Q hQ
    simp only [evCode] at hs
    cases hc : evCode P call m c1 E with
    | none => simp [hc] at hs
    | some r =>
      obtain ⟨y, E1⟩ := r
      simp only [hc, Option.bind_some] at hs
      refine wp_seq (ih1 κ E E1 a w y h hc fun κ' a' w' h' => ?_)
      cases y with
      | normal => exact ih2 κ' E1 E' a' w' x h' hs hQ
      | ret => simp only [Option.some.injEq, Prod.mk.injEq] at hs; obtain ⟨rfl, rfl⟩ := hs; exact hQ κ' a' w' h'
      | exit id => simp only [Option.some.injEq, Prod.mk.injEq] at hs; obtain ⟨rfl, rfl⟩ := hs; exact hQ κ' a' w' h'
  | cond o c1 c2 ih1 ih2 =>
    intro κ E E' a w x h hs Q hQ
    simp only [evCode] at hs
    split at hs
    · rename_i t ht
      have hv := h.get o
      rw [ht] at hv
      refine wp_cond (t := t) hv.lit_inv ?_
      cases t with
      | true => simp only [if_true] at hs ⊢; exact ih1 κ E E' a w x h hs hQ
      | false => simp only [Bool.false_eq_true, if_false] at hs ⊢; exact ih2 κ E E' a w x h hs hQ
    · cases hs
  | block id c1 ih1 =>
    intro κ E E' a w x h hs Q hQ
    simp only [evCode] at hs
    cases hc : evCode P call m c1 E with
    | none => simp [hc] at hs
    | some r =>
      obtain ⟨y, E1⟩ := r
      simp only [hc, Option.map_some, Option.some.injEq] at hs
      refine wp_block (ih1 κ E E1 a w y h hc fun κ' a' w' h' => ?_)
      cases y with
      | normal => simp only [Prod.mk.injEq] at hs; obtain ⟨rfl, rfl⟩ := hs; exact hQ κ' a' w' h'
      | ret => simp only [Prod.mk.injEq] at hs; obtain ⟨rfl, rfl⟩ := hs; exact hQ κ' a' w' h'
      | exit id' =>
        simp only at hs
        simp only [Ex.out, Exit.inBlock]
        by_cases he : id' = id
        · rw [if_pos he] at hs ⊢
          simp only [Prod.mk.injEq] at hs; obtain ⟨rfl, rfl⟩ := hs; exact hQ κ' a' w' h'
        · rw [if_neg he] at hs ⊢
          simp only [Prod.mk.injEq] at hs; obtain ⟨rfl, rfl⟩ := hs; exact hQ κ' a' w' h'
  | loop c1 ih1 =>
    intro κ E E' a w x h hs Q hQ
    simp only [evCode] at hs
    exact wp_loop_rounds m (evLoop_sound ih1 m κ E E' a w x h hs hQ)
  | exit id =>
    intro κ E E' a w x h hs Q hQ
    simp only [evCode, Option.some.injEq, Prod.mk.injEq] at hs; obtain ⟨rfl, rfl⟩ := hs
    exact wp_exit (hQ κ a w h)
  | ret =>
    intro κ E E' a w x h hs Q hQ
    simp only [evCode, Option.some.injEq, Prod.mk.injEq] at hs; obtain ⟨rfl, rfl⟩ := hs
    exact wp_ret (hQ κ a w h)
  | _ => intro κ E E' a w x h hs; simp [evCode] at hs
end Go.Proofs.YtcddclkccpfdkaaDoor.EV
