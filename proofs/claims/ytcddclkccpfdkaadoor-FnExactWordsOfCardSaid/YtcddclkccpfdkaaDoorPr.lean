/- Contracts that were walked, as contracts of the evaluator: literals in, a literal out. -/
import Derived.Test.YtcddclkccpfdkaaDoorEv20
set_option linter.unusedSimpArgs false
set_option linter.unusedVariables false
namespace Go.Proofs.YtcddclkccpfdkaaDoor.EV
open Go.RowKit
variable {P : Program}
/-- what was not carried out gives no truth value -/
theorem tr_undef : trOf (.lit Go.undef) = .no := rfl
attribute [simp ↓ high] tr_undef
theorem lits_inv {κ : Ctx} : ∀ {us vs : List Value}, All2 (VR κ) (us.map AV.lit) vs → vs = us
  | [], vs, h => h.nil_inv
  | u :: us, vs, h => by
    obtain ⟨y, r, rfl, h1, h2⟩ := h.cons_inv
    rw [lits_inv h2, h1.lit_inv]
theorem ret_lit {κ : Ctx} {w w' : World} {v : Value} (hwi : WI P κ w.heap.size w) (hb : Below w.heap.size w w') : Ret P κ w (.lit v) v { Cs := κ.Cs, Cp := fun _ _ => False, box := fun _ => none, tok := fun _ _ => none } w' where
  bl := hb
  wi :=
    { cs := fun a x hc => by have := hwi.cs a x hc; rw [World.cell?_of_block (hb.block _ (cell_lt this))]; exact this
      cp := fun a x hc => hc.elim
      box := fun k g hg => by cases hg
      boxi := fun k k' g hg => by cases hg
      tok := fun k j τ hg => by cases hg
      tokc := fun k j τ hg => by cases hg
      toki := fun k j τ k' j' τ' hg => by cases hg
      tokb := fun k j τ k' g hg => by cases hg }
  box _ := rfl
  tok _ _ _ := rfl
  cs0 _ _ h := h
  cs1 _ _ h := .inl h
  cp _ _ h := h
  vr := .a (.c (.c0 (.lit v)))
  own j := rfl
theorem pure_lit {f : FuncId} {us : List Value} {v : Value} (h : ∀ w, TabW P w → Calls P f us.toArray w fun e w' => e = .returned v ∧ Below w.heap.size w w') : Pure P f (us.map AV.lit) (.lit v) := by
  intro κ w vs htab hbx htk hwi hvs
  rw [lits_inv hvs]
  exact (h w htab).mono fun e w' ⟨he, hb⟩ => ⟨v, _, he, ret_lit hwi hb⟩
end Go.Proofs.YtcddclkccpfdkaaDoor.EV
