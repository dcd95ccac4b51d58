/- Frames: what holds of the world while a function runs; loads, stores, new variables, slice literals. -/
import Derived.Test.YtcddclkccpfdkaaDoorEv6
import Derived.Laws.AppendOwn
import Derived.Laws.NewBlocks
set_option linter.unusedSimpArgs false
set_option linter.unusedVariables false
namespace Go.Proofs.YtcddclkccpfdkaaDoor.EV
open Go.RowKit
variable {P : Program} {κ0 κ : Ctx} {w w0 : World}

structure WI (P : Program) (κ : Ctx) (base : Nat) (w : World) : Prop where
  cs : ∀ a v, κ.Cs a v → w.cell? a = some v
  cp : ∀ a v, κ.Cp a v → w.cell? a = some v
  box : ∀ k g, κ.box k = some g → base ≤ g ∧ g < w.heap.size ∧ ∀ a v, a.block = g → ¬ κ.Cs a v ∧ ¬ κ.Cp a v
  boxi : ∀ k k' g, κ.box k = some g → κ.box k' = some g → k = k'
  tok : ∀ k j τ, κ.tok k j = some τ → base ≤ τ.g ∧ τ.n ≤ τ.cap ∧ τ.cap ≤ maxLen ∧ 0 < τ.size ∧ sizeA P τ.e = some τ.size ∧ ∃ cur, w.heap[τ.g]? = some (.cells cur τ.e (0, 0)) ∧ cur.size = τ.cap * τ.size
  tokc : ∀ k j τ, κ.tok k j = some τ → ∀ a v, a.block = τ.g → (κ.Cs a v → a.off < τ.n * τ.size) ∧ ¬ κ.Cp a v
  toki : ∀ k j τ k' j' τ', κ.tok k j = some τ → κ.tok k' j' = some τ' → τ.g = τ'.g → k = k' ∧ j = j'
  tokb : ∀ k j τ k' g, κ.tok k j = some τ → κ.box k' = some g → τ.g ≠ g

theorem cell_lt {a : Addr} {v : Value} (h : w.cell? a = some v) : a.block < w.heap.size := World.block_lt_of_cell? w a h
theorem tok_lt {g e : Nat} {cur : Array Value} (h : w.heap[g]? = some (.cells cur e (0, 0))) : g < w.heap.size := (Array.getElem?_eq_some_iff.1 h).1

/-- what was there is as it was -/
theorem WI.grow {base : Nat} {w' : World} (h : WI P κ base w) (hs : w.heap.size ≤ w'.heap.size) (hb : ∀ k, k < w.heap.size → w'.heap[k]? = w.heap[k]?) : WI P κ base w' where
  cs a v hc := by have := h.cs a v hc; rw [World.cell?_of_block (hb _ (cell_lt this))]; exact this
  cp a v hc := by have := h.cp a v hc; rw [World.cell?_of_block (hb _ (cell_lt this))]; exact this
  box k g hg := let ⟨h1, h2, h3⟩ := h.box k g hg; ⟨h1, by omega, h3⟩
  boxi := h.boxi
  tok k j τ ht := by
    obtain ⟨h1, h2, h3, h4, hz, cur, h5, h6⟩ := h.tok k j τ ht
    exact ⟨h1, h2, h3, h4, hz, cur, by rw [hb _ (tok_lt h5)]; exact h5, h6⟩
  tokc := h.tokc
  toki := h.toki
  tokb := h.tokb

/-- a slot with a block of its own: what stands in it -/
def boxVal (x : AV) (g : Nat) : Value :=
  match x with
  | .row n _ _ => .slice (some ⟨g, 0, none⟩) n n
  | _ => .pointer (some ⟨g, 0, none⟩)
inductive SR (κ : Ctx) (w : World) (t : Nat) : AV → Value → Prop
  | val {x : AV} {v : Value} (h : VR κ x v) : SR κ w t x v
  | cell {x : AV} {cs : List AV} {g T : Nat} {vs : List Value} (hx : cellOf x = some cs) (hb : κ.box t = some g) (hh : w.heap[g]? = some (.cells vs.toArray T (0, 0))) (hc : All2 (CR0 κ) cs vs) (h1 : ∀ y ∈ vs, y.oneCell' = true) : SR κ w t x (boxVal x g)

structure FR (P : Program) (κ0 κ : Ctx) (w0 : World) (E : Env) (a : Act) (w : World) : Prop where
  defers : a.defers = []
  size : a.tmps.size = E.s.length
  slots : ∀ t x, E.s[t]? = some x → ∃ v, a.tmps[t]? = some v ∧ SR κ w t x v
  live : ∀ k j, E.live k j = (κ.tok k j).map (·.n)
  wi : WI P κ w0.heap.size w
  bl : Below w0.heap.size w0 w
  cs0 : ∀ a v, κ0.Cs a v → κ.Cs a v
  cs1 : ∀ a v, κ.Cs a v → κ0.Cs a v ∨ w0.heap.size ≤ a.block
  cp0 : ∀ a v, κ.Cp a v → κ0.Cp a v

variable {E : Env} {a : Act}
theorem SR.view {t : Nat} {x : AV} {v : Value} (h : SR κ w t x v) : VR κ (EV.view t x) v := by
  cases h with
  | val h =>
    cases x with
    | cell cs => exact h.cell_inv.elim
    | row n s cs => exact h.row_inv.elim
    | _ => exact h
  | cell hx hb =>
    cases x with
    | cell cs => exact .c0 (.loc hb)
    | row n s cs => exact .c0 (.mrow hb)
    | _ => cases hx
theorem FR.get (h : FR P κ0 κ w0 E a w) (x : Operand) : VR κ (E.get x) (a.eval x) := by
  cases x with
  | tmp t =>
    simp only [Env.get, Act.eval]
    cases hx : E.s[t]? with
    | none =>
      have ht : E.s.length ≤ t := List.getElem?_eq_none_iff.1 hx
      have ht' : a.tmps[t]? = none := Array.getElem?_eq_none_iff.2 (by rw [h.size]; exact ht)
      simp only [List.getD_eq_getElem?_getD, hx, Array.getD_eq_getD_getElem?, ht', Option.getD_none]
      exact .lit _ _
    | some x =>
      obtain ⟨v, hv, hs⟩ := h.slots t x hx
      simp only [List.getD_eq_getElem?_getD, hx, Array.getD_eq_getD_getElem?, hv, Option.getD_some]
      exact hs.view
  | const v =>
    simp only [Env.get, Act.eval, ofConst]
    split
    · exact .c0 (.sl (es := []) (SlR.nil _ _ _) rfl)
    · exact .lit _ _
  | global g => exact .c0 (.junk _)
  | func f => exact .a (.c (.fn (caps := []) (vs := []) All2.nil))
theorem FR.cellAt (h : FR P κ0 κ w0 E a w) {k : Nat} {cs : List AV} (hc : E.cellAt k = some cs) : ∃ g T vs, κ.box k = some g ∧ w.heap[g]? = some (.cells (vs : List Value).toArray T (0, 0)) ∧ All2 (CR0 κ) cs vs ∧ (∀ y ∈ vs, y.oneCell' = true) ∧ ∃ x, E.s[k]? = some x ∧ cellOf x = some cs := by
  unfold Env.cellAt at hc
  rw [List.getD_eq_getElem?_getD] at hc
  cases hx : E.s[k]? with
  | none => simp [hx, cellOf] at hc
  | some x =>
    simp only [hx, Option.getD_some] at hc
    obtain ⟨v, hv, hs⟩ := h.slots k _ hx
    cases hs with
    | val h =>
      cases x with
      | cell cs => exact h.cell_inv.elim
      | row n s cs => exact h.row_inv.elim
      | _ => cases hc
    | cell hx' hb hh hcc h1 => rw [hx'] at hc; cases hc; exact ⟨_, _, _, hb, hh, hcc, h1, _, rfl, hx'⟩
theorem FR.put (h : FR P κ0 κ w0 E a w) (d : Option Nat) {x : AV} {v : Value} (hx : VR κ x v) : FR P κ0 κ w0 (E.put d x) (a.put d v) w := by
  cases d with
  | none => exact h
  | some d =>
    refine ⟨h.defers, by simp [Act.put, Env.put, h.size], fun t y hy => ?_, h.live, h.wi, h.bl, h.cs0, h.cs1, h.cp0⟩
    simp only [Env.put, Act.put] at hy ⊢
    by_cases ht : d = t
    · subst ht
      have hlt := (List.getElem?_eq_some_iff.1 hy).1
      simp only [List.length_set] at hlt
      rw [List.getElem?_set_self hlt] at hy
      simp only [Option.some.injEq] at hy; subst hy
      exact ⟨v, by simp [h.size, hlt], .val hx⟩
    · rw [List.getElem?_set_ne ht] at hy
      obtain ⟨u, hu, hs⟩ := h.slots t y hy
      exact ⟨u, by rw [Array.getElem?_setIfInBounds_ne ht]; exact hu, hs⟩

theorem cell_block {g o T : Nat} {vs : List Value} (hh : w.heap[g]? = some (.cells vs.toArray T (0, 0))) {v : Value} (hv : vs[o]? = some v) : w.cell? ⟨g, o, none⟩ = some v := by
  simp [World.cell?, hh, hv]
theorem plain_add (g o j : Nat) : (⟨g, o, none⟩ : Addr).add j = ⟨g, o + j, none⟩ := by unfold Addr.add; split <;> simp_all

theorem evRead_sound (h : FR P κ0 κ w0 E a w) {o : Oper} {r : AV} (hr : evRead P E o.op = some r) : ∃ v, (execOp a.eval o).run P w = .ok (.value v) w ∧ VR κ r v := by
  obtain ⟨dst, op, type, pos, after, guard⟩ := o
  have vrun : ∀ {s : Sem Value} {v : Value}, s.run P w = .ok v w → (do pure (Next.value (← s)) : Sem Next).run P w = .ok (.value v) w := fun hs => by simp [hs]
  simp only at hr
  cases op with
  | convert src dst x =>
    simp only [evRead] at hr
    obtain ⟨v, hv, hr⟩ := convA_sound h.wi.cs (h.get x) hr
    exact ⟨v, by simp only [execOp]; exact vrun hv, hr⟩
  | load t ad =>
    simp only [evRead] at hr
    have hg := h.get ad
    split at hr
    · rename_i k off hc
      rw [hc] at hg
      obtain ⟨g', hq, hb'⟩ := hg.loc_inv
      split at hr
      · rename_i cs n hcell ha hn
        obtain ⟨g, T, vs, hb, hh, hcs, _, _, _⟩ := h.cellAt hcell
        rw [hb] at hb'; cases hb'
        split at hr
        · rename_i hle
          simp only [Option.some.injEq] at hr; subst hr
          have hvl : cs.length = vs.length := hcs.1
          have hld := run_loadCells_list (P := P) (w := w) ⟨g', off, none⟩ ((vs.drop off).take n) (fun j v hj => by
            rw [List.getElem?_take] at hj
            split at hj
            · rw [List.getElem?_drop] at hj
              rw [plain_add]; exact cell_block hh hj
            · cases hj)
          have hlen : ((vs.drop off).take n).length = n := by simp; omega
          rw [hlen] at hld
          refine ⟨.agg ((vs.drop off).take n).toArray, ?_, .a (.agg ((hcs.drop off).take n))⟩
          simp only [execOp]
          refine vrun ?_
          simp only [Instr.loadAt, hq, Instr.sureAddr, loadVar, Sem.run_bind, Sem.run_pure, Result.andThen_ok, isAggA_run ha, if_true, sizeA_run hn, hld]
        · cases hr
      · rename_i cs hcell ha
        obtain ⟨g, T, vs, hb, hh, hcs, _, _, _⟩ := h.cellAt hcell
        rw [hb] at hb'; cases hb'
        obtain ⟨v, hv, hvr⟩ := hcs.get hr
        refine ⟨v, ?_, .c0 hvr⟩
        simp only [execOp]
        refine vrun ?_
        simp only [Instr.loadAt, hq, Instr.sureAddr, loadVar, Sem.run_bind, Sem.run_pure, Result.andThen_ok, isAggA_run ha, Bool.false_eq_true, if_false, run_load, cell_block hh hv]
      · cases hr
    · rename_i cs hc
      rw [hc] at hg
      obtain ⟨ad', vs, hq, hcs, hcell⟩ := hg.eptr_inv
      have hcell' : ∀ (j : Nat) y, vs[j]? = some y → w.cell? (ad'.add j) = some y := fun j y hy => (hcell j y hy).elim (h.wi.cp _ _) (h.wi.cs _ _)
      split at hr
      · rename_i n ha hn
        split at hr
        · rename_i hle
          simp only [Option.some.injEq] at hr; subst hr
          have hvl : cs.length = vs.length := hcs.1
          have hld := run_loadCells_list (P := P) (w := w) ad' (vs.take n) (fun j v hj => by
            rw [List.getElem?_take] at hj
            split at hj
            · exact hcell' _ _ hj
            · cases hj)
          have hlen : (vs.take n).length = n := by simp; omega
          rw [hlen] at hld
          refine ⟨.agg (vs.take n).toArray, ?_, .a (.agg ((hcs.imp fun _ _ h => h.cr).take n))⟩
          simp only [execOp]
          refine vrun ?_
          simp only [Instr.loadAt, hq, Instr.sureAddr, loadVar, Sem.run_bind, Sem.run_pure, Result.andThen_ok, isAggA_run ha, if_true, sizeA_run hn, hld]
        · cases hr
      · rename_i ha
        obtain ⟨v, hv, hvr⟩ := hcs.get hr
        have hc0 := hcell' 0 v hv
        rw [add_zero] at hc0
        refine ⟨v, ?_, .c0 hvr.cr⟩
        simp only [execOp]
        refine vrun ?_
        simp only [Instr.loadAt, hq, Instr.sureAddr, loadVar, Sem.run_bind, Sem.run_pure, Result.andThen_ok, isAggA_run ha, Bool.false_eq_true, if_false, run_load, hc0]
      · cases hr
    · cases hr
  | _ => simp [evRead] at hr
end Go.Proofs.YtcddclkccpfdkaaDoor.EV
