/- All operations that leave memory alone; loads. -/
import Derived.Test.YtcddclkccpfdkaaDoorEv5
import Derived.Laws.Tables
set_option linter.unusedSimpArgs false
set_option linter.unusedVariables false
namespace Go.Proofs.YtcddclkccpfdkaaDoor.EV
open Go.RowKit
variable {P : Program} {κ : Ctx} {w : World}

theorem VR.isC0 {x : AV} {v : Value} (h : VR κ x v) (h0 : EV.isC0 x = true) : CR0 κ x v := by
  cases h with
  | a h => cases h with
    | c h => cases h with
      | c0 h => exact h
      | fn h => simp [EV.isC0] at h0
    | agg h => simp [EV.isC0] at h0
  | tup h => simp [EV.isC0] at h0
theorem buildA_sound {t : TypeId} {parts : List (Nat × AV)} {vparts : List (Nat × Value)} {r : AV} (hp : All2 (fun (p : Nat × AV) (q : Nat × Value) => p.1 = q.1 ∧ VR κ p.2 q.2) parts vparts) (h : buildA P t parts = some r) (w : World) :
    ∃ v, (Instr.build t vparts.toArray).run P w = .ok v w ∧ VR κ r v := by
  unfold buildA at h
  split at h
  · rename_i ps z hps hz
    unfold placesA at hps
    split at hps
    · rename_i fs ht
      cases hf : fillA (fun i => ps[i]?) z parts with
      | none => simp [hf] at h
      | some l =>
        simp [hf] at h; subst h
        obtain ⟨zv, hzv, hzr⟩ := zeroA_sound (P := P) (κ := κ) hz w
        obtain ⟨us, hus, har⟩ := fillA_sound (place' := fun i => ps.toArray[i]?) (fun i p hi => by simpa using hi) parts vparts z zv.cells.toList l hp hzr hf
        refine ⟨.agg us.toArray, ?_, .a (.agg har)⟩
        have hus' : Instr.fill (fun i => ps[i]?) zv.cells vparts = some us.toArray := by simpa using hus
        simp [Instr.build, underlying_run ht, hzv, Array.mapM_eq_mapM_toList, run_places w _ _ hps, hus']
    · cases hps
  · cases h

theorem fieldAt_sound {t f ft off n : Nat} {x r : AV} {v : Value} (hf : fieldA P t f = some (ft, off)) (hn : sizeA P ft = some n) (h0 : n ≠ 0) (hx : VR κ x v) (h : ptrAdd x off = some r) (w : World) :
    ∃ u, (Instr.fieldAt t v f).run P w = .ok u w ∧ VR κ r u := by
  obtain ⟨fs, fd, ht, hfd, rfl, rfl⟩ := fieldA_spec hf
  obtain ⟨a, rfl, hr⟩ := ptrAdd_sound hx h
  refine ⟨_, ?_, hr⟩
  simp only [Instr.fieldAt, Sem.run_bind, underlying_run ht, Result.andThen_ok, hfd, Instr.sureAddr, Sem.run_pure, fieldPlace, sizeA_run hn, if_neg h0]
theorem field_sound {t f ft off : Nat} {cs : List AV} {r : AV} {v : Value} (hf : fieldA P t f = some (ft, off)) (hx : VR κ (.agg cs) v) (h : partA P ft cs off = some r) (w : World) :
    ∃ u, (Instr.field t v f).run P w = .ok u w ∧ VR κ r u := by
  obtain ⟨fs, fd, ht, hfd, rfl, rfl⟩ := fieldA_spec hf
  obtain ⟨vs, rfl, hvs⟩ := hx.agg_inv
  obtain ⟨u, hu, hr⟩ := partA_sound hvs h w
  refine ⟨u, ?_, .a hr⟩
  simp only [Instr.field, Sem.run_bind, underlying_run ht, Result.andThen_ok, hfd, asAgg, Sem.run_pure]
  exact hu

theorem All2.map_both {α β γ δ : Type} {R : α → β → Prop} {S : γ → δ → Prop} {f : α → γ} {g : β → δ} (hi : ∀ x y, R x y → S (f x) (g y)) {l : List α} {l' : List β} (h : All2 R l l') : All2 S (l.map f) (l'.map g) :=
  ⟨by simp [h.1], fun j x y hx hy => by
    rw [List.getElem?_map] at hx hy
    cases hl : l[j]? with
    | none => simp [hl] at hx
    | some z =>
      cases hl' : l'[j]? with
      | none => simp [hl'] at hy
      | some z' => simp [hl] at hx; simp [hl'] at hy; subst hx; subst hy; exact hi _ _ (h.2 j _ _ hl hl')⟩
theorem All2.same {α : Type} {R : α → α → Prop} (hr : ∀ x, R x x) (l : List α) : All2 R l l := ⟨rfl, fun j x y hx hy => by rw [hx] at hy; cases hy; exact hr x⟩
theorem All2.on {α β γ : Type} {R : β → γ → Prop} {f : α → β} {g : α → γ} (h : ∀ x, R (f x) (g x)) (l : List α) : All2 R (l.map f) (l.map g) :=
  All2.map_both (R := fun x y => x = y) (fun x y e => e ▸ h x) (All2.same (fun _ => rfl) l)

/-- an operation that leaves memory alone -/
theorem evPure_sound {g : Operand → AV} {ρ : Operand → Value} (hg : ∀ x, VR κ (g x) (ρ x)) {o : Oper} {r : AV} (h : evPure P g o.op = some r) (w : World) :
    ∃ v, (execOp ρ o).run P w = .ok (.value v) w ∧ VR κ r v := by
  obtain ⟨dst, op, type, pos, after, guard⟩ := o
  have vrun : ∀ {s : Sem Value} {v : Value}, s.run P w = .ok v w → (do pure (Next.value (← s)) : Sem Next).run P w = .ok (.value v) w := fun hs => by simp [hs]
  simp only at h
  cases op with
  | move x => simp only [evPure, Option.some.injEq] at h; subst h; exact ⟨ρ x, rfl, hg x⟩
  | assign x => simp only [evPure, Option.some.injEq] at h; subst h; exact ⟨ρ x, rfl, hg x⟩
  | pick c a b =>
    simp only [evPure] at h
    split at h
    · rename_i t hc
      have hv := hg c
      rw [hc] at hv
      have hb := hv.lit_inv
      simp only [Option.some.injEq] at h; subst h
      refine ⟨if t then ρ a else ρ b, ?_, by cases t <;> simp <;> exact hg _⟩
      simp only [execOp, hb, asBool, Sem.run_bind, Sem.run_pure, Result.andThen_ok]
    · cases h
  | build t parts =>
    simp only [evPure] at h
    obtain ⟨v, hv, hr⟩ := buildA_sound (κ := κ) (vparts := parts.toList.map fun p => (p.1, ρ p.2)) (All2.on (fun p => ⟨rfl, hg p.2⟩) _) h w
    refine ⟨v, ?_, hr⟩
    simp only [execOp]
    refine vrun ?_
    rw [show (parts.map fun x => (x.1, ρ x.2)) = (parts.toList.map fun p => (p.1, ρ p.2)).toArray by apply Array.ext'; simp]
    exact hv
  | nilCheck x =>
    simp only [evPure] at h
    split at h
    · rename_i k off hc
      have hv := hg x
      rw [hc] at hv
      obtain ⟨q, hq, hb⟩ := hv.loc_inv
      simp only [Option.some.injEq] at h; subst h
      exact ⟨_, by simp only [execOp, hq, Sem.run_pure], .c0 (.loc hb)⟩
    · rename_i cs hc
      have hv := hg x
      rw [hc] at hv
      obtain ⟨a, vs, hq, h1, h2⟩ := hv.eptr_inv
      simp only [Option.some.injEq] at h; subst h
      exact ⟨_, by simp only [execOp, hq, Sem.run_pure], .c0 (.eptr h1 h2)⟩
    · cases h
  | binOp op t x y ty =>
    simp only [evPure] at h
    obtain ⟨v, hv, hr⟩ := binA_sound x y (hg x) (hg y) h w
    exact ⟨v, by simp only [execOp]; exact vrun hv, hr⟩
  | unOp op t x =>
    simp only [evPure] at h
    obtain ⟨v, hv, hr⟩ := unA_sound (P := P) (hg x) h w
    exact ⟨v, by simp only [execOp]; exact vrun hv, hr⟩
  | makeFunc fn first caps =>
    cases fn with
    | func f =>
      simp only [evPure] at h
      split at h
      · rename_i he
        simp only [Option.some.injEq] at h; subst h
        obtain ⟨he, hc⟩ := he
        have hf : first = #[] := by simpa using he
        subst hf
        refine ⟨.func (.func f) #[] (caps.toList.map ρ).toArray, ?_, .a (.c (.fn ?_))⟩
        · simp only [execOp]
          refine vrun ?_
          simp only [Instr.makeFunc, Sem.run_pure, Array.map_empty]
          congr 2
          apply Array.ext'; simp
        · refine ⟨by simp, fun j x y hx hy => ?_⟩
          have h0 : isC0 x = true := by rw [List.all_eq_true] at hc; exact hc x (List.mem_of_getElem? hx)
          exact ((All2.on hg caps.toList).2 j x y hx hy).isC0 h0
      · cases h
    | _ => simp [evPure] at h
  | slice t x lo hi mx =>
    simp only [evPure] at h
    obtain ⟨v, hv, hr⟩ := sliceA_sound (P := P) (vl := lo.map ρ) (vh := hi.map ρ) (vm := mx.map ρ) (hg x) (fun y hy => by
      cases lo with
      | none => cases hy
      | some l => cases hy; exact ⟨_, rfl, hg l⟩) (fun hy => by cases lo with | none => rfl | some l => cases hy) (fun y hy => by
      cases hi with
      | none => cases hy
      | some l => cases hy; exact ⟨_, rfl, hg l⟩) (fun hy => by cases hi with | none => rfl | some l => cases hy) (fun hy => by cases mx with | none => rfl | some l => cases hy) h w
    exact ⟨v, by simp only [execOp]; exact vrun hv, hr⟩
  | fieldAddr t x f =>
    simp only [evPure] at h
    split at h
    · rename_i ft off hf
      split at h
      · rename_i n hn
        split at h
        · cases h
        · rename_i h0
          obtain ⟨v, hv, hr⟩ := fieldAt_sound (P := P) hf hn h0 (hg x) h w
          exact ⟨v, by simp only [execOp]; exact vrun hv, hr⟩
      · cases h
    · cases h
  | field t x f =>
    simp only [evPure] at h
    split at h
    · rename_i ft off cs hf hc
      have hv := hg x
      rw [hc] at hv
      obtain ⟨v, hv, hr⟩ := field_sound (P := P) hf hv h w
      exact ⟨v, by simp only [execOp]; exact vrun hv, hr⟩
    · cases h
  | indexAddr t x i =>
    simp only [evPure] at h
    obtain ⟨v, hv, hr⟩ := indexAddrA_sound (P := P) (hg x) (hg i) h w
    exact ⟨v, by simp only [execOp]; exact vrun hv, hr⟩
  | index t x i =>
    simp only [evPure] at h
    obtain ⟨v, hv, hr⟩ := indexA_sound (P := P) (hg x) (hg i) h w
    exact ⟨v, by simp only [execOp]; exact vrun hv, hr⟩
  | extract t i =>
    simp only [evPure] at h
    split at h
    · rename_i l hc
      have hv := hg t
      rw [hc] at hv
      obtain ⟨vs, hq, hvs⟩ := hv.tup_inv
      obtain ⟨y, hy, hr⟩ := hvs.get h
      refine ⟨y, ?_, .a hr⟩
      simp only [execOp]
      refine vrun ?_
      simp [Instr.extract, hq, hy]
    · cases h
  | _ => simp [evPure] at h
theorem lenA_sound {g : Operand → AV} {ρ : Operand → Value} (hg : ∀ x, VR κ (g x) (ρ x)) {c : Call} {r : AV} (h : lenA P g c = some r) (ty : TypeId) (w : World) :
    ∃ v, (Builtin.len_ c.argTypes ty (c.args.map ρ)).run P w = .ok v w ∧ VR κ r v := by
  unfold lenA at h
  split at h
  · rename_i x t hx ht
    have hx' : c.args = #[x] := by apply Array.ext'; simpa using hx
    have ht' : c.argTypes = #[t] := by apply Array.ext'; simpa using ht
    have hv := hg x
    rw [hx', ht']
    split at h
    · rename_i s hu hc
      rw [hc] at hv
      simp only [Option.some.injEq] at h; subst h
      exact ⟨_, by simp [Builtin.len_, underlying_run hu, hv.lit_inv, goInt], .lit _ _⟩
    · rename_i e o es hu hc
      rw [hc] at hv
      obtain ⟨A, c', hq, _⟩ := hv.sl_inv
      simp only [Option.some.injEq] at h; subst h
      exact ⟨_, by simp [Builtin.len_, underlying_run hu, hq, goInt], .lit _ _⟩
    · rename_i e k n s hu hc
      rw [hc] at hv
      obtain ⟨g, hq, _⟩ := hv.mrow_inv
      simp only [Option.some.injEq] at h; subst h
      exact ⟨_, by simp [Builtin.len_, underlying_run hu, hq, goInt], .lit _ _⟩
    · cases h
  · cases h
end Go.Proofs.YtcddclkccpfdkaaDoor.EV
