/- What a function hands back; the soundness of the whole. -/
import Derived.Test.YtcddclkccpfdkaaDoorEv14
import Derived.Tactics
set_option linter.unusedSimpArgs false
set_option linter.unusedVariables false
namespace Go.Proofs.YtcddclkccpfdkaaDoor.EV
open Go.RowKit
variable {P : Program} {κ0 κ : Ctx} {w w0 : World} {E : Env} {a : Act} {call : FuncId → List AV → Option AV}

def Fins (E : Env) (used : List (Nat × Nat)) (pos : Nat) (l m : List AV) : Prop :=
  l.length = m.length ∧ ∀ (p : Nat) x y, l[p]? = some x → m[p]? = some y → ∃ used', Fin1 E used' (pos + p) x y ∧ (∀ t, t ∈ used → t ∈ used') ∧ ∀ (p' : Nat) x', p' < p → l[p']? = some x' → ∀ t ∈ toks1 x', t ∈ used'

theorem Fins.append {used u2 : List (Nat × Nat)} {pos : Nat} {l m l2 m2 : List AV} (h : Fins E used pos l m) (h2 : Fins E u2 (pos + l.length) l2 m2) (hu : ∀ t, t ∈ used → t ∈ u2) (hl : ∀ x ∈ l, ∀ t ∈ toks1 x, t ∈ u2) : Fins E used pos (l ++ l2) (m ++ m2) := by
  refine ⟨by simp [h.1, h2.1], fun p x y hx hy => ?_⟩
  by_cases hp : p < l.length
  · rw [List.getElem?_append_left hp] at hx
    rw [List.getElem?_append_left (h.1 ▸ hp)] at hy
    obtain ⟨u, h3, h4, h5⟩ := h.2 p x y hx hy
    exact ⟨u, h3, h4, fun p' x' hp' hx' => h5 p' x' hp' (by rwa [List.getElem?_append_left (by omega)] at hx')⟩
  · rw [List.getElem?_append_right (by omega)] at hx
    rw [List.getElem?_append_right (by rw [← h.1]; omega), ← h.1] at hy
    obtain ⟨u, h3, h4, h5⟩ := h2.2 _ x y hx hy
    refine ⟨u, by rw [show pos + p = pos + l.length + (p - l.length) by omega]; exact h3, fun t ht => h4 t (hu t ht), fun p' x' hp' hx' t ht => ?_⟩
    by_cases hq : p' < l.length
    · rw [List.getElem?_append_left hq] at hx'
      exact h4 t (hl x' (List.mem_of_getElem? hx') t ht)
    · rw [List.getElem?_append_right (by omega)] at hx'
      exact h5 _ x' (by omega) hx' t ht

theorem fins_one {used : List (Nat × Nat)} {pos : Nat} {x y : AV} (h : fin1 E used pos x = some y) : Fins E used pos [x] [y] := by
  refine ⟨rfl, fun p x' y' hx hy => ?_⟩
  have hp : p = 0 := by have := (List.getElem?_eq_some_iff.1 hx).1; simpa using this
  subst hp
  simp only [List.getElem?_cons_zero, Option.some.injEq] at hx hy
  subst hx; subst hy
  exact ⟨used, fin1_spec h, fun _ h => h, fun p' _ hp => by omega⟩

theorem all2_one {α β : Type} {R : α → β → Prop} {x : α} {y : β} (h : R x y) : All2 R [x] [y] := All2.cons h All2.nil

theorem finA_split {used : List (Nat × Nat)} {pos : Nat} {x y : AV} {v : Value} (hf : finA E used pos x = some y) (h : VR κ x v) :
    ∃ vs, All2 (CR0 κ) x.cells vs ∧ Fins E used pos x.cells y.cells ∧ ownedA y = y.cells.flatMap owned1 ∧ owned y = ownedA y ∧ ∀ κ', All2 (CR0 κ') y.cells vs → AR κ' y v := by
  cases h with
  | tup h => simp [finA, fin1] at hf
  | a h => cases h with
    | agg h =>
      simp only [finA] at hf
      cases hl : finL E used pos _ with
      | none => rw [hl] at hf; cases hf
      | some m =>
        rw [hl] at hf
        simp only [Option.map_some, Option.some.injEq] at hf; subst hf
        exact ⟨_, h, finL_spec hl, rfl, rfl, fun κ' hc => .agg hc⟩
    | c h => cases h with
      | fn h => simp [finA, fin1] at hf
      | c0 h =>
        have key : fin1 E used pos x = some y → y.cells = [y] → ownedA y = owned1 y → owned y = ownedA y → x.cells = [x] → _ := fun h1 h2 h3 h4 h5 => (⟨[v], by rw [h5]; exact all2_one h, by rw [h5, h2]; exact fins_one h1, by rw [h3, h2]; simp, h4, fun κ' hc => by
          rw [h2] at hc
          obtain ⟨_, _, he, hc, _⟩ := hc.cons_inv
          cases he; exact .c (.c0 hc)⟩ : ∃ vs, All2 (CR0 κ) x.cells vs ∧ Fins E used pos x.cells y.cells ∧ ownedA y = y.cells.flatMap owned1 ∧ owned y = ownedA y ∧ ∀ κ', All2 (CR0 κ') y.cells vs → AR κ' y v)
        cases h with
        | lit v =>
          have h1 : fin1 E used pos (.lit v) = some y := hf
          have := fin1_spec h1
          cases this
          exact key h1 rfl rfl rfl rfl
        | sl hs ho =>
          have h1 := hf
          simp only [finA] at h1
          have := fin1_spec h1
          cases this <;> exact key h1 rfl rfl rfl rfl
        | loc h => simp [finA, fin1] at hf
        | mrow hb =>
          have h1 := hf
          simp only [finA] at h1
          have := fin1_spec h1
          cases this; exact key h1 rfl rfl rfl rfl
        | eptr h hc => simp [finA, fin1] at hf
        | junk v => simp [finA, fin1] at hf

theorem finC_split : ∀ {l m : List AV} {used : List (Nat × Nat)} {pos : Nat} {us : List Value}, finC E used pos l = some m → All2 (VR κ) l us →
    ∃ vs, All2 (CR0 κ) (l.flatMap AV.cells) vs ∧ Fins E used pos (l.flatMap AV.cells) (m.flatMap AV.cells) ∧ m.flatMap ownedA = (m.flatMap AV.cells).flatMap owned1 ∧ ∀ κ', All2 (CR0 κ') (m.flatMap AV.cells) vs → All2 (AR κ') m us := by
  intro l
  induction l with
  | nil =>
    intro m used pos us hf h
    simp only [finC, Option.some.injEq] at hf; subst hf
    have := h.nil_inv; subst this
    exact ⟨[], All2.nil, ⟨rfl, fun p x y hx => by simp at hx⟩, rfl, fun κ' _ => All2.nil⟩
  | cons x l ih =>
    intro m used pos us hf h
    obtain ⟨v, us', rfl, hv, hr⟩ := h.cons_inv
    simp only [finC] at hf
    split at hf
    · rename_i y m' hy hm
      simp only [Option.some.injEq] at hf; subst hf
      obtain ⟨vs1, a1, a2, a3, _, a4⟩ := finA_split hy hv
      obtain ⟨vs2, b1, b2, b3, b4⟩ := ih hm hr
      refine ⟨vs1 ++ vs2, by rw [List.flatMap_cons]; exact a1.append b1, ?_, ?_, fun κ' hc => ?_⟩
      · rw [List.flatMap_cons, List.flatMap_cons]
        refine a2.append b2 (fun t ht => List.mem_append_right _ ht) (fun z hz t ht => List.mem_append_left _ (List.mem_flatMap.2 ⟨z, hz, ht⟩))
      · rw [List.flatMap_cons, List.flatMap_cons, List.flatMap_append, a3, b3]
      · rw [List.flatMap_cons] at hc
        have hl : y.cells.length = vs1.length := by rw [← a2.1]; exact a1.1
        refine All2.cons (a4 κ' ?_) (b4 κ' ?_)
        · have := hc.take y.cells.length
          rwa [List.take_left', hl, List.take_left'] at this <;> first | rfl | exact hl.symm
        · have := hc.drop y.cells.length
          rwa [List.drop_left', hl, List.drop_left'] at this <;> first | rfl | exact hl.symm
    · cases hf

/-- what the answer is, once its cells are named anew -/
theorem fin_ret {l m : List AV} {vs : List Value} {d : AV} {v : Value} (hb0 : ∀ q, κ0.box q = none) (h : FR P κ0 κ w0 E a w) (hs : Fins E [] 0 l m) (hc : All2 (CR0 κ) l vs) (ho : owned d = m.flatMap owned1) (hd : ∀ κ', All2 (CR0 κ') m vs → VR κ' d v) :
    ∃ κ', Ret P κ0 w0 d v κ' w := by
  have hs' : ∀ (p : Nat) x y, l[p]? = some x → m[p]? = some y → ∃ used', Fin1 E used' p x y ∧ ∀ (p' : Nat) x', p' < p → l[p']? = some x' → ∀ t ∈ toks1 x', t ∈ used' := by
    intro p x y hx hy
    obtain ⟨u, h1, _, h2⟩ := hs.2 p x y hx hy
    exact ⟨u, by simpa using h1, h2⟩
  refine ⟨finCtx κ w l m, h.bl, finCtx_wi hs' h.wi, fun _ => rfl, fun q j hq => ?_, fun ad x hc => .inl (h.cs0 ad x hc), fun ad x hc => hc.elim (h.cs1 ad x) (fun ⟨k, g, hb, hg, _⟩ => .inr (by rw [hg]; exact (h.wi.box k g hb).1)), fun _ _ hc => hc, hd _ (fin_cells h hs.1 hs' hc), fun j => ?_⟩
  · simp only [finCtx, if_neg hq]
  · rw [ho]; exact fin_own h hs.1 hs' j

def resRun (tmps : Array Value) : ResultVar → Sem Value
  | .tmp t => pure (tmps.getD t Go.undef)
  | .cell a t => do loadVar t (← asAddr (tmps.getD a Go.undef))

theorem resV_sound (h : FR P κ0 κ w0 E a w) {r : ResultVar} {x : AV} (hr : resV P E r = some x) : ∃ v, (resRun a.tmps r).run P w = .ok v w ∧ VR κ x v := by
  cases r with
  | tmp t =>
    simp only [resV, Option.some.injEq] at hr; subst hr
    exact ⟨_, by simp [resRun, Act.eval], h.get (.tmp t)⟩
  | cell ad t =>
    simp only [resV] at hr
    obtain ⟨v, hv, hx⟩ := evRead_sound h (o := { dst := none, op := .load t (.tmp ad), type := 0, pos := "", after := #[], guard := none }) hr
    refine ⟨v, ?_, hx⟩
    simp only [execOp, Act.eval, Instr.loadAt] at hv
    simp only [resRun]
    generalize a.tmps.getD ad Go.undef = u at hv ⊢
    cases u with
    | pointer p => cases p with
      | some p =>
        simp only [Instr.sureAddr, asAddr, Sem.run_bind, Sem.run_pure, Result.andThen_ok] at hv ⊢
        cases hl : (loadVar t p).run P w with
        | ok y w1 => rw [hl] at hv; simp at hv; obtain ⟨rfl, rfl⟩ := hv; rfl
        | halt s w1 => rw [hl] at hv; simp at hv
      | none => simp [Instr.sureAddr] at hv
    | _ => simp [Instr.sureAddr] at hv

theorem resL_sound (h : FR P κ0 κ w0 E a w) : ∀ {rs : List ResultVar} {l : List AV}, resL P E rs = some l → ∃ us, (rs.mapM (resRun a.tmps)).run P w = .ok us w ∧ All2 (VR κ) l us := by
  intro rs
  induction rs with
  | nil => intro l hr; simp only [resL, Option.some.injEq] at hr; subst hr; exact ⟨[], by simp, All2.nil⟩
  | cons r rs ih =>
    intro l hr
    simp only [resL] at hr
    split at hr
    · rename_i x m hx hm
      simp only [Option.some.injEq] at hr; subst hr
      obtain ⟨v, hv, hvr⟩ := resV_sound h hx
      obtain ⟨us, hus, hall⟩ := ih hm
      refine ⟨v :: us, ?_, All2.cons hvr hall⟩
      rw [List.mapM_cons]
      simp [hv, hus]
    · cases hr

theorem results_run {fn : Func} {tmps : Array Value} {us : List Value} (h : (fn.results.toList.mapM (resRun tmps)).run P w = .ok us w) : (results fn tmps).run P w = .ok (if h : us.length = 1 then us[0] else .tuple us.toArray) w := by
  have e : fn.results = fn.results.toList.toArray := rfl
  unfold results
  rw [e, List.mapM_toArray]
  simp only [Sem.run_bind, Sem.run_map]
  have key : ∀ f : ResultVar → Sem Value, f = resRun tmps → (fn.results.toList.mapM f).run P w = .ok us w := by intro f hf; subst hf; exact h
  rw [key _ (by funext r; cases r <;> rfl)]
  simp

theorem fin_sound (hb0 : ∀ q, κ0.box q = none) (h : FR P κ0 κ w0 E a w) {l : List AV} {us : List Value} {d : AV} (hl : All2 (VR κ) l us) (hf : fin E l = some d) : ∃ κ', Ret P κ0 w0 d (if h : us.length = 1 then us[0] else .tuple us.toArray) κ' w := by
  unfold fin at hf
  split at hf
  · rename_i x
    obtain ⟨v, us', rfl, hv, hr⟩ := hl.cons_inv
    have := hr.nil_inv; subst this
    obtain ⟨vs, a1, a2, a3, a3', a4⟩ := finA_split hf hv
    simp only [List.length_singleton, dite_true, List.getElem_cons_zero]
    exact fin_ret hb0 h a2 a1 (a3'.trans a3) (fun κ' hc => .a (a4 κ' hc))
  · rename_i l' hne
    have hus : us.length ≠ 1 := by
      rw [← hl.1]; intro h1
      obtain ⟨x, hx⟩ := List.length_eq_one_iff.1 h1
      exact hne x hx
    cases hm : finC E [] 0 l with
    | none => rw [hm] at hf; cases hf
    | some m =>
      rw [hm] at hf
      simp only [Option.map_some, Option.some.injEq] at hf; subst hf
      obtain ⟨vs, b1, b2, b3, b4⟩ := finC_split hm hl
      rw [dif_neg hus]
      exact fin_ret hb0 h b2 b1 b3 (fun κ' hc => .tup (b4 κ' hc))

theorem evEnd_sound (hb0 : ∀ q, κ0.box q = none) {fn : Func} {x : Ex} {d : AV} (h : FR P κ0 κ w0 E a w) (he : evEnd P fn.results (some (x, E)) = some d) : bodyPost P fn (fun e w' => ∃ v κ', e = .returned v ∧ Ret P κ0 w0 d v κ' w') x.out a w := by
  have key : (resL P E fn.results.toList).bind (fin E) = some d → a.defers = [] ∧ ∃ v, (results fn a.tmps).run P w = .ok v w ∧ ∃ v' κ', Ending.returned v = .returned v' ∧ Ret P κ0 w0 d v' κ' w := by
    intro hk
    cases hr : resL P E fn.results.toList with
    | none => rw [hr] at hk; cases hk
    | some l =>
      rw [hr] at hk
      simp only [Option.bind_some] at hk
      obtain ⟨us, hus, hall⟩ := resL_sound h hr
      obtain ⟨κ', hret⟩ := fin_sound hb0 h hall hk
      exact ⟨h.defers, _, results_run hus, _, κ', rfl, hret⟩
  cases x with
  | normal => exact key he
  | ret => exact key he
  | exit id => simp [evEnd] at he

theorem entry_fr (hb0 : ∀ q, κ0.box q = none) (ht0 : ∀ q j, κ0.tok q j = none) {fn : Func} {args : List AV} {vs : List Value} (hw : WI P κ0 w0.heap.size w0) (hv : All2 (VR κ0) args vs) :
    FR P κ0 κ0 w0 (entry fn args) { tmps := vs.toArray ++ Array.replicate (fn.ntmps - vs.toArray.size) Go.undef, defers := [] } w0 where
  defers := rfl
  size := by simp [entry, hv.1]
  slots t x hx := by
    simp only [entry] at hx
    simp only [List.size_toArray, ← hv.1]
    by_cases ht : t < args.length
    · rw [List.getElem?_append_left ht] at hx
      obtain ⟨v, h1, h2⟩ := hv.get hx
      refine ⟨v, ?_, .val h2⟩
      rw [Array.getElem?_append_left (by simpa using (hv.1 ▸ ht))]
      simpa using h1
    · rw [List.getElem?_append_right (by omega)] at hx
      have hlt := (List.getElem?_eq_some_iff.1 hx).1
      simp only [List.length_replicate] at hlt
      rw [List.getElem?_replicate, if_pos hlt] at hx
      simp only [Option.some.injEq] at hx; subst hx
      refine ⟨Go.undef, ?_, .val (.a (.c (.c0 (.lit _))))⟩
      rw [Array.getElem?_append_right (by simp; rw [← hv.1]; omega)]
      simp only [List.size_toArray, ← hv.1]
      rw [Array.getElem?_replicate, if_pos hlt]
  live k j := by simp [entry, ht0]
  wi := hw
  bl := Below.refl _ _
  cs0 _ _ h := h
  cs1 _ _ h := .inl h
  cp0 _ _ h := h

theorem evBody_sound (hcall : ∀ f xs d, call f xs = some d → Pure P f xs d) {m : Nat} {f : FuncId} {fn : Func} (hf : P.funcs[f]? = some fn) {args : List AV} {d : AV} (h : evBody P call m fn args = some d) : Pure P f args d := by
  intro κ w vs htab hbx htk hwi hvs
  have hcall' : ∀ f xs d, call f xs = some d → PureB P w f xs d := fun f xs d hc κ' w' vs' hb => hcall f xs d hc κ' w' vs' (htab.below hb)
  unfold evBody at h
  split at h
  · rename_i c hc
    refine calls_of_wp hf hc ?_
    cases he : evCode P call m c (entry fn args) with
    | none => rw [he] at h; cases h
    | some r =>
      obtain ⟨x, E'⟩ := r
      rw [he] at h
      exact evCode_sound hcall' m c κ _ E' _ w x (entry_fr hbx htk hwi hvs) he (fun κ' a' w' hfr => evEnd_sound hbx hfr h)
  · cases h

theorem evN_sound {prims : FuncId → Option (List AV → Option AV)} (hp : ∀ f p, prims f = some p → ∀ xs d, p xs = some d → Pure P f xs d) : ∀ (n : Nat) (f : FuncId) (args : List AV) (d : AV), evN P prims n f args = some d → Pure P f args d := by
  intro n
  induction n with
  | zero => intro f args d h; cases h
  | succ n ih =>
    intro f args d h
    simp only [evN] at h
    split at h
    · rename_i p hpf; exact hp f p hpf args d h
    · split at h
      · rename_i fn hfn; exact evBody_sound (fun f xs d => ih f xs d) hfn h
      · cases h
end Go.Proofs.YtcddclkccpfdkaaDoor.EV
