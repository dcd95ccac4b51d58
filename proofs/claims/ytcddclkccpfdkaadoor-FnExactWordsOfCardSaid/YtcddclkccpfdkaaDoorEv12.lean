/- One operation. -/
import Derived.Test.YtcddclkccpfdkaaDoorEv11
import Derived.Laws.MakeOwn
set_option linter.unusedSimpArgs false
set_option linter.unusedVariables false
namespace Go.Proofs.YtcddclkccpfdkaaDoor.EV
open Go.RowKit
variable {P : Program} {κ0 κ : Ctx} {w w0 : World} {E : Env} {a : Act}

theorem enters_run {f : FuncId} (h : entersA P f = true) (args : Array Value) (w : World) : (callFunc f args).run P w = .ok (.enter f args) w := by
  unfold entersA at h
  cases hf : P.funcs[f]? with
  | none => simp [hf] at h
  | some fn =>
    simp only [hf, Bool.and_eq_true, Bool.not_eq_true'] at h
    have h2 : fn.body.isNone = false := by cases hb : fn.body <;> simp_all
    simp only [callFunc, Sem.run_bind, run_program, Result.andThen_ok, hf, h.1, Bool.false_eq_true, if_false, h2, Sem.run_pure]

theorem CR0.withBox {k g : Nat} {l : List AV} {vs : List Value} (h : All2 (CR0 κ) l vs) : All2 (CR0 (κ.withBox k g)) (l.map (clean1 k)) vs := h.map_left fun _ _ h => h.clean (Le.withBox κ k g)

theorem made_list (z : Array Value) (n s : Nat) (hz : z.size = s) : (madeCells z (n * s)).toList = (List.replicate n z.toList).flatten := by
  induction n with
  | zero => simp [madeCells]
  | succ n ih =>
    have h1 : (madeCells z ((n + 1) * s)).toList = (madeCells z (n * s)).toList ++ (List.range s).map (fun i => z[(n * s + i) % z.size]!) := by
      simp only [madeCells, Array.toList_map, Array.toList_range]
      rw [Nat.add_mul, Nat.one_mul, List.range_add, List.map_append, List.map_map]
      rfl
    rw [h1, ih, List.replicate_succ', List.flatten_append]
    congr 1
    simp only [List.flatten_cons, List.flatten_nil, List.append_nil]
    apply List.ext_getElem
    · simp [hz]
    · intro i h1 h2
      simp only [List.length_map, List.length_range] at h1
      have hm : (n * s + i) % s = i := by rw [Nat.mul_comm, Nat.mul_add_mod, Nat.mod_eq_of_lt h1]
      simp only [List.getElem_map, List.getElem_range, hz, hm, Array.getElem_toList]
      exact getElem!_pos z i (by omega)

theorem All2.reps {α β : Type} {R : α → β → Prop} {l : List α} {l' : List β} (h : All2 R l l') (n : Nat) : All2 R (List.replicate n l).flatten (List.replicate n l').flatten := by
  induction n with
  | zero => exact All2.nil
  | succ n ih => simp only [List.replicate_succ, List.flatten_cons]; exact h.append ih

theorem evStep_sound {call : FuncId → List AV → Option AV} (hcall : ∀ f xs d, call f xs = some d → PureB P w0 f xs d) (h : FR P κ0 κ w0 E a w) {o : Oper} {E' : Env} (hs : evStep P call E o = some E')
    {K : Act → World → Prop} {Q : Exit → Act → World → Prop} (hK : ∀ κ' a' w', FR P κ0 κ' w0 E' a' w' → K a' w') : o.wp P a w K Q := by
  have plainCase : ∀ {x : AV}, (∃ v, (execOp a.eval o).run P w = .ok (.value v) w ∧ VR κ x v) → E' = E.put o.dst x → o.wp P a w K Q := by
    rintro x ⟨v, hv, hx⟩ rfl
    unfold Oper.wp
    rw [hv]
    exact hK κ _ w (h.put o.dst hx)
  have restCase : (match evPure P E.get o.op with | some v => some (E.put o.dst v) | none => match evRead P E o.op with | some v => some (E.put o.dst v) | none => none) = some E' → o.wp P a w K Q := by
    intro hs
    cases hp : evPure P E.get o.op with
    | some x =>
      simp only [hp, Option.some.injEq] at hs
      exact plainCase (evPure_sound (fun y => h.get y) hp w) hs.symm
    | none =>
      cases hr : evRead P E o.op with
      | some x =>
        simp only [hp, hr, Option.some.injEq] at hs
        exact plainCase (evRead_sound h hr) hs.symm
      | none => simp [hp, hr] at hs
  obtain ⟨dst, op, type, pos, after, guard⟩ := o
  cases op with
  | alloc t =>
    simp only [evStep] at hs
    split at hs
    · rename_i k z hz
      split at hs
      · rename_i hone
        simp only [Option.some.injEq] at hs; subst hs
        obtain ⟨zv, hzv, _⟩ := zeroA_sound (P := P) (κ := κ) hz w
        obtain ⟨zv', hzv', hzr⟩ := zeroA_sound (P := P) (κ := κ.withBox k w.heap.size) hz w
        rw [hzv] at hzv'; injection hzv' with hzv'; subst hzv'
        have h1 : ∀ y ∈ zv.cells.toList, y.oneCell' = true := fun y hy => by
          obtain ⟨j, hj⟩ := List.getElem?_of_mem hy
          have hlt : j < z.length := by rw [hzr.1]; exact (List.getElem?_eq_some_iff.1 hj).1
          exact (hzr.2 j _ _ (List.getElem?_eq_getElem hlt) hj).one (by rw [List.all_eq_true] at hone; exact hone _ (List.getElem_mem hlt))
        have hb := h.newBox (k := k) (T := t) (x := .cell z) rfl hzr h1
        simp only [Array.toArray_toList] at hb
        unfold Oper.wp
        have hr : (execOp a.eval { dst := some k, op := Op.alloc t, type := type, pos := pos, after := after, guard := guard }).run P w = .ok (.value (.pointer (some ⟨w.heap.size, 0, none⟩))) (w.alloc (.cells zv.cells t)) := by
          simp only [execOp, Instr.alloc, Sem.run_bind, hzv, Result.andThen_ok, newVar_run, Sem.run_pure]
        rw [hr]
        exact hK _ _ _ hb
      · cases hs
    · cases hs
  | box t x =>
    simp only [evStep] at hs
    split at hs
    · rename_i k
      split at hs
      · rename_i hone
        simp only [Option.some.injEq] at hs; subst hs
        obtain ⟨vs, hvs, hc, h1⟩ := (h.get x).cells hone
        have hb := h.newBox (k := k) (T := t) (x := .cell ((E.get x).cells.map (clean1 k))) rfl (CR0.withBox (g := w.heap.size) hc) h1
        unfold Oper.wp
        have hr : (execOp a.eval { dst := some k, op := Op.box t x, type := type, pos := pos, after := after, guard := guard }).run P w = .ok (.value (.pointer (some ⟨w.heap.size, 0, none⟩))) (w.alloc (.cells vs.toArray t)) := by
          simp only [execOp, Instr.box, Sem.run_bind, newVar_run, Result.andThen_ok, Sem.run_pure, hvs]
        rw [hr]
        exact hK _ _ _ hb
      · cases hs
    · cases hs
  | store t ad x =>
    simp only [evStep] at hs
    split at hs
    · rename_i k off n hl hn
      split at hs
      · rename_i cs hc
        split at hs
        · rename_i hcond
          obtain ⟨hlen, hle, hone, rfl⟩ := hcond
          simp only [Option.some.injEq] at hs; subst hs
          have hg := h.get ad
          rw [hl] at hg
          obtain ⟨g, hq, hb⟩ := hg.loc_inv
          obtain ⟨g', T, vs, hb', hh, hcs, h1, x0, hsl, hx0⟩ := h.cellAt hc
          rw [hb] at hb'; cases hb'
          obtain ⟨us, hus, hcu, h1u⟩ := (h.get x).cells hone
          have hul : us.length = n := by rw [← hcu.1]; exact hlen
          have hvl : cs.length = vs.length := hcs.1
          have hf := h.setBox hb hh hsl hx0 (hcs.setCells (off := off) hcu) (fun y hy => by
            rw [List.append_assoc, List.mem_append, List.mem_append] at hy
            rcases hy with hy | hy | hy
            · exact h1 y (List.mem_of_mem_take hy)
            · exact h1u y hy
            · exact h1 y (List.mem_of_mem_drop hy))
          rw [show E.s.getD k .undef = x0 by rw [List.getD_eq_getElem?_getD, hsl]; rfl] at hK
          have hst := run_storeCells_at P g off T us 0 vs.toArray w hh (by simp; omega) h1u
          unfold Oper.wp
          have hr : (execOp a.eval { dst := none, op := Op.store t ad x, type := type, pos := pos, after := after, guard := guard }).run P w = .ok .skip (w.setRow g (vs.take off ++ us ++ vs.drop (off + us.length)).toArray) := by
            simp only [execOp, Instr.storeAt, hq, Instr.sureAddr, Sem.run_bind, Sem.run_pure, Result.andThen_ok, storeVar, sizeA_run hn, hus]
            rw [if_neg (by simp; exact hul)]
            simp only [List.toList_toArray, hst, Result.andThen_ok, Sem.run_pure, Nat.add_zero]
          rw [hr]
          exact hK _ _ _ hf
        · cases hs
      · cases hs
    · cases hs
  | buildSlice t len parts =>
    simp only [evStep] at hs
    split at hs
    · rename_i k e he
      split at hs
      · rename_i es n hch hn
        split at hs
        · rename_i hcond
          obtain ⟨hlen, hlit, hzs⟩ := hcond
          simp only [Option.some.injEq] at hs; subst hs
          obtain ⟨z, hz⟩ := Option.isSome_iff_exists.1 hzs
          obtain ⟨zv, hzv, _⟩ := zeroA_sound (P := P) (κ := κ) hz w
          let zc : Array Value := if len * n = 0 then #[] else zv.cells
          let Z : List Value := ((Array.range (len * n)).map (zc[· % zc.size]!)).toList
          have hZl : Z.length = (0 + es.length) * n := by simp [Z, hlen]
          obtain ⟨vs, hfill, hpr, hk⟩ := chunk_fill (κ := κ) hn (parts.toList.map fun p => (p.1, E.get p.2)) (parts.toList.map fun p => (p.1, a.eval p.2)) 0 es Z (All2.on (fun p => ⟨rfl, h.get p.2⟩) _) hch hZl
          simp only [Nat.zero_mul, List.take_zero, List.nil_append] at hfill
          have hf := h.newRow (d := k) (T := e) hk hpr
          unfold Oper.wp
          have hr : (execOp a.eval { dst := some k, op := Op.buildSlice t len parts, type := type, pos := pos, after := after, guard := guard }).run P w = .ok (.value (.slice (some ⟨w.heap.size, 0, none⟩) es.length es.length)) (w.alloc (.cells vs.toArray e)) := by
            have hpa : (parts.map fun x => (x.1, a.eval x.2)).toList = parts.toList.map fun p => (p.1, a.eval p.2) := by simp
            have hlit' : ¬ (len * n > 2 ^ 24) := by unfold LIT at hlit; omega
            have hfill' : Instr.fill (fun i => some (i * n, n)) ((Array.range (len * n)).map (zc[· % zc.size]!)) (parts.map fun x => (x.1, a.eval x.2)).toList = some vs.toArray := by
              rw [hpa]; simpa only [Z, Array.toArray_toList] using hfill
            simp only [execOp, Instr.buildSlice, Sem.run_bind, underlying_run (elemA_spec he), Result.andThen_ok, sizeA_run hn, Sem.run_ite, if_neg hlit', Sem.run_pure]
            by_cases h0 : len * n = 0
            · have hzc : zc = #[] := if_pos h0
              rw [hzc] at hfill'
              rw [if_pos h0]
              simp only [hfill', newRow, Sem.run_bind, run_newObj, Sem.run_pure, Result.andThen_ok, hlen]
              rfl
            · have hzc : zc = zv.cells := if_neg h0
              rw [hzc] at hfill'
              rw [if_neg h0]
              simp only [hzv, hfill', newRow, Sem.run_bind, run_newObj, Sem.run_pure, Result.andThen_ok, hlen]
              rfl
          rw [hr]
          exact hK _ _ _ hf
        · cases hs
      · cases hs
    · cases hs
  | makeSlice t l c =>
    simp only [evStep] at hs
    split at hs
    · rename_i k e kl n kc n' he hgl hgc
      split at hs
      · rename_i z s by_ zl hz hsz hby hzl
        split at hs
        · rename_i hcond
          obtain ⟨h0, rfl, hone, hzs, hzls, hlim, hmax⟩ := hcond
          simp only [Option.some.injEq] at hs; subst hs
          obtain ⟨zv', hzv', hzr⟩ := zeroA_sound (P := P) (κ := κ.withBox k w.heap.size) hz w
          unfold zlenA at hzl
          unfold bytesA at hby
          unfold sizeA at hsz
          cases hi : P.info? e with
          | none => simp [hi] at hzl
          | some i =>
            cases hiz : i.zero with
            | none => simp [hi, hiz] at hzl
            | some zv =>
              have hq : zv' = zv := by simp [zeroValue, typeInfo, hi, hiz] at hzv'; exact hzv'.symm
              subst hq
              simp only [hi, Option.map_some, Option.some.injEq, Option.bind_some, hiz] at hzl hby hsz
              have hl := h.get l
              rw [hgl] at hl
              have hc := h.get c
              rw [hgc] at hc
              have hn : ((n'.toNat : Nat) : Int) = n' := Int.toNat_of_nonneg h0
              have hr1 := run_make (P := P) w t e i zv' (elemA_spec he) hi hiz kl kc n' n' h0 (Int.le_refl _) (by
                rw [hby]
                unfold LIM at hlim
                have h2 : ((n'.toNat * by_ : Nat) : Int) ≤ 140737488355328 := by generalize n'.toNat * by_ = q at hlim; omega
                rw [Int.natCast_mul, hn, Int.mul_comm] at h2
                omega) (by unfold maxLen at hmax; omega)
              have hcl : (madeCells zv'.cells (n'.toNat * i.size)).toList = (List.replicate n'.toNat zv'.cells.toList).flatten := made_list _ _ _ (by rw [hzl, hsz, hzls])
              have h1 : ∀ y ∈ (List.replicate n'.toNat zv'.cells.toList).flatten, y.oneCell' = true := fun y hy => by
                obtain ⟨l', hl', hy⟩ := List.mem_flatten.1 hy
                have := List.eq_of_mem_replicate hl'; subst this
                obtain ⟨j, hj⟩ := List.getElem?_of_mem hy
                have hlt : j < z.length := by rw [hzr.1]; exact (List.getElem?_eq_some_iff.1 hj).1
                exact (hzr.2 j _ _ (List.getElem?_eq_getElem hlt) hj).one (by rw [List.all_eq_true] at hone; exact hone _ (List.getElem_mem hlt))
              have hb := h.newBox (k := k) (T := e) (x := .row n'.toNat s (List.replicate n'.toNat z).flatten) rfl (hzr.reps n'.toNat) h1
              rw [← hcl, Array.toArray_toList] at hb
              unfold Oper.wp
              have hr : (execOp a.eval { dst := some k, op := Op.makeSlice t l c, type := type, pos := pos, after := after, guard := guard }).run P w = .ok (.value (.slice (some ⟨w.heap.size, 0, none⟩) n'.toNat n'.toNat)) (w.alloc (.cells (madeCells zv'.cells (n'.toNat * i.size)) e)) := by
                have e1 := hl.lit_inv
                have e2 := hc.lit_inv
                simp only [execOp]
                rw [e1, e2, Sem.run_bind, hr1]
                rfl
              rw [hr]
              exact hK _ _ _ hb
        · cases hs
      · cases hs
    · cases hs
  | call c =>
    obtain ⟨callee, args, argTypes⟩ := c
    simp only [evStep, callStep] at hs
    split at hs
    · -- len
      cases hl : lenA P E.get ⟨.builtin .len, args, argTypes⟩ with
      | none => simp [hl] at hs
      | some x =>
        simp only [hl, Option.map_some, Option.some.injEq] at hs
        obtain ⟨v, hv, hr⟩ := lenA_sound (fun y => h.get y) hl type w
        refine plainCase ⟨v, ?_, hr⟩ hs.symm
        simp only [execOp, resolve, Sem.run_bind, Sem.run_pure, Result.andThen_ok, invoke, builtin]
        simp only at hv
        simp [hv]
    · -- append
      split at hs
      · rename_i x y t t' d hx ht
        split at hs
        · rename_i htt; subst htt
          have hx' : args = #[x, y] := by apply Array.ext'; simpa using hx
          have ht' : argTypes = #[t', t'] := by apply Array.ext'; simpa using ht
          subst hx'; subst ht'
          obtain ⟨v', w', κ', hr, hf⟩ := append_sound h (h.get x) (h.get y) hs type
          unfold Oper.wp
          have hr' : (execOp a.eval { dst := some d, op := Op.call ⟨.builtin .append, #[x, y], #[t', t']⟩, type := type, pos := pos, after := after, guard := guard }).run P w = .ok (.value v') w' := by
            simp only [execOp, resolve, invoke, builtin, Sem.run_bind, Sem.run_pure, Result.andThen_ok, List.map_toArray, List.map_cons, List.map_nil, hr]
          rw [hr']
          exact hK _ _ _ hf
        · cases hs
      · cases hs
    · -- a function
      rename_i f
      split at hs
      · rename_i g caps hf
        split at hs
        · rename_i xs cs hxs hcs
          split at hs
          · rename_i hen
            cases hd : call g (xs ++ cs) with
            | none => simp [hd] at hs
            | some x =>
              simp only [hd, Option.map_some, Option.some.injEq] at hs; subst hs
              have hg := h.get f
              rw [hf] at hg
              obtain ⟨us, hq, hus⟩ := hg.fn_inv
              have ha := (snaps_sound h (All2.on (fun y => h.get y) args.toList) hxs).append ((snapL_sound h hus hcs).imp fun _ _ hc => VR.c0 hc)
              have hp := hcall g _ x hd (κ.shown w) w _ h.bl (fun _ => rfl) (fun _ _ => rfl) (shown_wi h.wi _) ha
              unfold Oper.wp
              have hr : (execOp a.eval { dst := dst, op := Op.call ⟨.value f, args, argTypes⟩, type := type, pos := pos, after := after, guard := guard }).run P w = .ok (.enter g (args.toList.map a.eval ++ us).toArray) w := by
                simp only [execOp, resolve, hq, Deferred.ofValue, Sem.run_bind, Sem.run_pure, Result.andThen_ok, invoke]
                rw [show (#[] ++ args.map a.eval ++ us.toArray) = (args.toList.map a.eval ++ us).toArray by apply Array.ext'; simp]
                exact enters_run hen _ w
              rw [hr]
              refine hp.mono ?_
              rintro e w' ⟨v, κ', rfl, hret⟩
              obtain ⟨κ2, hfr⟩ := h.returned (d := dst) hret
              exact hK κ2 _ w' hfr
          · cases hs
        · cases hs
      · cases hs
    · cases hs
  | _ => exact restCase hs
end Go.Proofs.YtcddclkccpfdkaaDoor.EV
