/- Regions whose order is drawn. -/
import Derived.Test.YtcddclkccpfdkaaDoorEv13
set_option linter.unusedSimpArgs false
set_option linter.unusedVariables false
namespace Go.Proofs.YtcddclkccpfdkaaDoor.EV
open Go.RowKit
variable {P : Program} {κ0 κ : Ctx} {w w0 : World} {E : Env} {a : Act} {call : FuncId → List AV → Option AV} {ops : Array Oper}

theorem evPure_congr {g g' : Operand → AV} (op : Op) (h : ∀ x ∈ op.operands, g x = g' x) : evPure P g op = evPure P g' op := by
  have parts : ∀ ps : Array (Nat × Operand), (∀ x ∈ (ps.toList.map (·.2)).toArray, g x = g' x) → (ps.toList.map fun p => (p.1, g p.2)) = ps.toList.map fun p => (p.1, g' p.2) := by
    intro ps hp
    refine List.map_congr_left fun p hp' => ?_
    rw [hp p.2 (by simpa using ⟨p.1, by simpa using hp'⟩)]
  cases op with
  | move x => simp only [evPure]; rw [h x (by simp [Op.operands])]
  | assign x => simp only [evPure]; rw [h x (by simp [Op.operands])]
  | pick c a b => simp only [evPure]; rw [h c (by simp [Op.operands]), h a (by simp [Op.operands]), h b (by simp [Op.operands])]
  | build t ps => simp only [evPure]; rw [parts ps (by simpa [Op.operands] using h)]
  | nilCheck x => simp only [evPure]; rw [h x (by simp [Op.operands])]
  | binOp op t x y t' => simp only [evPure]; rw [h x (by simp [Op.operands]), h y (by simp [Op.operands])]
  | unOp op t x => simp only [evPure]; rw [h x (by simp [Op.operands])]
  | makeFunc c first caps =>
    cases c with
    | func f =>
      simp only [evPure]
      have : caps.toList.map g = caps.toList.map g' := List.map_congr_left fun p hp => h p (by simp [Op.operands]; exact .inr (by simpa using hp))
      rw [this]
    | _ => rfl
  | slice t x lo hi mx =>
    simp only [evPure]
    rw [h x (by simp [Op.operands])]
    have ho : ∀ o : Option Operand, (∀ y, o = some y → g y = g' y) → o.map g = o.map g' := by intro o ho; cases o with | none => rfl | some y => simp [ho y rfl]
    rw [ho lo (fun y hy => h y (by simp [Op.operands, hy])), ho hi (fun y hy => h y (by simp [Op.operands, hy])), ho mx (fun y hy => h y (by simp [Op.operands, hy]))]
  | fieldAddr t x f => simp only [evPure]; rw [h x (by simp [Op.operands])]
  | field t x f => simp only [evPure]; rw [h x (by simp [Op.operands])]
  | indexAddr t x i => simp only [evPure]; rw [h x (by simp [Op.operands]), h i (by simp [Op.operands])]
  | index t x i => simp only [evPure]; rw [h x (by simp [Op.operands]), h i (by simp [Op.operands])]
  | extract t i => simp only [evPure]; rw [h t (by simp [Op.operands])]
  | _ => rfl

theorem evRead_congr {E E' : Env} (op : Op) (h : ∀ x ∈ op.operands, E.get x = E'.get x) (hc : E.cellAt = E'.cellAt) : evRead P E op = evRead P E' op := by
  cases op with
  | convert src dst x => simp only [evRead]; rw [h x (by simp [Op.operands])]
  | load t ad => simp only [evRead]; rw [h ad (by simp [Op.operands]), hc]
  | _ => rfl
theorem snap1_congr {E E' : Env} (hc : E.cellAt = E'.cellAt) (x : AV) : snap1 E x = snap1 E' x := by cases x <;> simp only [snap1, hc]
theorem snapL_congr {E E' : Env} (hc : E.cellAt = E'.cellAt) (l : List AV) : snapL E l = snapL E' l := by
  induction l with
  | nil => rfl
  | cons x l ih => simp only [snapL, ih, snap1_congr hc]
theorem snap_congr {E E' : Env} (hc : E.cellAt = E'.cellAt) (x : AV) : snap E x = snap E' x := by cases x <;> simp only [snap, snapL_congr hc, snap1_congr hc]
theorem snaps_congr {E E' : Env} (hc : E.cellAt = E'.cellAt) (l : List AV) : snaps E l = snaps E' l := by
  induction l with
  | nil => rfl
  | cons x l ih => simp only [snaps, ih, snap_congr hc]

theorem rdOp_congr {E E' : Env} (o : Oper) (h : ∀ x ∈ o.op.operands, E.get x = E'.get x) (hc : E.cellAt = E'.cellAt) : rdOp P call E o = rdOp P call E' o := by
  obtain ⟨dst, op, type, pos, after, guard⟩ := o
  have rest : ∀ op : Op, (∀ x ∈ op.operands, E.get x = E'.get x) → (match evPure P E.get op with | some v => some v | none => evRead P E op) = (match evPure P E'.get op with | some v => some v | none => evRead P E' op) := fun op h => by
    rw [evPure_congr op h, evRead_congr op h hc]
  cases op with
  | buildSlice t len ps =>
    simp only [rdOp]
    have : (ps.toList.map fun p => (p.1, E.get p.2)) = ps.toList.map fun p => (p.1, E'.get p.2) := by
      refine List.map_congr_left fun p hp' => ?_
      rw [h p.2 (by simp [Op.operands]; exact ⟨p.1, by simpa using hp'⟩)]
    rw [this]
  | call c =>
    obtain ⟨callee, args, argTypes⟩ := c
    have hargs : ∀ x ∈ args, E.get x = E'.get x := fun x hx => h x (by
      simp only [Op.operands, Call.operands]
      cases callee <;> simp [hx])
    cases callee with
    | builtin b =>
      cases b with
      | len =>
        simp only [rdOp, lenA]
        generalize hl : args.toList = l
        cases l with
        | nil => rfl
        | cons x l =>
          have hx : E.get x = E'.get x := hargs x (by rw [← Array.mem_toList_iff, hl]; simp)
          cases l with
          | nil =>
            cases argTypes.toList with
            | nil => rfl
            | cons t ts =>
              cases ts with
              | nil => simp only [hx]
              | cons _ _ => rfl
          | cons y l => rfl
      | _ => rfl
    | value f =>
      simp only [rdOp]
      have hf : E.get f = E'.get f := h f (by simp [Op.operands, Call.operands])
      have hm : args.toList.map E.get = args.toList.map E'.get := List.map_congr_left fun x hx => hargs x (by simpa using hx)
      rw [hf, hm]
      cases E'.get f <;> simp only [snaps_congr hc, snapL_congr hc]
    | _ => rfl
  | alloc t => rfl
  | box t x => rfl
  | store t x y => rfl
  | makeSlice t l c => rfl
  | _ => exact rest _ h

theorem get_put {d : Option Nat} {v : AV} {x : Operand} (h : ∀ k, d = some k → x ≠ .tmp k) : (E.put d v).get x = E.get x := by
  cases d with
  | none => rfl
  | some k =>
    cases x with
    | tmp t =>
      have hne : k ≠ t := fun e => h k rfl (by rw [e])
      simp only [Env.get, Env.put, List.getD_eq_getElem?_getD, List.getElem?_set_ne hne]
    | _ => rfl
theorem cellAt_eq (E : Env) (k : Nat) : E.cellAt k = cellOf (E.s.getD k .undef) := rfl
theorem notCell_at {x : AV} (h : notCell x = true) : cellOf x = none := by
  cases x with
  | cell cs => cases h
  | row n s cs => cases h
  | _ => rfl
theorem cellAt_put {d : Option Nat} {v : AV} (h : freeA E d v = true) : (E.put d v).cellAt = E.cellAt := by
  funext k
  cases d with
  | none => rfl
  | some q =>
    simp only [freeA, Bool.and_eq_true] at h
    rw [cellAt_eq, cellAt_eq]
    by_cases hq : q = k
    · subst hq
      rw [notCell_at h.1]
      simp only [Env.put, List.getD_eq_getElem?_getD]
      by_cases hl : q < E.s.length
      · rw [List.getElem?_set_self hl]; exact notCell_at h.2
      · rw [List.getElem?_set, if_pos rfl, if_neg hl]; rfl
    · simp only [Env.put, List.getD_eq_getElem?_getD, List.getElem?_set_ne hq]
theorem put_comm {d d' : Option Nat} {v v' : AV} (h : ∀ k, d = some k → d' ≠ some k) : (E.put d v).put d' v' = (E.put d' v').put d v := by
  cases d with
  | none => rfl
  | some k => cases d' with
    | none => rfl
    | some k' =>
      have : k ≠ k' := fun e => h k rfl (by rw [e])
      simp only [Env.put, List.set_comm _ _ this]
theorem freeA_put {d d' : Option Nat} {v v' : AV} (h : ∀ k, d = some k → d' ≠ some k) : freeA (E.put d v) d' v' = freeA E d' v' := by
  cases d with
  | none => rfl
  | some k => cases d' with
    | none => rfl
    | some k' =>
      have : k ≠ k' := fun e => h k rfl (by rw [e])
      simp only [freeA, Env.put, List.getD_eq_getElem?_getD, List.getElem?_set_ne this]
theorem wantA_put {o : Oper} {d : Option Nat} {v : AV} (h : ∀ k, d = some k → k ∉ o.looksAt ops) : wantA ops (E.put d v) o = wantA ops E o := by
  cases d with
  | none => rfl
  | some k =>
    unfold wantA
    cases hg : o.guard with
    | none => rfl
    | some gw =>
      obtain ⟨g, want⟩ := gw
      cases ht : (ops[g]?).bind (·.dst) with
      | none => simp only [ht]
      | some t =>
        have hne : k ≠ t := fun e => h k rfl (by subst e; simp [Oper.looksAt, hg, ht])
        simp only [ht, Env.tr, Env.put, List.getElem?_set_ne hne]

def rdG (P : Program) (call : FuncId → List AV → Option AV) (ops : Array Oper) (E : Env) (o : Oper) : Option AV :=
  match wantA ops E o with
  | none => none
  | some true => rdOp P call E o
  | some false => some .undef
theorem stepD_eq {o : Oper} (h : loudA o = false) : stepD P call ops E o = (rdG P call ops E o).bind fun v => if freeA E o.dst v then some (E.put o.dst v) else none := by
  unfold stepD rdG
  cases hw : wantA ops E o with
  | none => rfl
  | some t =>
    cases t with
    | true =>
      simp only [h, Bool.false_eq_true, if_false]
      cases rdOp P call E o <;> rfl
    | false => rfl
theorem rdG_put {o : Oper} {d : Option Nat} {v : AV} (h : ∀ k, d = some k → k ∉ o.looksAt ops) (hf : freeA E d v = true) : rdG P call ops (E.put d v) o = rdG P call ops E o := by
  unfold rdG
  rw [wantA_put h, rdOp_congr o (fun x hx => get_put fun k hk he => h k hk (by
    subst he
    exact List.mem_append_left _ (List.mem_filterMap.2 ⟨.tmp k, by simpa using hx, rfl⟩))) (cellAt_put hf)]

theorem commute {oi oj : Oper} (hap : apartA ops oi oj = true) {E1 E2 : Env} (h1 : stepD P call ops E oi = some E1) (h2 : stepD P call ops E1 oj = some E2) : ∃ E1', stepD P call ops E oj = some E1' ∧ stepD P call ops E1' oi = some E2 := by
  simp only [apartA, Bool.and_eq_true, Bool.not_eq_true'] at hap
  obtain ⟨⟨hi, hj⟩, hap⟩ := hap
  obtain ⟨a1, a2, a3⟩ := Oper.apart_spec hap
  rw [stepD_eq hi] at h1
  rw [stepD_eq hj] at h2
  cases hv : rdG P call ops E oi with
  | none => rw [hv] at h1; cases h1
  | some v =>
    rw [hv] at h1
    simp only [Option.bind_some] at h1
    split at h1
    · rename_i hf
      simp only [Option.some.injEq] at h1; subst h1
      rw [rdG_put a1 hf] at h2
      cases hu : rdG P call ops E oj with
      | none => rw [hu] at h2; cases h2
      | some u =>
        rw [hu] at h2
        simp only [Option.bind_some] at h2
        have a2' : ∀ k, oj.dst = some k → oi.dst ≠ some k := fun k hk he => a2 k he hk
        rw [freeA_put a2] at h2
        split at h2
        · rename_i hf'
          simp only [Option.some.injEq] at h2; subst h2
          refine ⟨E.put oj.dst u, by rw [stepD_eq hj, hu]; simp only [Option.bind_some, if_pos hf'], ?_⟩
          rw [stepD_eq hi, rdG_put a3 hf', hv]
          simp only [Option.bind_some]
          rw [freeA_put a2', if_pos hf, put_comm a2]
        · cases h2
    · cases h1

/-! all orders, on this side -/
def stA (P : Program) (call : FuncId → List AV → Option AV) (ops : Array Oper) (i : Nat) (K : Env → Prop) (E : Env) : Prop :=
  match ops[i]? with
  | none => K E
  | some o => ∃ E1, stepD P call ops E o = some E1 ∧ K E1
def AnyA (P : Program) (call : FuncId → List AV → Option AV) (ops : Array Oper) (K : Env → Prop) : Nat → Array Bool → Env → Prop
  | 0, listed, E => Region.ready .any ops listed = [] ∧ K E
  | fuel + 1, listed, E => (Region.ready .any ops listed = [] → K E) ∧ ∀ i ∈ Region.ready .any ops listed, stA P call ops i (AnyA P call ops K fuel (listed.setIfInBounds i true)) E

theorem AnyA_first {K : Env → Prop} {i : Nat} {oi : Oper} (hi : ops[i]? = some oi) : ∀ (fuel : Nat) (listed : Array Bool) (E E1 : Env),
    (∀ j oj, ops[j]? = some oj → j ≠ i → listed.getD j true = false → (∀ e ∈ oj.after, Region.binds .any e = true → e.on ≠ i) → apartA ops oi oj = true) →
    i ∈ Region.ready .any ops listed → stepD P call ops E oi = some E1 → AnyA P call ops K fuel (listed.setIfInBounds i true) E1 → AnyA P call ops K (fuel + 1) listed E := by
  intro fuel
  induction fuel with
  | zero =>
    intro listed E E1 _ hr hs H
    refine ⟨fun h => (by rw [h] at hr; cases hr), fun j hj => ?_⟩
    by_cases hji : j = i
    · subst hji; unfold stA; simp only [hi]; exact ⟨E1, hs, H⟩
    · have := ready_mono hj hji
      rw [H.1] at this
      cases this
  | succ fuel ih =>
    intro listed E E1 hfree hr hs H
    refine ⟨fun h => (by rw [h] at hr; cases hr), fun j hj => ?_⟩
    by_cases hji : j = i
    · subst hji; unfold stA; simp only [hi]; exact ⟨E1, hs, H⟩
    · have h1 := H.2 j (ready_mono hj hji)
      obtain ⟨hjun, oj, hoj, hall⟩ := mem_ready.1 hj
      have hnot : ∀ e ∈ oj.after, Region.binds .any e = true → e.on ≠ i := fun e he hb heq => by
        have h1 := hall e he hb
        have h0 := (mem_ready.1 hr).1
        rw [heq] at h1
        rcases Nat.lt_or_ge i listed.size with h' | h'
        · simp [h'] at h0 h1; rw [h0] at h1; cases h1
        · simp [Array.getElem?_eq_none h'] at h1
      unfold stA at h1 ⊢
      simp only [hoj] at h1 ⊢
      obtain ⟨E2, hs2, h3⟩ := h1
      obtain ⟨E1', hs1', hs2'⟩ := commute (hfree j oj hoj hji hjun hnot) hs hs2
      have hfree' : ∀ k ok, ops[k]? = some ok → k ≠ i → (listed.setIfInBounds j true).getD k true = false →
          (∀ e ∈ ok.after, Region.binds .any e = true → e.on ≠ i) → apartA ops oi ok = true := fun k ok hk hki hun hno => by
        refine hfree k ok hk hki ?_ hno
        by_cases hjk : j = k
        · subst hjk; exact hjun
        · rw [getD_set_ne true hjk] at hun; exact hun
      refine ⟨E1', hs1', ih (listed.setIfInBounds j true) E1' E2 hfree' (ready_mono hr (Ne.symm hji)) hs2' ?_⟩
      rw [Array.setIfInBounds_comm _ _ hji]
      exact h3

theorem freeOps_spec {i : Nat} {oi : Oper} {listed : Array Bool} (hi : ops[i]? = some oi) (h : freeOps ops listed i = true) (j : Nat) (oj : Oper)
    (hj : ops[j]? = some oj) (hne : j ≠ i) (hun : listed.getD j true = false) (hno : ∀ e ∈ oj.after, Region.binds .any e = true → e.on ≠ i) : apartA ops oi oj = true := by
  simp only [freeOps, hi, List.all_eq_true, List.mem_range] at h
  have h1 := h j (Array.getElem?_eq_some_iff.1 hj).1
  simp only [hj, Bool.or_eq_true, beq_iff_eq, hne, false_or, hun, Bool.false_eq_true] at h1
  rcases h1 with h1 | h1
  · obtain ⟨e, he, hb⟩ := Array.any_eq_true'.1 h1
    simp only [Bool.and_eq_true, beq_iff_eq] at hb
    exact absurd hb.2 (hno e he hb.1)
  · exact h1

theorem AnyA_lex {K : Env → Prop} : ∀ (l : List Oper) (k : Nat) (listed : Array Bool) (E E' : Env), (∀ j, l[j]? = ops[k + j]?) →
    lexA ops l.length k listed = true → evOpsD P call ops l E = some E' → K E' → AnyA P call ops K l.length listed E
  | [], _, _, _, _, _, hB, h, hK => ⟨by simpa [lexA] using hB, by simp only [evOpsD, Option.some.injEq] at h; subst h; exact hK⟩
  | o :: l, k, listed, E, E', hl, hB, h, hK => by
    have h0 : ops[k]? = some o := by simpa using (hl 0).symm
    simp only [List.length_cons, lexA, Bool.and_eq_true] at hB
    obtain ⟨⟨hr, hf⟩, hB'⟩ := hB
    simp only [evOpsD] at h
    cases hs : stepD P call ops E o with
    | none => rw [hs] at h; cases h
    | some E1 =>
      rw [hs] at h
      exact AnyA_first h0 l.length listed E E1 (freeOps_spec h0 hf) (by simpa using hr) hs
        (AnyA_lex l (k + 1) _ E1 E' (fun j => by have := hl (j + 1); simpa [Nat.add_assoc, Nat.add_comm 1 j] using this) hB' h hK)

/-! the machine -/
theorem weak_sound {κ κ' : Ctx} (hbx : ∀ q, κ'.box q = none) (hcp : ∀ a x, ¬ κ'.Cp a x) {x : AV} {v : Value} (h : VR κ' x v) : VR { κ with Cs := κ'.Cs } (weak x) v := by
  have h1 : ∀ {x : AV} {v : Value}, CR0 κ' x v → CR0 { κ with Cs := κ'.Cs } (weak1 x) v := by
    intro x v h
    cases h with
    | lit v => exact .lit v
    | sl hsl ho =>
      rename_i o es A c
      cases o with
      | sh => exact .sl hsl trivial
      | ex => exact .sl hsl ho
      | ow q j e => exact .sl hsl trivial
    | loc hb => rw [hbx] at hb; cases hb
    | mrow hb => rw [hbx] at hb; cases hb
    | eptr hcs hc => exact .eptr hcs (fun j y hy => (hc j y hy).elim (fun hp => absurd hp (hcp _ _)) .inr)
    | junk v => exact .junk v
  have hA : ∀ {x : AV} {v : Value}, AR κ' x v → AR { κ with Cs := κ'.Cs } (weakA x) v := by
    intro x v h
    cases h with
    | c h => cases h with
      | c0 h =>
        have h2 := h1 h
        cases h <;> exact .c (.c0 h2)
      | fn h => exact .c (.fn (h.map_left fun _ _ h => h1 h))
    | agg h => exact .agg (h.map_left fun _ _ h => h1 h)
  cases h with
  | a h =>
    have h2 := hA h
    cases h with
    | c h => cases h with
      | c0 h => cases h <;> exact .a h2
      | fn h => exact .a h2
    | agg h => exact .a h2
  | tup h => exact .tup (h.map_left fun _ _ h => hA h)

theorem FR.heard (h : FR P κ0 κ w0 E a w) {x : AV} {v : Value} {κ' : Ctx} {w' : World} (hr : Ret P (κ.shown w) w x v κ' w') : FR P κ0 { κ with Cs := κ'.Cs } w0 E a w' := by
  have hold : ∀ q, q < w.heap.size → w'.heap[q]? = w.heap[q]? := hr.bl.block
  have hcs : ∀ ad y, κ'.Cs ad y → κ.Cs ad y ∨ w.heap.size ≤ ad.block := hr.cs1
  have hsz := hr.bl.size
  have hbl : Below w0.heap.size w0 w' := h.bl.trans (hr.bl.mono h.bl.size)
  have hbase := h.bl.size
  refine ⟨h.defers, h.size, fun t y hy => ?_, h.live, ⟨hr.wi.cs, ?_, ?_, h.wi.boxi, ?_, ?_, h.wi.toki, h.wi.tokb⟩, hbl, fun ad y hc => hr.cs0 ad y (h.cs0 ad y hc), fun ad y hc => (hcs ad y hc).elim (h.cs1 ad y) (fun hx => .inr (by omega)), h.cp0⟩
  · obtain ⟨u, hu, hs⟩ := h.slots t y hy
    have hl : Le κ { κ with Cs := κ'.Cs } none := { cs := hr.cs0, cp := fun _ _ hc => hc, box := fun _ _ _ hb => hb, tok := fun q j τ _ ht => ⟨τ, ht, .inl rfl⟩ }
    exact ⟨u, hu, hs.mono hl (fun g _ hg => hold g hg)⟩
  · intro ad y hc
    have := h.wi.cp ad y hc
    rw [World.cell?_of_block (hold _ (cell_lt this))]; exact this
  · intro q g hq
    obtain ⟨h1, h2, h3⟩ := h.wi.box q g hq
    refine ⟨h1, by omega, fun ad y had => ⟨fun hc => ?_, (h3 ad y had).2⟩⟩
    rcases hcs ad y hc with hc | hc
    · exact (h3 ad y had).1 hc
    · omega
  · intro q j τ ht
    obtain ⟨h1, h2, h3, h4, hz, cur, h5, h6⟩ := h.wi.tok q j τ ht
    exact ⟨h1, h2, h3, h4, hz, cur, by rw [hold _ (tok_lt h5)]; exact h5, h6⟩
  · intro q j τ ht ad y had
    obtain ⟨_, _, _, _, _, cur, h5, _⟩ := h.wi.tok q j τ ht
    have := tok_lt h5
    refine ⟨fun hc => ?_, (h.wi.tokc q j τ ht ad y had).2⟩
    rcases hcs ad y hc with hc | hc
    · exact (h.wi.tokc q j τ ht ad y had).1 hc
    · omega

theorem rdOp_sound (hcall : ∀ f xs d, call f xs = some d → PureB P w0 f xs d) (h : FR P κ0 κ w0 E a w) {o : Oper} {v : AV} (hs : rdOp P call E o = some v)
    {K : Act → World → Prop} {Q : Exit → Act → World → Prop} (hK : ∀ κ' a' w', FR P κ0 κ' w0 (E.put o.dst v) a' w' → K a' w') : o.wp P a w K Q := by
  have other : evStep P call E o = some (E.put o.dst v) → o.wp P a w K Q := fun he => evStep_sound hcall h he hK
  obtain ⟨dst, op, type, pos, after, guard⟩ := o
  have restCase : (match evPure P E.get op with | some v => some v | none => evRead P E op) = some v → (match evPure P E.get op with | some v => some (E.put dst v) | none => match evRead P E op with | some v => some (E.put dst v) | none => none) = some (E.put dst v) := by
    intro hs
    cases hp : evPure P E.get op with
    | some x => simp only [hp, Option.some.injEq] at hs; subst hs; rfl
    | none => simp only [hp] at hs; simp only [hs]
  cases op with
  | alloc t => simp [rdOp] at hs
  | box t x => simp [rdOp] at hs
  | store t ad x => simp [rdOp] at hs
  | makeSlice t l c => simp [rdOp] at hs
  | buildSlice t len parts =>
    refine other ?_
    simp only [rdOp] at hs
    simp only [evStep]
    split at hs
    · rename_i k e he
      split at hs
      · rename_i es n hch hn
        split at hs
        · rename_i hc
          simp only [Option.some.injEq] at hs; subst hs
          rw [if_pos hc]
        · cases hs
      · cases hs
    · cases hs
  | call c =>
    obtain ⟨callee, args, argTypes⟩ := c
    cases callee with
    | builtin b =>
      cases b with
      | len =>
        refine other ?_
        simp only [rdOp] at hs
        simp only [evStep, callStep, hs, Option.map_some]
      | _ => simp [rdOp] at hs
    | value f =>
      simp only [rdOp] at hs
      split at hs
      · rename_i g caps hf
        split at hs
        · rename_i xs cs hxs hcs
          split at hs
          · rename_i hen
            cases hd : call g (xs ++ cs) with
            | none => simp [hd] at hs
            | some x =>
              simp only [hd, Option.map_some, Option.some.injEq] at hs; subst hs
              have hg := h.get f
              rw [hf] at hg
              obtain ⟨us, hq, hus⟩ := hg.fn_inv
              have ha := (snaps_sound h (All2.on (fun y => h.get y) args.toList) hxs).append ((snapL_sound h hus hcs).imp fun _ _ hc => VR.c0 hc)
              have hp := hcall g _ x hd (κ.shown w) w _ h.bl (fun _ => rfl) (fun _ _ => rfl) (shown_wi h.wi _) ha
              unfold Oper.wp
              have hr : (execOp a.eval { dst := dst, op := Op.call ⟨.value f, args, argTypes⟩, type := type, pos := pos, after := after, guard := guard }).run P w = .ok (.enter g (args.toList.map a.eval ++ us).toArray) w := by
                simp only [execOp, resolve, hq, Deferred.ofValue, Sem.run_bind, Sem.run_pure, Result.andThen_ok, invoke]
                rw [show (#[] ++ args.map a.eval ++ us.toArray) = (args.toList.map a.eval ++ us).toArray by apply Array.ext'; simp]
                exact enters_run hen _ w
              rw [hr]
              refine hp.mono ?_
              rintro e w' ⟨v, κ', rfl, hret⟩
              exact hK _ _ w' ((h.heard hret).put dst (weak_sound hret.box hret.cp hret.vr))
          · cases hs
        · cases hs
      · cases hs
    | _ => simp [rdOp] at hs
  | _ => exact other (restCase hs)

theorem stepD_sound (hcall : ∀ f xs d, call f xs = some d → PureB P w0 f xs d) (h : FR P κ0 κ w0 E a w) {o : Oper} {E1 : Env} (hs : stepD P call ops E o = some E1)
    {K : Act → World → Prop} {Q : Exit → Act → World → Prop} (hK : ∀ κ' a' w', FR P κ0 κ' w0 E1 a' w' → K a' w') : if Region.wanted o (yielded ops a.tmps) = true then o.wp P a w K Q else K (a.put o.dst Go.undef) w := by
  unfold stepD at hs
  split at hs
  · cases hs
  · rename_i hw
    rw [wantA_sound h hw, if_pos rfl]
    split at hs
    · exact evStep_sound hcall h hs hK
    · split at hs
      · rename_i v hv
        split at hs
        · simp only [Option.some.injEq] at hs; subst hs
          exact rdOp_sound hcall h hv hK
        · cases hs
      · cases hs
  · rename_i hw
    rw [wantA_sound h hw, if_neg (by simp)]
    split at hs
    · simp only [Option.some.injEq] at hs; subst hs
      exact hK κ _ w (h.put o.dst (.lit _ _))
    · cases hs

theorem any_sound (hcall : ∀ f xs d, call f xs = some d → PureB P w0 f xs d) {K : Env → Prop} {Q : Exit → Act → World → Prop} (hQ : ∀ κ E a w, FR P κ0 κ w0 E a w → K E → Q .normal a w) :
    ∀ (fuel : Nat) (listed : Array Bool) (κ : Ctx) (E : Env) (a : Act) (w : World), FR P κ0 κ w0 E a w → AnyA P call ops K fuel listed E → wpAny P .any ops Q fuel listed a w
  | 0, _, κ, E, a, w, h, hA => ⟨hA.1, hQ κ E a w h hA.2⟩
  | fuel + 1, listed, κ, E, a, w, h, hA => ⟨fun h0 => hQ κ E a w h (hA.1 h0), fun i hi => by
      have h1 := hA.2 i hi
      unfold stA at h1
      unfold wpOp
      split at h1
      · rename_i ho
        simp only [ho]
        exact any_sound hcall hQ fuel _ κ E a w h h1
      · rename_i o ho
        simp only [ho]
        obtain ⟨E1, hs, h2⟩ := h1
        have := stepD_sound hcall h hs (K := wpAny P .any ops Q fuel (listed.setIfInBounds i true)) (Q := Q) (fun κ' a' w' h' => any_sound hcall hQ fuel _ κ' E1 a' w' h' h2)
        split
        · rename_i hw; rw [if_pos hw] at this; exact .inl this
        · rename_i hw; rw [if_neg hw] at this; exact this⟩

theorem FR.drew (h : FR P κ0 κ w0 E a w) : FR P κ0 κ w0 E a { w with drawn := w.drawn + 1 } where
  defers := h.defers
  size := h.size
  slots t x hx := by
    obtain ⟨v, hv, hs⟩ := h.slots t x hx
    refine ⟨v, hv, ?_⟩
    cases hs with
    | val h => exact .val h
    | cell hx hb hh hc h1 => exact .cell hx hb hh hc h1
  live := h.live
  wi := ⟨h.wi.cs, h.wi.cp, h.wi.box, h.wi.boxi, h.wi.tok, h.wi.tokc, h.wi.toki, h.wi.tokb⟩
  bl := h.bl.drew
  cs0 := h.cs0
  cs1 := h.cs1
  cp0 := h.cp0

theorem drawn_sound (hcall : ∀ f xs d, call f xs = some d → PureB P w0 f xs d) {id : Nat} {E1 : Env} (hd : drawnA P ops = true) (h : FR P κ0 κ w0 E a w) (ho : evOpsD P call ops ops.toList E = some E1)
    {Q : Exit → Act → World → Prop} (hQ : ∀ κ' a' w', FR P κ0 κ' w0 E1 a' w' → Q .normal a' w') : (Code.region id ops true).wp P Q a w := by
  simp only [drawnA, Bool.and_eq_true] at hd
  refine wp_region_any hd.1 ?_
  have hA := AnyA_lex (K := fun E => E = E1) ops.toList 0 (Array.replicate ops.size false) E E1 (by simp) (by simpa using hd.2) ho rfl
  have := any_sound hcall (Q := Q) (K := fun E => E = E1) (fun κ E a w h he => by subst he; exact hQ κ a w h) _ _ κ E a _ h.drew hA
  simpa using this
end Go.Proofs.YtcddclkccpfdkaaDoor.EV
