/- Calls. -/
import Derived.Test.YtcddclkccpfdkaaDoorEv10
import Derived.Test.YtcddclkccpfdkaaDoorTb
import Derived.Lib.LaidTab
set_option linter.unusedSimpArgs false
set_option linter.unusedVariables false
namespace Go.Proofs.YtcddclkccpfdkaaDoor.EV
open Go.RowKit
variable {P : Program} {κ0 κ : Ctx} {w w0 : World} {E : Env} {a : Act}

/-- What a pure function answers: it reads what it is given (and memory that nobody writes), makes new memory, and hands back d. -/
structure Ret (P : Program) (κ : Ctx) (w : World) (d : AV) (v : Value) (κ' : Ctx) (w' : World) : Prop where
  bl : Below w.heap.size w w'
  wi : WI P κ' w.heap.size w'
  box : ∀ q, κ'.box q = none
  tok : ∀ q j, q ≠ 0 → κ'.tok q j = none
  cs0 : ∀ a x, κ.Cs a x → κ'.Cs a x
  cs1 : ∀ a x, κ'.Cs a x → κ.Cs a x ∨ w.heap.size ≤ a.block
  cp : ∀ a x, ¬ κ'.Cp a x
  vr : VR κ' d v
  own : ∀ j, (κ'.tok 0 j).map (·.n) = lookN (owned d) j

/-- the listed tables lie in the world as they were laid -/
def TabW (P : Program) (w : World) : Prop := ∀ x ∈ tabList, Lib.TabIs P w x.1 x.2.1 x.2.2
theorem TabW.below {w w' : World} (h : TabW P w) (hb : Below w.heap.size w w') : TabW P w' := by
  intro x hx
  have hh := h x hx
  unfold Lib.TabIs World.var? at hh ⊢
  cases hg : P.globalNamed x.1 with
  | none => rw [hg] at hh; cases hh
  | some g =>
    rw [hg] at hh
    simp only [Option.bind_some] at hh ⊢
    have hlt : g < w.heap.size := by
      by_cases hlt : g < w.heap.size
      · exact hlt
      · rw [Array.getElem?_eq_none (by omega)] at hh; cases hh
    rw [hb.block g hlt]; exact hh
def Pure (P : Program) (f : FuncId) (args : List AV) (d : AV) : Prop :=
  ∀ (κ : Ctx) (w : World) (vs : List Value), TabW P w → (∀ q, κ.box q = none) → (∀ q j, κ.tok q j = none) → WI P κ w.heap.size w → All2 (VR κ) args vs →
    Calls P f vs.toArray w fun e w' => ∃ v κ', e = .returned v ∧ Ret P κ w d v κ' w'
/-- .. asked at worlds behind w0 alone -/
def PureB (P : Program) (w0 : World) (f : FuncId) (args : List AV) (d : AV) : Prop :=
  ∀ (κ : Ctx) (w : World) (vs : List Value), Below w0.heap.size w0 w → (∀ q, κ.box q = none) → (∀ q j, κ.tok q j = none) → WI P κ w.heap.size w → All2 (VR κ) args vs →
    Calls P f vs.toArray w fun e w' => ∃ v κ', e = .returned v ∧ Ret P κ w d v κ' w'

/-- what a call is shown -/
def Ctx.shown (κ : Ctx) (w : World) : Ctx :=
  { Cs := κ.Cs, Cp := fun a v => κ.Cp a v ∨ (∃ k g, κ.box k = some g ∧ a.block = g ∧ w.cell? a = some v), box := fun _ => none, tok := fun _ _ => none }

theorem shown_wi {base : Nat} (h : WI P κ base w) (b : Nat) : WI P (κ.shown w) b w where
  cs := h.cs
  cp := by
    rintro ad v (hc | ⟨_, _, _, _, hc⟩)
    · exact h.cp ad v hc
    · exact hc
  box k g hg := by cases hg
  boxi k k' g hg := by cases hg
  tok k j τ hg := by cases hg
  tokc k j τ hg := by cases hg
  toki k j τ k' j' τ' hg := by cases hg
  tokb k j τ k' g hg := by cases hg

theorem snap1_sound (h : FR P κ0 κ w0 E a w) {x y : AV} {v : Value} (hx : CR0 κ x v) (hs : snap1 E x = some y) : CR0 (κ.shown w) y v := by
  cases hx with
  | lit v => simp only [snap1, Option.some.injEq] at hs; subst hs; exact .lit v
  | sl hsl ho => simp only [snap1, Option.some.injEq] at hs; subst hs; exact .sl hsl trivial
  | loc hb =>
    rename_i k off g
    simp only [snap1] at hs
    split at hs
    · rename_i cs hc
      split at hs
      · rename_i hle
        cases hp : plainL (cs.drop off) with
        | none => simp [hp] at hs
        | some l =>
          simp only [hp, Option.map_some, Option.some.injEq] at hs; subst hs
          obtain ⟨g', T, vs, hb', hh, hcs, _⟩ := h.cellAt hc
          rw [hb] at hb'; cases hb'
          refine .eptr (vs := vs.drop off) (plainL_sound (κ := κ) (hcs.drop off) hp) (fun j y hy => .inl (.inr ⟨k, g, hb, ?_, ?_⟩))
          · rw [plain_add]
          · rw [plain_add]; rw [List.getElem?_drop] at hy; exact cell_block hh hy
      · cases hs
    · cases hs
  | eptr hcs hc => simp only [snap1, Option.some.injEq] at hs; subst hs; exact .eptr hcs (fun j y hy => (hc j y hy).imp .inl id)
  | mrow h => simp [snap1] at hs
  | junk v => simp [snap1] at hs
theorem snapL_sound (h : FR P κ0 κ w0 E a w) : ∀ {l m : List AV} {vs : List Value}, All2 (CR0 κ) l vs → snapL E l = some m → All2 (CR0 (κ.shown w)) m vs := by
  intro l
  induction l with
  | nil => intro m vs hx hs; simp only [snapL, Option.some.injEq] at hs; subst hs; cases hx.nil_inv; exact All2.nil
  | cons x l ih =>
    intro m vs hx hs
    obtain ⟨v, vs', rfl, hv, hr⟩ := hx.cons_inv
    simp only [snapL] at hs
    split at hs
    · rename_i y l' hy hl'
      simp only [Option.some.injEq] at hs; subst hs
      exact All2.cons (snap1_sound h hv hy) (ih hr hl')
    · cases hs
theorem snap_sound (h : FR P κ0 κ w0 E a w) {x y : AV} {v : Value} (hx : VR κ x v) (hs : snap E x = some y) : VR (κ.shown w) y v := by
  cases hx with
  | a hx => cases hx with
    | c hx => cases hx with
      | c0 hx =>
        have : snap1 E x = some y := by cases hx <;> exact hs
        exact .c0 (snap1_sound h hx this)
      | fn hc =>
        rename_i f caps vs
        cases hp : snapL E caps with
        | none => simp [snap, hp] at hs
        | some m => simp [snap, hp] at hs; subst hs; exact .a (.c (.fn (snapL_sound h hc hp)))
    | agg hc =>
      rename_i l vs
      cases hp : plainL l with
      | none => simp [snap, hp] at hs
      | some m => simp [snap, hp] at hs; subst hs; exact .a (.agg ((plainL_sound hc hp).imp fun _ _ hp => PR.cr (κ := κ.shown w) hp))
  | tup hc => simp [snap, snap1] at hs
theorem snaps_sound (h : FR P κ0 κ w0 E a w) : ∀ {l m : List AV} {vs : List Value}, All2 (VR κ) l vs → snaps E l = some m → All2 (VR (κ.shown w)) m vs := by
  intro l
  induction l with
  | nil => intro m vs hx hs; simp only [snaps, Option.some.injEq] at hs; subst hs; cases hx.nil_inv; exact All2.nil
  | cons x l ih =>
    intro m vs hx hs
    obtain ⟨v, vs', rfl, hv, hr⟩ := hx.cons_inv
    simp only [snaps] at hs
    split at hs
    · rename_i y l' hy hl'
      simp only [Option.some.injEq] at hs; subst hs
      exact All2.cons (snap_sound h hv hy) (ih hr hl')
    · cases hs

/-- behind a call: the caller's frame with the answer's rows at slot d -/
def Ctx.back (κ κ' : Ctx) (d : Nat) : Ctx := { Cs := κ'.Cs, Cp := κ.Cp, box := fun q => if q = d then none else κ.box q, tok := fun q j => if q = d then κ'.tok 0 j else κ.tok q j }

theorem home1_sound {κ κ' : Ctx} {d : Nat} (hbx : ∀ q, κ'.box q = none) (htk : ∀ q j, q ≠ 0 → κ'.tok q j = none) (hcp : ∀ a x, ¬ κ'.Cp a x) {x : AV} {v : Value} (h : CR0 κ' x v) : CR0 (κ.back κ' d) (home1 d x) v := by
  cases h with
  | lit v => exact .lit v
  | sl hsl ho =>
    rename_i o es A c
    cases o with
    | sh => exact .sl hsl trivial
    | ex => exact .sl hsl ho
    | ow q j e =>
      simp only [home1]
      split
      · rename_i hq; subst hq
        refine .sl hsl (fun τ ht => ?_)
        simp only [Ctx.back, if_true] at ht
        exact ho τ ht
      · exact .sl hsl trivial
  | loc hb => rw [hbx] at hb; cases hb
  | mrow hb => rw [hbx] at hb; cases hb
  | eptr hcs hc => exact .eptr hcs (fun j y hy => (hc j y hy).elim (fun hp => absurd hp (hcp _ _)) .inr)
  | junk v => exact .junk v
theorem home_sound {κ κ' : Ctx} {d : Nat} (hbx : ∀ q, κ'.box q = none) (htk : ∀ q j, q ≠ 0 → κ'.tok q j = none) (hcp : ∀ a x, ¬ κ'.Cp a x) {x : AV} {v : Value} (h : VR κ' x v) : VR (κ.back κ' d) (home d x) v := by
  have hA : ∀ {x : AV} {v : Value}, AR κ' x v → AR (κ.back κ' d) (homeA d x) v := by
    intro x v h
    cases h with
    | c h => cases h with
      | c0 h =>
        have h2 := home1_sound (κ := κ) (d := d) hbx htk hcp h
        cases h <;> exact .c (.c0 h2)
      | fn h => exact .c (.fn (h.map_left fun _ _ h => home1_sound hbx htk hcp h))
    | agg h => exact .agg (h.map_left fun _ _ h => home1_sound hbx htk hcp h)
  cases h with
  | a h =>
    have h2 := hA h
    cases h with
    | c h => cases h with
      | c0 h => cases h <;> exact .a h2
      | fn h => exact .a h2
    | agg h => exact .a h2
  | tup h => exact .tup (h.map_left fun _ _ h => hA h)

theorem ret_tok_ge {d : AV} {v : Value} {κi κ' : Ctx} {w' : World} (hr : Ret P κi w d v κ' w') {q j : Nat} {τ : Tok} (ht : κ'.tok q j = some τ) : w.heap.size ≤ τ.g := (hr.wi.tok q j τ ht).1

theorem FR.returned (h : FR P κ0 κ w0 E a w) {d : Option Nat} {x : AV} {v : Value} {κ' : Ctx} {w' : World} (hr : Ret P (κ.shown w) w x v κ' w') : ∃ κ2, FR P κ0 κ2 w0 (E.made d x) (a.put d v) w' := by
  have hold : ∀ q, q < w.heap.size → w'.heap[q]? = w.heap[q]? := hr.bl.block
  have hcs : ∀ ad y, κ'.Cs ad y → κ.Cs ad y ∨ w.heap.size ≤ ad.block := hr.cs1
  have hsz := hr.bl.size
  have hbl : Below w0.heap.size w0 w' := h.bl.trans (hr.bl.mono h.bl.size)
  have hbase := h.bl.size
  have wi : ∀ k, WI P (κ.back κ' k) w0.heap.size w' := by
    intro k
    refine ⟨hr.wi.cs, fun ad y hc => ?_, ?_, ?_, ?_, ?_, ?_, ?_⟩
    · have := h.wi.cp ad y hc
      rw [World.cell?_of_block (hold _ (cell_lt this))]; exact this
    · intro q g hq
      simp only [Ctx.back] at hq
      split at hq
      · cases hq
      · obtain ⟨h1, h2, h3⟩ := h.wi.box q g hq
        refine ⟨h1, by omega, fun ad y had => ⟨fun hc => ?_, (h3 ad y had).2⟩⟩
        rcases hcs ad y hc with hc | hc
        · exact (h3 ad y had).1 hc
        · omega
    · intro q q' g hq hq'
      simp only [Ctx.back] at hq hq'
      split at hq
      · cases hq
      · split at hq'
        · cases hq'
        · exact h.wi.boxi q q' g hq hq'
    · intro q j τ ht
      simp only [Ctx.back] at ht
      split at ht
      · obtain ⟨h1, h2⟩ := hr.wi.tok 0 j τ ht; exact ⟨by omega, h2⟩
      · obtain ⟨h1, h2, h3, h4, hz, cur, h5, h6⟩ := h.wi.tok q j τ ht
        exact ⟨h1, h2, h3, h4, hz, cur, by rw [hold _ (tok_lt h5)]; exact h5, h6⟩
    · intro q j τ ht ad y had
      simp only [Ctx.back] at ht
      split at ht
      · have hge := (hr.wi.tok 0 j τ ht).1
        refine ⟨(hr.wi.tokc 0 j τ ht ad y had).1, fun hc => ?_⟩
        have := cell_lt (h.wi.cp ad y hc); omega
      · obtain ⟨_, _, _, _, _, cur, h5, _⟩ := h.wi.tok q j τ ht
        have := tok_lt h5
        refine ⟨fun hc => ?_, (h.wi.tokc q j τ ht ad y had).2⟩
        rcases hcs ad y hc with hc | hc
        · exact (h.wi.tokc q j τ ht ad y had).1 hc
        · omega
    · intro q j τ q' j' τ' ht ht' hg
      simp only [Ctx.back] at ht ht'
      split at ht
      · split at ht'
        · rename_i e1 e2
          exact ⟨e1.trans e2.symm, (hr.wi.toki 0 j τ 0 j' τ' ht ht' hg).2⟩
        · have := (hr.wi.tok 0 j τ ht).1
          obtain ⟨_, _, _, _, _, cur, h5, _⟩ := h.wi.tok q' j' τ' ht'
          have := tok_lt h5
          omega
      · split at ht'
        · have := (hr.wi.tok 0 j' τ' ht').1
          obtain ⟨_, _, _, _, _, cur, h5, _⟩ := h.wi.tok q j τ ht
          have := tok_lt h5
          omega
        · exact h.wi.toki q j τ q' j' τ' ht ht' hg
    · intro q j τ q' g ht hq
      simp only [Ctx.back] at ht hq
      split at hq
      · cases hq
      · have hlt := (h.wi.box q' g hq).2.1
        split at ht
        · have := (hr.wi.tok 0 j τ ht).1
          omega
        · exact h.wi.tokb q j τ q' g ht hq
  cases d with
  | some k =>
    refine ⟨κ.back κ' k, h.made ⟨fun ad y hc => hr.cs0 ad y hc, fun _ _ hc => hc, fun q g hq hb => ?_, fun q j τ hq ht => ?_⟩ (fun t g _ hg => hold g hg) (wi k) hbl (fun ad y hc => (hcs ad y hc).imp id (fun hx => by omega)) (fun _ _ hc => hc) (home_sound hr.box hr.tok hr.cp hr.vr) (fun j => ?_) (fun q j hq => ?_)⟩
    · simp only [Ctx.back]; rw [if_neg (by simpa using hq)]; exact hb
    · simp only [Ctx.back] at ht; rw [if_neg (by simpa using hq)] at ht; exact ⟨τ, ht, .inl rfl⟩
    · simp only [Ctx.back, if_true]; exact (hr.own j).symm
    · simp only [Ctx.back]; rw [if_neg hq]
  | none =>
    have w2 := wi 0
    refine ⟨{ κ with Cs := κ'.Cs }, ⟨h.defers, h.size, fun t y hy => ?_, h.live, ⟨w2.cs, w2.cp, ?_, h.wi.boxi, ?_, ?_, h.wi.toki, h.wi.tokb⟩, hbl, fun ad y hc => hr.cs0 ad y (h.cs0 ad y hc), fun ad y hc => (hcs ad y hc).elim (h.cs1 ad y) (fun hx => .inr (by omega)), h.cp0⟩⟩
    · obtain ⟨u, hu, hs⟩ := h.slots t y hy
      have hl : Le κ { κ with Cs := κ'.Cs } none := { cs := hr.cs0, cp := fun _ _ hc => hc, box := fun _ _ _ hb => hb, tok := fun q j τ _ ht => ⟨τ, ht, .inl rfl⟩ }
      exact ⟨u, hu, hs.mono hl (fun g _ hg => hold g hg)⟩
    · intro q g hq
      obtain ⟨h1, h2, h3⟩ := h.wi.box q g hq
      refine ⟨h1, by omega, fun ad y had => ⟨fun hc => ?_, (h3 ad y had).2⟩⟩
      rcases hcs ad y hc with hc | hc
      · exact (h3 ad y had).1 hc
      · omega
    · intro q j τ ht
      obtain ⟨h1, h2, h3, h4, hz, cur, h5, h6⟩ := h.wi.tok q j τ ht
      exact ⟨h1, h2, h3, h4, hz, cur, by rw [hold _ (tok_lt h5)]; exact h5, h6⟩
    · intro q j τ ht ad y had
      obtain ⟨_, _, _, _, _, cur, h5, _⟩ := h.wi.tok q j τ ht
      have := tok_lt h5
      refine ⟨fun hc => ?_, (h.wi.tokc q j τ ht ad y had).2⟩
      rcases hcs ad y hc with hc | hc
      · exact (h.wi.tokc q j τ ht ad y had).1 hc
      · omega
end Go.Proofs.YtcddclkccpfdkaaDoor.EV
