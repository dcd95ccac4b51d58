/- Functions. -/
import Derived.Test.YtcddclkccpfdkaaDoorEv13c
set_option linter.unusedSimpArgs false
set_option linter.unusedVariables false
namespace Go.Proofs.YtcddclkccpfdkaaDoor.EV
open Go.RowKit
variable {P : Program} {κ0 κ : Ctx} {w w0 : World} {E : Env} {a : Act} {call : FuncId → List AV → Option AV}

/-! ### the results -/
/-- how the answer's cells stand to the frame's -/
inductive Fin1 (E : Env) (used : List (Nat × Nat)) (pos : Nat) : AV → AV → Prop
  | lit (v : Value) : Fin1 E used pos (.lit v) (.lit v)
  | sh (es : List (List AV)) : Fin1 E used pos (.sl .sh es) (.sl .sh es)
  | ex (es : List (List AV)) : Fin1 E used pos (.sl .ex es) (.sl .ex es)
  | lost (k j e : Nat) (es : List (List AV)) : Fin1 E used pos (.sl (.ow k j e) es) (.sl .sh es)
  | row (k n s : Nat) (cs cs' : List AV) (hc : E.cellAt k = some cs) (hp : plainL cs = some cs') (hl : cs'.length = n * s) : Fin1 E used pos (.mrow k n s) (.sl .ex (chop s n cs'))
  | own (k j e : Nat) (es : List (List AV)) (hl : E.live k j = some es.length) (hu : (k, j) ∉ used) : Fin1 E used pos (.sl (.ow k j e) es) (.sl (.ow 0 pos e) es)

theorem fin1_spec {used : List (Nat × Nat)} {pos : Nat} {x y : AV} (h : fin1 E used pos x = some y) : Fin1 E used pos x y := by
  unfold fin1 at h
  split at h
  · simp only [Option.some.injEq] at h; subst h; exact .lit _
  · simp only [Option.some.injEq] at h; subst h; exact .sh _
  · simp only [Option.some.injEq] at h; subst h; exact .ex _
  · split at h
    · rename_i hc
      simp only [Option.some.injEq] at h; subst h
      exact .own _ _ _ _ hc.1 (by simpa using hc.2)
    · simp only [Option.some.injEq] at h; subst h; exact .lost _ _ _ _
  · rename_i k n s
    cases hc : E.cellAt k with
    | none => simp [hc] at h
    | some cs =>
      cases hp : plainL cs with
      | none => simp [hc, hp] at h
      | some cs' =>
        simp only [hc, Option.bind_some, hp] at h
        split at h
        · rename_i hl
          simp only [Option.some.injEq] at h; subst h
          exact .row k n s cs cs' hc hp hl
        · cases h
  · cases h
theorem chop_spec (s : Nat) : ∀ (n : Nat) (l : List AV), l.length = n * s → (chop s n l).length = n ∧ (∀ x ∈ chop s n l, x.length = s) ∧ (chop s n l).flatten = l
  | 0, l, h => ⟨rfl, fun x hx => by simp [chop] at hx, by simp [chop]; exact List.eq_nil_of_length_eq_zero (by simpa using h)⟩
  | n + 1, l, h => by
    have hl : (l.drop s).length = n * s := by rw [List.length_drop, h, Nat.add_mul, Nat.one_mul]; omega
    obtain ⟨h1, h2, h3⟩ := chop_spec s n (l.drop s) hl
    refine ⟨by simp [chop, h1], fun x hx => ?_, by simp [chop, h3]⟩
    simp only [chop, List.mem_cons] at hx
    rcases hx with rfl | hx
    · rw [List.length_take, h, Nat.add_mul, Nat.one_mul]; omega
    · exact h2 x hx
/-- the cells before place p -/
theorem finL_spec : ∀ {l m : List AV} {used : List (Nat × Nat)} {pos : Nat}, finL E used pos l = some m →
    l.length = m.length ∧ ∀ (p : Nat) x y, l[p]? = some x → m[p]? = some y → ∃ used', Fin1 E used' (pos + p) x y ∧ (∀ t, t ∈ used → t ∈ used') ∧ ∀ (p' : Nat) x', p' < p → l[p']? = some x' → ∀ t ∈ toks1 x', t ∈ used' := by
  intro l
  induction l with
  | nil => intro m used pos h; simp only [finL, Option.some.injEq] at h; subst h; exact ⟨rfl, fun p x y hx => by simp at hx⟩
  | cons z l ih =>
    intro m used pos h
    simp only [finL] at h
    split at h
    · rename_i y1 m1 hy hm
      simp only [Option.some.injEq] at h; subst h
      obtain ⟨h1, h2⟩ := ih hm
      refine ⟨by simp [h1], fun p x y hx hyp => ?_⟩
      cases p with
      | zero =>
        simp only [List.getElem?_cons_zero, Option.some.injEq] at hx hyp; subst hx; subst hyp
        exact ⟨used, fin1_spec hy, fun _ ht => ht, fun p' x' hp => by omega⟩
      | succ p =>
        simp only [List.getElem?_cons_succ] at hx hyp
        obtain ⟨u', hf, hu, hb⟩ := h2 p x y hx hyp
        refine ⟨u', by rw [show pos + (p + 1) = pos + 1 + p by omega]; exact hf, fun t ht => hu t (List.mem_append_right _ ht), fun p' x' hp hx' t ht => ?_⟩
        cases p' with
        | zero => simp only [List.getElem?_cons_zero, Option.some.injEq] at hx'; subst hx'; exact hu t (List.mem_append_left _ ht)
        | succ p' => simp only [List.getElem?_cons_succ] at hx'; exact hb p' x' (by omega) hx' t ht
    · cases h

/-- the token at place p of the answer -/
def tokAt (κ : Ctx) (l m : List AV) (p : Nat) : Option Tok :=
  match l[p]?, m[p]? with
  | some (.sl (.ow k j _) _), some (.sl (.ow _ _ _) _) => κ.tok k j
  | _, _ => none
def finCtx (κ : Ctx) (w : World) (l m : List AV) : Ctx := { Cs := fun a v => κ.Cs a v ∨ ∃ k g, κ.box k = some g ∧ a.block = g ∧ w.cell? a = some v, Cp := fun _ _ => False, box := fun _ => none, tok := fun q j => if q = 0 then tokAt κ l m j else none }

theorem tokAt_spec {l m : List AV} (hs : ∀ (p : Nat) x y, l[p]? = some x → m[p]? = some y → ∃ used', Fin1 E used' p x y ∧ ∀ (p' : Nat) x', p' < p → l[p']? = some x' → ∀ t ∈ toks1 x', t ∈ used') {p : Nat} {τ : Tok} (h : tokAt κ l m p = some τ) :
    ∃ (k j e : Nat) (es : List (List AV)) (used' : List (Nat × Nat)), l[p]? = some (.sl (.ow k j e) es) ∧ m[p]? = some (.sl (.ow 0 p e) es) ∧ κ.tok k j = some τ ∧ E.live k j = some es.length ∧ (k, j) ∉ used' ∧ ∀ (p' : Nat) x', p' < p → l[p']? = some x' → ∀ t ∈ toks1 x', t ∈ used' := by
  unfold tokAt at h
  split at h
  · rename_i k j e es q i e' es' hl hm
    obtain ⟨u', hf, hb⟩ := hs p _ _ hl hm
    cases hf with
    | own _ _ _ _ hlv hu => exact ⟨k, j, e, es, u', hl, hm, h, hlv, hu, hb⟩
  · cases h

theorem finCtx_wi {l m : List AV} {base : Nat} (hs : ∀ (p : Nat) x y, l[p]? = some x → m[p]? = some y → ∃ used', Fin1 E used' p x y ∧ ∀ (p' : Nat) x', p' < p → l[p']? = some x' → ∀ t ∈ toks1 x', t ∈ used') (h : WI P κ base w) : WI P (finCtx κ w l m) base w := by
  have key : ∀ p p' τ τ', tokAt κ l m p = some τ → tokAt κ l m p' = some τ' → τ.g = τ'.g → ¬ p < p' := by
    intro p p' τ τ' h1 h2 hg hlt
    obtain ⟨k, j, e, es, u, a1, a2, a3, a4, a5, a6⟩ := tokAt_spec hs h1
    obtain ⟨k', j', e', es', u', b1, b2, b3, b4, b5, b6⟩ := tokAt_spec hs h2
    obtain ⟨rfl, rfl⟩ := h.toki k j τ k' j' τ' a3 b3 hg
    exact b5 (b6 p _ hlt a1 _ (by simp [toks1]))
  refine ⟨fun ad v hc => hc.elim (h.cs ad v) (fun ⟨_, _, _, _, hc⟩ => hc), fun ad v hc => hc.elim, (fun k g hg => by cases hg), (fun k k' g hg => by cases hg), fun q j τ ht => ?_, fun q j τ ht ad v had => ?_, fun q j τ q' j' τ' ht ht' hg => ?_, (fun q j τ k g _ hg => by cases hg)⟩
  · simp only [finCtx] at ht
    split at ht
    · obtain ⟨k, i, e, es, u, a1, a2, a3, _⟩ := tokAt_spec hs ht
      exact h.tok k i τ a3
    · cases ht
  · simp only [finCtx] at ht
    split at ht
    · obtain ⟨k, i, e, es, u, a1, a2, a3, _⟩ := tokAt_spec hs ht
      exact ⟨fun hc => hc.elim (h.tokc k i τ a3 ad v had).1 (fun ⟨q', g, hb, hg, _⟩ => absurd (had.symm.trans hg) (h.tokb k i τ q' g a3 hb)), fun hc => hc⟩
    · cases ht
  · simp only [finCtx] at ht ht'
    split at ht
    · split at ht'
      · rename_i e1 e2
        refine ⟨e1.trans e2.symm, ?_⟩
        have h1 := key j j' τ τ' ht ht' hg
        have h2 := key j' j τ' τ ht' ht hg.symm
        omega
      · cases ht'
    · cases ht

theorem fin_cells {l m : List AV} {vs : List Value} (h : FR P κ0 κ w0 E a w) (hlen : l.length = m.length) (hs : ∀ (p : Nat) x y, l[p]? = some x → m[p]? = some y → ∃ used', Fin1 E used' p x y ∧ ∀ (p' : Nat) x', p' < p → l[p']? = some x' → ∀ t ∈ toks1 x', t ∈ used') (hc : All2 (CR0 κ) l vs) : All2 (CR0 (finCtx κ w l m)) m vs := by
  refine ⟨by rw [← hlen]; exact hc.1, fun p y v hy hv => ?_⟩
  have hlt : p < l.length := by rw [hlen]; exact (List.getElem?_eq_some_iff.1 hy).1
  have hx := List.getElem?_eq_getElem hlt
  have hcr := hc.2 p _ v hx hv
  obtain ⟨u', hf, _⟩ := hs p _ y hx hy
  generalize hxx : l[p] = x at *
  cases hf with
  | lit v => cases hcr; exact .lit _
  | sh es => cases hcr; exact .sl (‹SlR _ _ _ _›.mono fun _ _ h => .inl h) trivial
  | ex es => cases hcr; exact .sl (‹SlR _ _ _ _›.mono fun _ _ h => .inl h) ‹_›
  | lost k j e es => cases hcr; exact .sl (‹SlR _ _ _ _›.mono fun _ _ h => .inl h) trivial
  | row k n s cs cs' hcell hp hl =>
    cases hcr with
    | mrow hb =>
      rename_i g0
      obtain ⟨g, T, ws, hb', hh, hcs, h1, _⟩ := h.cellAt hcell
      have hg : g = g0 := by rw [hb] at hb'; exact (Option.some.inj hb').symm
      subst hg
      obtain ⟨c1, c2, c3⟩ := chop_spec s n cs' hl
      have := CR0.sl (κ := finCtx κ w l m) (o := .ex) (es := chop s n cs') (A := some ⟨g, 0, none⟩) (c := n) ⟨s, ws, c2, by omega, by rw [c3]; exact (plainL_sound hcs hp).imp fun _ _ h => h.mono fun _ _ h => .inl h, fun j y hy => ⟨_, rfl, .inr ⟨k, g, hb, by rw [plain_add], by rw [plain_add, Nat.zero_add]; exact cell_block hh hy⟩⟩⟩ c1.symm
      rw [c1] at this
      exact this
  | own k j e es hl hu =>
    cases hcr with
    | sl hsl ho =>
      refine .sl (hsl.mono fun _ _ h => .inl h) (fun τ ht => ?_)
      simp only [finCtx, if_true, tokAt, hx, hy] at ht
      exact ho τ ht

theorem owned1_or (x : AV) : (∃ q i e es, x = .sl (.ow q i e) es) ∨ (owned1 x = [] ∧ ∀ q i e es, x ≠ .sl (.ow q i e) es) := by
  cases x with
  | sl o es => cases o with
    | ow q i e => exact .inl ⟨q, i, e, es, rfl⟩
    | _ => exact .inr ⟨rfl, fun _ _ _ _ h => by cases h⟩
  | _ => exact .inr ⟨rfl, fun _ _ _ _ h => by cases h⟩
theorem lookN_flat : ∀ (m : List AV) (pos j : Nat), (∀ (p : Nat) q i e es, m[p]? = some (.sl (.ow q i e) es) → q = 0 ∧ i = pos + p) → pos ≤ j → lookN (m.flatMap owned1) j = match m[j - pos]? with | some (.sl (.ow _ _ _) es) => some es.length | _ => none := by
  intro m
  induction m with
  | nil => intro pos j _ _; simp [lookN]
  | cons x m ih =>
    intro pos j h hj
    have h' : ∀ (p : Nat) q i e es, m[p]? = some (.sl (.ow q i e) es) → q = 0 ∧ i = pos + 1 + p := fun p q i e es hp => by have := h (p + 1) q i e es (by simpa using hp); omega
    have hx0 := fun q i e es (hx : x = .sl (.ow q i e) es) => h 0 q i e es (by rw [hx]; rfl)
    rw [List.flatMap_cons]
    rcases Nat.lt_or_ge pos j with hlt | hge
    · have hskip : lookN (owned1 x ++ m.flatMap owned1) j = lookN (m.flatMap owned1) j := by
        rcases owned1_or x with ⟨q, i, e, es, rfl⟩ | ⟨hn, _⟩
        · obtain ⟨rfl, hi⟩ := hx0 q i e es rfl
          have : (i == j) = false := by simp; omega
          have h1 : owned1 (.sl (.ow 0 i e) es) = [(i, es.length)] := rfl
          rw [h1]
          simp only [lookN, List.cons_append, List.nil_append, List.find?_cons, this]
        · rw [hn]; rfl
      rw [hskip, ih (pos + 1) j h' (by omega)]
      rw [show j - pos = (j - (pos + 1)) + 1 by omega, List.getElem?_cons_succ]
    · have hje : j = pos := by omega
      subst hje
      simp only [Nat.sub_self, List.getElem?_cons_zero]
      have hrest : lookN (m.flatMap owned1) j = none := by
        unfold lookN
        rw [List.find?_eq_none.2 (fun t ht => ?_)]
        · rfl
        · obtain ⟨z, hz, htz⟩ := List.mem_flatMap.1 ht
          obtain ⟨p, hp⟩ := List.getElem?_of_mem hz
          rcases owned1_or z with ⟨q, i, e, es, rfl⟩ | ⟨hn, _⟩
          · obtain ⟨rfl, hi⟩ := h' p q i e es hp
            have h1 : owned1 (.sl (.ow 0 i e) es) = [(i, es.length)] := rfl
            rw [h1, List.mem_singleton] at htz
            subst htz
            simp
            omega
          · rw [hn] at htz; cases htz
      rcases owned1_or x with ⟨q, i, e, es, rfl⟩ | ⟨hn, hno⟩
      · obtain ⟨rfl, hi⟩ := hx0 q i e es rfl
        have hij : i = j := by omega
        subst hij
        have h1 : owned1 (.sl (.ow 0 i e) es) = [(i, es.length)] := rfl
        rw [h1]
        simp [lookN]
      · rw [hn, List.nil_append, hrest]
        split
        · rename_i q i e es hq
          simp only [Option.some.injEq] at hq
          exact absurd hq (hno _ _ _ _)
        · rfl

theorem fin_own {l m : List AV} (h : FR P κ0 κ w0 E a w) (hlen : l.length = m.length) (hs : ∀ (p : Nat) x y, l[p]? = some x → m[p]? = some y → ∃ used', Fin1 E used' p x y ∧ ∀ (p' : Nat) x', p' < p → l[p']? = some x' → ∀ t ∈ toks1 x', t ∈ used') (j : Nat) :
    ((finCtx κ w l m).tok 0 j).map (·.n) = lookN (m.flatMap owned1) j := by
  have hown : ∀ (p : Nat) q i e es, m[p]? = some (.sl (.ow q i e) es) → q = 0 ∧ i = 0 + p := by
    intro p q i e es hp
    have hlt : p < l.length := by rw [hlen]; exact (List.getElem?_eq_some_iff.1 hp).1
    obtain ⟨u', hf, _⟩ := hs p _ _ (List.getElem?_eq_getElem hlt) hp
    generalize l[p] = x at hf
    cases hf
    exact ⟨rfl, by omega⟩
  rw [lookN_flat m 0 j hown (Nat.zero_le _)]
  simp only [finCtx, if_true, Nat.sub_zero]
  cases hm : m[j]? with
  | none => simp [tokAt, hm]
  | some y =>
    have hlt : j < l.length := by rw [hlen]; exact (List.getElem?_eq_some_iff.1 hm).1
    have hl := List.getElem?_eq_getElem hlt
    obtain ⟨u', hf, _⟩ := hs j _ y hl hm
    generalize l[j] = x at hf hl
    cases hf with
    | own k i e es hlv hu => simp only [tokAt, hl, hm]; rw [← h.live]; exact hlv
    | _ => simp [tokAt, hl, hm]
end Go.Proofs.YtcddclkccpfdkaaDoor.EV
