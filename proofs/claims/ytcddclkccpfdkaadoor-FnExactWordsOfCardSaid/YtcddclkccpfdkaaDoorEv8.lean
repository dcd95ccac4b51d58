/- New variables, stores, slice literals. -/
import Derived.Test.YtcddclkccpfdkaaDoorEv7
import Derived.Laws.CopyOwn
set_option linter.unusedSimpArgs false
set_option linter.unusedVariables false
namespace Go.Proofs.YtcddclkccpfdkaaDoor.EV
open Go.RowKit
variable {P : Program} {κ0 κ : Ctx} {w w0 : World} {E : Env} {a : Act}

/-- slot k is made anew -/
def Ctx.drop (κ : Ctx) (k : Nat) : Ctx := { κ with box := fun q => if q = k then none else κ.box q, tok := fun q j => if q = k then none else κ.tok q j }
def Ctx.withBox (κ : Ctx) (k g : Nat) : Ctx := { κ with box := fun q => if q = k then some g else κ.box q, tok := fun q j => if q = k then none else κ.tok q j }
theorem Le.withBox (κ : Ctx) (k g : Nat) : Le κ (κ.withBox k g) (some k) := ⟨fun _ _ h => h, fun _ _ h => h, fun q g' hq h => by simp only [Ctx.withBox]; rw [if_neg (by simpa using hq)]; exact h, fun q j τ hq h => by simp only [Ctx.withBox] at h; rw [if_neg (by simpa using hq)] at h; exact ⟨τ, h, .inl rfl⟩⟩
theorem Le.drop (κ : Ctx) (k : Nat) : Le κ (κ.drop k) (some k) := ⟨fun _ _ h => h, fun _ _ h => h, fun q g' hq h => by simp only [Ctx.drop]; rw [if_neg (by simpa using hq)]; exact h, fun q j τ hq h => by simp only [Ctx.drop] at h; rw [if_neg (by simpa using hq)] at h; exact ⟨τ, h, .inl rfl⟩⟩

theorem WI.drop {base : Nat} (h : WI P κ base w) (k : Nat) : WI P (κ.drop k) base w where
  cs := h.cs
  cp := h.cp
  box q g hg := by simp only [Ctx.drop] at hg; split at hg; cases hg; exact h.box q g hg
  boxi q q' g hg hg' := by simp only [Ctx.drop] at hg hg'; split at hg; cases hg; split at hg'; cases hg'; exact h.boxi q q' g hg hg'
  tok q j τ ht := by simp only [Ctx.drop] at ht; split at ht; cases ht; exact h.tok q j τ ht
  tokc q j τ ht := by simp only [Ctx.drop] at ht; split at ht; cases ht; exact h.tokc q j τ ht
  toki q j τ q' j' τ' ht ht' := by simp only [Ctx.drop] at ht ht'; split at ht; cases ht; split at ht'; cases ht'; exact h.toki q j τ q' j' τ' ht ht'
  tokb q j τ q' g ht hg := by simp only [Ctx.drop] at ht hg; split at ht; cases ht; split at hg; cases hg; exact h.tokb q j τ q' g ht hg

theorem WI.newBox {base : Nat} (h : WI P κ base w) (hb : base ≤ w.heap.size) (k : Nat) (o : Obj) : WI P (κ.withBox k w.heap.size) base (w.alloc o) := by
  have hg := h.grow (w' := w.alloc o) (by simp) (fun q hq => heap_alloc_old w o hq)
  refine ⟨hg.cs, hg.cp, ?_, ?_, ?_, ?_, ?_, ?_⟩
  · intro q g hq
    simp only [Ctx.withBox] at hq
    split at hq
    · simp only [Option.some.injEq] at hq; subst hq
      refine ⟨hb, by simp, fun ad v had => ⟨fun hc => ?_, fun hc => ?_⟩⟩
      · have := cell_lt (h.cs ad v hc); omega
      · have := cell_lt (h.cp ad v hc); omega
    · exact hg.box q g hq
  · intro q q' g hq hq'
    simp only [Ctx.withBox] at hq hq'
    split at hq
    · simp only [Option.some.injEq] at hq; subst hq
      split at hq'
      · simp_all
      · have := (h.box q' _ hq').2.1; omega
    · split at hq'
      · simp only [Option.some.injEq] at hq'; subst hq'
        have := (h.box q _ hq).2.1; omega
      · exact h.boxi q q' g hq hq'
  · intro q j τ ht
    simp only [Ctx.withBox] at ht
    split at ht
    · cases ht
    · exact hg.tok q j τ ht
  · intro q j τ ht
    simp only [Ctx.withBox] at ht
    split at ht
    · cases ht
    · exact h.tokc q j τ ht
  · intro q j τ q' j' τ' ht ht'
    simp only [Ctx.withBox] at ht ht'
    split at ht
    · cases ht
    · split at ht'
      · cases ht'
      · exact h.toki q j τ q' j' τ' ht ht'
  · intro q j τ q' g ht hq
    simp only [Ctx.withBox] at ht hq
    split at ht
    · cases ht
    · split at hq
      · simp only [Option.some.injEq] at hq; subst hq
        obtain ⟨_, _, _, _, _, cur, hc, _⟩ := h.tok q j τ ht
        have := tok_lt hc
        omega
      · exact h.tokb q j τ q' g ht hq

theorem SR.clean {κ' : Ctx} {w' : World} {t k : Nat} (hl : Le κ κ' (some k)) (hb : ∀ g, κ.box t = some g → g < w.heap.size → w'.heap[g]? = w.heap[g]?) (ht : t ≠ k) {x : AV} {v : Value} (h : SR κ w t x v) : SR κ' w' t (EV.clean k x) v := by
  cases h with
  | val h => exact .val (h.clean hl)
  | cell hx hbx hh hc h1 =>
    have hxv : ∀ g, boxVal (EV.clean k x) g = boxVal x g := by intro g; cases x <;> first | rfl | cases hx
    rw [← hxv]
    refine .cell (cs := _) ?_ (hl.box _ _ (by simpa using ht) hbx) (by rw [hb _ hbx (Array.getElem?_eq_some_iff.1 hh).1]; exact hh) (hc.map_left fun _ _ h => h.clean hl) h1
    cases x <;> first | (cases hx; rfl) | cases hx

/-- a new variable in slot k -/
theorem FR.newBox (h : FR P κ0 κ w0 E a w) {k T : Nat} {x : AV} {cs : List AV} {vs : List Value} (hx : cellOf x = some cs) (hc : All2 (CR0 (κ.withBox k w.heap.size)) cs vs) (h1 : ∀ y ∈ vs, y.oneCell' = true) :
    FR P κ0 (κ.withBox k w.heap.size) w0 ((E.clean k).put (some k) x) (a.put (some k) (boxVal x w.heap.size)) (w.alloc (.cells vs.toArray T)) := by
  have hl := Le.withBox κ k w.heap.size
  refine ⟨h.defers, by simp [Act.put, Env.put, Env.clean, h.size], fun t y hy => ?_, fun q j => ?_, h.wi.newBox h.bl.size k _, h.bl.alloc h.bl.size _, h.cs0, h.cs1, h.cp0⟩
  · simp only [Env.put, Act.put, Env.clean, List.set_set] at hy ⊢
    by_cases ht : k = t
    · subst ht
      have hlt := (List.getElem?_eq_some_iff.1 hy).1
      simp only [List.length_set, List.length_map] at hlt
      rw [List.getElem?_set_self (by simpa using hlt)] at hy
      simp only [Option.some.injEq] at hy; subst hy
      exact ⟨boxVal x w.heap.size, by simp [h.size, hlt], .cell hx (by simp [Ctx.withBox]) (heap_alloc_new w _) hc h1⟩
    · rw [List.getElem?_set_ne ht, List.getElem?_map] at hy
      cases hx' : E.s[t]? with
      | none => simp [hx'] at hy
      | some x =>
        simp only [hx', Option.map_some, Option.some.injEq] at hy; subst hy
        obtain ⟨u, hu, hs⟩ := h.slots t x hx'
        exact ⟨u, by rw [Array.getElem?_setIfInBounds_ne ht]; exact hu, hs.clean hl (fun g _ hg => heap_alloc_old w _ hg) (Ne.symm ht)⟩
  · simp only [Env.put, Env.clean, Ctx.withBox]
    split
    · rfl
    · exact h.live q j

theorem newVar_run (T : Nat) (v : Value) (w : World) : (newVar T v).run P w = .ok ⟨w.heap.size, 0, none⟩ (w.alloc (.cells v.cells T)) := rfl

theorem WI.setRow {base g T : Nat} {cur : Array Value} (h : WI P κ base w) {k : Nat} (hk : κ.box k = some g) (hh : w.heap[g]? = some (.cells cur T (0, 0))) (cs : Array Value) : WI P κ base (w.setRow g cs) where
  cs a v hc := by rw [cell_setRow_other _ _ _ _ (fun he => ((h.box k g hk).2.2 a v he).1 hc)]; exact h.cs a v hc
  cp a v hc := by rw [cell_setRow_other _ _ _ _ (fun he => ((h.box k g hk).2.2 a v he).2 hc)]; exact h.cp a v hc
  box q g' hg := by have := h.box q g' hg; simpa using this
  boxi := h.boxi
  tok q j τ ht := by
    obtain ⟨h1, h2, h3, h4, hz, cur', h5, h6⟩ := h.tok q j τ ht
    exact ⟨h1, h2, h3, h4, hz, cur', by rw [setRow_other _ _ _ _ (h.tokb q j τ k g ht hk)]; exact h5, h6⟩
  tokc := h.tokc
  toki := h.toki
  tokb := h.tokb

/-- a store into the variable of slot k -/
theorem FR.setBox (h : FR P κ0 κ w0 E a w) {k g T : Nat} {x : AV} {cs cs' : List AV} {vs vs' : List Value} (hb : κ.box k = some g) (hh : w.heap[g]? = some (.cells vs.toArray T (0, 0))) (hs : E.s[k]? = some x) (hx : cellOf x = some cs)
    (hc : All2 (CR0 κ) cs' vs') (h1 : ∀ y ∈ vs', y.oneCell' = true) : FR P κ0 κ w0 (E.put (some k) (setCellOf cs' x)) (a.put none undef) (w.setRow g vs'.toArray) := by
  refine ⟨h.defers, by simp [Act.put, Env.put, h.size], fun t y hy => ?_, h.live, h.wi.setRow hb hh _, below_setRow h.bl (h.wi.box k g hb).1 _, h.cs0, h.cs1, h.cp0⟩
  simp only [Env.put, Act.put] at hy ⊢
  by_cases ht : k = t
  · subst ht
    have hlt := (List.getElem?_eq_some_iff.1 hs).1
    rw [List.getElem?_set_self hlt] at hy
    simp only [Option.some.injEq] at hy; subst hy
    obtain ⟨u, hu, hsr⟩ := h.slots k _ hs
    refine ⟨u, hu, ?_⟩
    cases hsr with
    | val h =>
      cases x with
      | cell cs => exact h.cell_inv.elim
      | row n s cs => exact h.row_inv.elim
      | _ => cases hx
    | cell _ hb' _ _ _ =>
      rw [hb] at hb'; cases hb'
      have hxv : boxVal (setCellOf cs' x) g = boxVal x g := by cases x <;> rfl
      rw [← hxv]
      exact .cell (by cases x <;> rfl) hb (setRow_heap w g _ _ T (0, 0) hh) hc h1
  · rw [List.getElem?_set_ne ht] at hy
    obtain ⟨u, hu, hsr⟩ := h.slots t y hy
    refine ⟨u, hu, ?_⟩
    cases hsr with
    | val h => exact .val h
    | cell hx' hb' hh' hc' h1' =>
      exact .cell hx' hb' ((setRow_other _ _ _ _ (fun he => ht (by subst he; exact h.wi.boxi k t _ hb hb'))).trans hh') hc' h1'

theorem plain1_sound {x y : AV} {v : Value} (h : CR0 κ x v) (hp : plain1 x = some y) : PR κ.Cs y v := by
  cases h with
  | lit v =>
    simp only [plain1] at hp
    split at hp
    · rename_i h1; simp only [Option.some.injEq] at hp; subst hp; exact .lit v h1
    · cases hp
  | sl h ho => simp only [plain1, Option.some.injEq] at hp; subst hp; exact h.pr
  | loc h => simp [plain1] at hp
  | mrow h => simp [plain1] at hp
  | eptr h hc => simp [plain1] at hp
  | junk v => simp [plain1] at hp
theorem plainL_sound : ∀ {l m : List AV} {vs : List Value}, All2 (CR0 κ) l vs → plainL l = some m → All2 (PR κ.Cs) m vs := by
  intro l
  induction l with
  | nil =>
    intro m vs h hp
    simp only [plainL, Option.some.injEq] at hp; subst hp
    cases h.nil_inv
    exact All2.nil
  | cons x l ih =>
    intro m vs h hp
    obtain ⟨v, vs', rfl, hx, hr⟩ := h.cons_inv
    simp only [plainL] at hp
    split at hp
    · rename_i y l' hy hl'
      simp only [Option.some.injEq] at hp; subst hp
      exact All2.cons (plain1_sound hx hy) (ih hr hl')
    · cases hp
theorem plain1_one {x y : AV} (h : plain1 x = some y) : x.one = true := by
  unfold plain1 at h
  split at h
  · split at h
    · assumption
    · cases h
  · rfl
  · cases h
theorem plainL_one : ∀ {l m : List AV}, plainL l = some m → l.all AV.one = true ∧ m.length = l.length := by
  intro l
  induction l with
  | nil => intro m h; simp only [plainL, Option.some.injEq] at h; subst h; simp
  | cons x l ih =>
    intro m h
    simp only [plainL] at h
    split at h
    · rename_i y l' hy hl'
      simp only [Option.some.injEq] at h; subst h
      obtain ⟨h1, h2⟩ := ih hl'
      exact ⟨by simp only [List.all_cons, plain1_one hy, h1, Bool.and_self], by simp [h2]⟩
    · cases h

/-- more cells that nobody writes -/
def Ctx.withRow (κ : Ctx) (g : Nat) (vs : List Value) : Ctx := { κ with Cs := fun a v => κ.Cs a v ∨ (a.block = g ∧ a.spot = none ∧ vs[a.off]? = some v) }
theorem Le.withRow (κ : Ctx) (g : Nat) (vs : List Value) : Le κ (κ.withRow g vs) none := ⟨fun _ _ h => .inl h, fun _ _ h => h, fun _ _ _ h => h, fun _ _ τ _ h => ⟨τ, h, .inl rfl⟩⟩
theorem SR.mono {κ' : Ctx} {w' : World} {t : Nat} (hl : Le κ κ' none) (hb : ∀ g, κ.box t = some g → g < w.heap.size → w'.heap[g]? = w.heap[g]?) {x : AV} {v : Value} (h : SR κ w t x v) : SR κ' w' t x v := by
  cases h with
  | val h => exact .val (h.mono hl)
  | cell hx hbx hh hc h1 => exact .cell hx (hl.box _ _ (by simp) hbx) ((hb _ hbx (Array.getElem?_eq_some_iff.1 hh).1).trans hh) (hc.imp fun _ _ h => h.mono hl) h1

theorem WI.newRow {base T : Nat} (h : WI P κ base w) (vs : List Value) : WI P (κ.withRow w.heap.size vs) base (w.alloc (.cells vs.toArray T)) := by
  have hg := h.grow (w' := w.alloc (.cells vs.toArray T)) (by simp) (fun q hq => heap_alloc_old w _ hq)
  have hnew : (w.alloc (.cells vs.toArray T)).heap[w.heap.size]? = some (.cells vs.toArray T (0, 0)) := heap_alloc_new w _
  refine ⟨?_, hg.cp, ?_, hg.boxi, hg.tok, ?_, hg.toki, hg.tokb⟩
  · rintro ⟨b, off, spot⟩ v (hc | ⟨h1, h2, h3⟩)
    · exact hg.cs _ v hc
    · simp only at h1 h2 h3; subst h1; subst h2
      exact cell_block hnew h3
  · intro q g hq
    obtain ⟨h1, h2, h3⟩ := hg.box q g hq
    have hlt := (h.box q g hq).2.1
    refine ⟨h1, h2, fun ad v had => ⟨?_, (h3 ad v had).2⟩⟩
    rintro (hc | ⟨h4, _, _⟩)
    · exact (h3 ad v had).1 hc
    · omega
  · intro q j τ ht ad v had
    obtain ⟨_, _, _, _, _, cur, hc, _⟩ := h.tok q j τ ht
    have hlt := tok_lt hc
    refine ⟨?_, (h.tokc q j τ ht ad v had).2⟩
    rintro (hc | ⟨h4, _, _⟩)
    · exact (h.tokc q j τ ht ad v had).1 hc
    · omega

/-- a slice literal -/
theorem FR.newRow (h : FR P κ0 κ w0 E a w) {d T k : Nat} {es : List (List AV)} {vs : List Value} (hk : ∀ x ∈ es, x.length = k) (hc : All2 (PR κ.Cs) es.flatten vs) :
    FR P κ0 (κ.withRow w.heap.size vs) w0 (E.put (some d) (.sl .ex es)) (a.put (some d) (.slice (some ⟨w.heap.size, 0, none⟩) es.length es.length)) (w.alloc (.cells vs.toArray T)) := by
  have hl := Le.withRow κ w.heap.size vs
  have h' : FR P κ0 (κ.withRow w.heap.size vs) w0 E a (w.alloc (.cells vs.toArray T)) := by
    refine ⟨h.defers, h.size, fun t x hx => ?_, h.live, h.wi.newRow vs, h.bl.alloc h.bl.size _, fun ad v hc => .inl (h.cs0 ad v hc), ?_, h.cp0⟩
    · obtain ⟨u, hu, hs⟩ := h.slots t x hx
      exact ⟨u, hu, hs.mono hl (fun g _ hg => heap_alloc_old w _ hg)⟩
    · rintro ad v (hc | ⟨h1, _, _⟩)
      · exact h.cs1 ad v hc
      · have := h.bl.size; exact .inr (by omega)
  refine h'.put (some d) (.c0 (.sl ⟨k, vs, hk, Nat.le_refl _, hc.imp fun _ _ h => h.mono hl.cs, fun j y hy => ⟨_, rfl, ?_⟩⟩ rfl))
  rw [plain_add]
  exact .inr ⟨rfl, rfl, by simpa using hy⟩

theorem chunk_fill {P : Program} {κ : Ctx} {e n : Nat} (hn : sizeA P e = some n) : ∀ (parts : List (Nat × AV)) (vparts : List (Nat × Value)) (i : Nat) (es : List (List AV)) (Z : List Value),
    All2 (fun (p : Nat × AV) (q : Nat × Value) => p.1 = q.1 ∧ VR κ p.2 q.2) parts vparts → chunk1 P e parts i = some es → Z.length = (i + es.length) * n →
    ∃ vs : List Value, Instr.fill (fun i => some (i * n, n)) Z.toArray vparts = some (Z.take (i * n) ++ vs).toArray ∧ All2 (PR κ.Cs) es.flatten vs ∧ ∀ x ∈ es, x.length = n := by
  intro parts
  induction parts with
  | nil =>
    intro vparts i es Z hp h hZ
    cases hp.nil_inv
    unfold chunk1 at h
    simp only [hn, Option.some.injEq] at h; subst h
    refine ⟨[], ?_, All2.nil, by simp⟩
    simp only [Instr.fill, List.append_nil]
    rw [List.take_of_length_le (by rw [hZ]; simp)]
  | cons p parts ih =>
    intro vparts i es Z hp h hZ
    obtain ⟨⟨j, v⟩, vp, rfl, ⟨hj, hv⟩, hr⟩ := hp.cons_inv
    obtain ⟨j', x⟩ := p
    simp only at hj hv; subst hj
    unfold chunk1 at h
    simp only [hn] at h
    split at h
    · rename_i hcond
      obtain ⟨rfl, hlen⟩ := hcond
      split at h
      · rename_i c r hc hr'
        simp only [Option.some.injEq] at h; subst h
        obtain ⟨h1, h2⟩ := plainL_one hc
        obtain ⟨us, hus, ha, _⟩ := hv.cells h1
        have hul : us.length = n := by rw [← ha.1]; exact hlen
        simp only [List.length_cons] at hZ
        have hmul : (j' + (r.length + 1)) * n = j' * n + n + r.length * n := by rw [Nat.add_mul, Nat.succ_mul]; omega
        obtain ⟨vs, hvs, hva, hvl⟩ := ih vp (j' + 1) r (Z.take (j' * n) ++ us ++ Z.drop (j' * n + us.length)) hr hr' (by simp; rw [Nat.add_mul, Nat.add_mul]; omega)
        refine ⟨us ++ vs, ?_, ?_, ?_⟩
        · rw [Instr.fill]
          simp only [hus]
          rw [if_neg (by simp; omega)]
          simp only [← Array.foldl_toList, Array.toList_zipIdx]
          rw [foldl_set us Z (j' * n) 0 (by omega)]
          simp only [Nat.add_zero]
          rw [hvs]
          have hA : (Z.take (j' * n) ++ us).length = (j' + 1) * n := by
            rw [List.length_append, List.length_take, Nat.min_eq_left (by omega), Nat.succ_mul, hul]
          rw [List.take_left' hA]
          simp
        · rw [List.flatten_cons]; exact (plainL_sound ha hc).append hva
        · intro y hy
          rcases List.mem_cons.1 hy with rfl | hy
          · rw [h2]; exact hlen
          · exact hvl y hy
      · cases h
    · cases h
end Go.Proofs.YtcddclkccpfdkaaDoor.EV
