/- Conversions, struct values, loads. -/
import Derived.Test.YtcddclkccpfdkaaDoorEv4
import Derived.Laws.BytesArg
import Derived.Laws.BytesString
set_option linter.unusedSimpArgs false
set_option linter.unusedVariables false
namespace Go.Proofs.YtcddclkccpfdkaaDoor.EV
open Go.RowKit
variable {P : Program} {κ : Ctx} {w : World}

theorem byteOf_sound {C : Addr → Value → Prop} {x : AV} {v : Value} {b : UInt8} (hx : PR C x v) (h : byteOf x = some b) : ∃ n : Int, v = .int .u8 n ∧ b = UInt8.ofNat n.toNat := by
  unfold byteOf at h
  split at h
  · cases hx
    simp only [Option.some.injEq] at h
    exact ⟨_, rfl, h.symm⟩
  · cases h
theorem bytes_nums : ∀ (es : List (List AV)) (l : List UInt8) (vs : List Value) (C : Addr → Value → Prop), bytesOfA es = some l → All2 (PR C) es.flatten vs →
    ∃ ns : List Int, vs = ns.map (Value.int .u8) ∧ l = ns.map (fun n => UInt8.ofNat n.toNat) := by
  intro es
  induction es with
  | nil =>
    intro l vs C h hv
    simp [bytesOfA] at h; subst h
    exact ⟨[], All2.nil_inv (by simpa using hv), rfl⟩
  | cons e es ih =>
    intro l vs C h hv
    match e, h with
    | [x], h =>
      simp only [bytesOfA] at h
      split at h
      · rename_i b r hb hr
        simp only [Option.some.injEq] at h; subst h
        obtain ⟨y, vs', rfl, hy, hvs⟩ := All2.cons_inv (by simpa using hv)
        obtain ⟨n, rfl, rfl⟩ := byteOf_sound hy hb
        obtain ⟨ns, rfl, rfl⟩ := ih r vs' C hr hvs
        exact ⟨n :: ns, rfl, rfl⟩
      · cases h
    | [], h => simp [bytesOfA] at h
    | _ :: _ :: _, h => simp [bytesOfA] at h
theorem convA_sound {src dst : TypeId} {x r : AV} {vx : Value} (hcs : ∀ a v, κ.Cs a v → w.cell? a = some v) (hx : VR κ x vx) (h : convA P src dst x = some r) : ∃ v, (convert src dst vx).run P w = .ok v w ∧ VR κ r v := by
  unfold convA at h
  split at h
  · rename_i d k k' n hs hd
    cases hx.lit_inv
    simp only [Option.some.injEq] at h; subst h
    refine ⟨_, ?_, .lit _ _⟩
    simp only [convert, Sem.run_bind, underlying_run hs, underlying_run hd, Result.andThen_ok, Conv.intToInt, Sem.run_pure]
  · rename_i d s hs hd
    cases hx.lit_inv
    simp only [Option.some.injEq] at h; subst h
    refine ⟨_, ?_, .lit _ _⟩
    simp only [convert, Sem.run_bind, underlying_run hs, underlying_run hd, Result.andThen_ok, Sem.run_pure]
  · rename_i e o es hs hd
    split at h
    · rename_i he
      cases hb : bytesOfA es with
      | none => simp [hb] at h
      | some l =>
        simp [hb] at h; subst h
        obtain ⟨A, c, rfl, hsl, _⟩ := hx.sl_inv
        have h1 : ∀ (es : List (List AV)) l, bytesOfA es = some l → (∀ x ∈ es, x.length = 1) ∧ l.length = es.length := by
          intro es
          induction es with
          | nil => intro l h; simp [bytesOfA] at h; subst h; simp
          | cons e es ih =>
            intro l h
            match e, h with
            | [x], h =>
              simp only [bytesOfA] at h
              split at h
              · rename_i b r hb hr
                simp only [Option.some.injEq] at h; subst h
                obtain ⟨i1, i2⟩ := ih r hr
                exact ⟨fun y hy => by rcases List.mem_cons.1 hy with rfl | hy; rfl; exact i1 y hy, by simp [i2]⟩
              · cases h
            | [], h => simp [bytesOfA] at h
            | _ :: _ :: _, h => simp [bytesOfA] at h
        obtain ⟨h1, h2⟩ := h1 es l hb
        obtain ⟨vs, _, hv, hvl, hc⟩ := hsl.at_size h1
        refine ⟨_, ?_, .lit _ _⟩
        simp only [convert, Sem.run_bind, underlying_run hs, underlying_run hd, Result.andThen_ok, underlying_run he]
        cases A with
        | none =>
          have : vs = [] := by
            cases vs with
            | nil => rfl
            | cons y vs => obtain ⟨a, ha, _⟩ := hc 0 y rfl; cases ha
          subst this
          have hl0 : l = [] := List.eq_nil_of_length_eq_zero (by simp at hvl; omega)
          subst hl0
          rfl
        | some a =>
          have hld := run_loadCells_list (P := P) (w := w) a vs (fun j v hj => by obtain ⟨a', ha, hc'⟩ := hc j v hj; cases ha; exact hcs _ _ hc')
          have hlen : es.length = vs.length := by omega
          obtain ⟨ns, rfl, rfl⟩ := bytes_nums es l vs κ.Cs hb hv
          rw [run_bytesToString w a es.length c ns (by rw [hlen]; exact hld), foldl_push_bytes]
          simp [ByteArray.empty, ByteArray.emptyWithCapacity]
          rfl
    · cases h
  · cases h

theorem CR0.one {x : AV} {v : Value} (h : CR0 κ x v) (h1 : x.one = true) : v.oneCell' = true := by
  cases h <;> first | exact h1 | rfl | (simp [AV.one] at h1)
theorem VR.cells {x : AV} {v : Value} (h : VR κ x v) (h1 : x.cells.all AV.one = true) : ∃ vs : List Value, v.cells = vs.toArray ∧ All2 (CR0 κ) x.cells vs ∧ (∀ y ∈ vs, y.oneCell' = true) := by
  cases h with
  | a h => cases h with
    | c h => cases h with
      | c0 h =>
        have hx : x.cells = [x] := by cases h <;> rfl
        rw [hx] at h1 ⊢
        have h2 : v.oneCell' = true := h.one (by simpa using h1)
        have hv : v.cells = #[v] := by cases v <;> first | rfl | (simp [Value.oneCell'] at h2)
        exact ⟨[v], hv, All2.cons h All2.nil, by simpa using h2⟩
      | fn h => simp [AV.cells, AV.one] at h1
    | agg h =>
      refine ⟨_, rfl, h, fun y hy => ?_⟩
      obtain ⟨j, hj⟩ := List.getElem?_of_mem hy
      have hlt : j < _ := (List.getElem?_eq_some_iff.1 hj).1
      rw [← h.1] at hlt
      have hx := List.getElem?_eq_getElem hlt
      exact (h.2 j _ _ hx hj).one (by simp only [AV.cells, List.all_eq_true] at h1; exact h1 _ (List.getElem_mem hlt))
  | tup h => simp [AV.cells, AV.one] at h1

theorem setCells_len {cs news : List AV} {off : Nat} (h : off + news.length ≤ cs.length) : (setCells cs off news).length = cs.length := by simp [setCells]; omega
theorem All2.setCells {R : AV → Value → Prop} {cs news : List AV} {vs us : List Value} {off : Nat} (h : All2 R cs vs) (hn : All2 R news us) : All2 R (setCells cs off news) (vs.take off ++ us ++ vs.drop (off + us.length)) := by
  unfold EV.setCells
  rw [← hn.1]
  exact ((h.take off).append hn).append (h.drop _)
theorem foldl_set (us : List Value) : ∀ (vs : List Value) (off i : Nat), off + i + us.length ≤ vs.length →
    (us.zipIdx i).foldl (fun (cs : Array Value) (p : Value × Nat) => cs.setIfInBounds (off + p.2) p.1) vs.toArray = (vs.take (off + i) ++ us ++ vs.drop (off + i + us.length)).toArray := by
  induction us with
  | nil => intro vs off i _; simp
  | cons u us ih =>
    intro vs off i h
    simp only [List.length_cons] at h
    rw [List.zipIdx_cons, List.foldl_cons]
    simp only [List.setIfInBounds_toArray]
    rw [ih (vs.set (off + i) u) off (i + 1) (by simp; omega)]
    congr 1
    have hlt : off + i < vs.length := by omega
    have e1 : (vs.set (off + i) u).take (off + (i + 1)) = vs.take (off + i) ++ [u] := by
      rw [List.set_eq_take_append_cons_drop, if_pos hlt, List.take_append, List.length_take, Nat.min_eq_left (by omega), List.take_take]
      rw [show off + (i + 1) - (off + i) = 1 by omega, Nat.min_eq_right (by omega)]
      simp
    have e2 : (vs.set (off + i) u).drop (off + (i + 1) + us.length) = vs.drop (off + i + (us.length + 1)) := by
      rw [List.drop_set_of_lt (by omega)]
      congr 1; omega
    rw [e1, e2]
    simp
theorem zeroA_sound {t : TypeId} {z : List AV} (h : zeroA P t = some z) (w : World) : ∃ zv : Value, (zeroValue t).run P w = .ok zv w ∧ All2 (CR0 κ) z zv.cells.toList := by
  unfold zeroA at h
  cases hi : P.info? t with
  | none => simp [hi] at h
  | some i =>
    cases hz : i.zero with
    | none => simp [hi, hz] at h
    | some zv =>
      simp [hi, hz] at h; subst h
      refine ⟨zv, by simp [zeroValue, typeInfo, hi, hz], ?_⟩
      refine All2.map_left (R := fun x y => x = y) (fun x y he => ?_) ⟨rfl, fun j x y hx hy => by rw [hx] at hy; cases hy; rfl⟩
      subst he
      unfold ofConst
      split
      · exact .sl (es := []) (SlR.nil _ _ _) rfl
      · exact .lit _
theorem fillA_sound {place : Nat → Option (Nat × Nat)} {place' : Nat → Option (Nat × Nat)} (hp : ∀ i p, place i = some p → place' i = some p) : ∀ (parts : List (Nat × AV)) (vparts : List (Nat × Value)) (cs : List AV) (vs : List Value) (r : List AV),
    All2 (fun (p : Nat × AV) (q : Nat × Value) => p.1 = q.1 ∧ VR κ p.2 q.2) parts vparts → All2 (CR0 κ) cs vs → fillA place cs parts = some r → ∃ us : List Value, Instr.fill place' vs.toArray vparts = some us.toArray ∧ All2 (CR0 κ) r us := by
  intro parts
  induction parts with
  | nil =>
    intro vparts cs vs r hpv hc h
    cases hpv.nil_inv
    simp [fillA] at h; subst h
    exact ⟨vs, rfl, hc⟩
  | cons p parts ih =>
    intro vparts cs vs r hpv hc h
    obtain ⟨⟨i, v⟩, vp, rfl, ⟨rfl, hv⟩, hr⟩ := hpv.cons_inv
    obtain ⟨j, x⟩ := p
    simp only [fillA] at h
    split at h
    · cases h
    · rename_i off size hpl
      split at h
      · rename_i hcond
        obtain ⟨h1, h2, h3⟩ := hcond
        obtain ⟨us, hus, ha, ho⟩ := hv.cells h3
        obtain ⟨r', hr', har⟩ := ih vp _ _ r hr (hc.setCells ha) h
        refine ⟨r', ?_, har⟩
        rw [Instr.fill]
        simp only [hp _ _ hpl, hus]
        have hl : us.length = size := by rw [← ha.1]; exact h1
        have hvl : cs.length = vs.length := hc.1
        rw [if_neg (by simp; omega)]
        simp only [← Array.foldl_toList, Array.toList_zipIdx]
        rw [foldl_set us vs off 0 (by omega)]
        exact hr'
      · cases h
theorem fieldA_spec {t f ft off : Nat} (h : fieldA P t f = some (ft, off)) : ∃ fs fd, P.underlying t = some (.struct fs) ∧ fs[f]? = some fd ∧ fd.type = ft ∧ fd.offset = off := by
  unfold fieldA at h
  split at h
  · rename_i fs ht
    cases hf : fs[f]? with
    | none => simp [hf] at h
    | some fd => simp [hf] at h; exact ⟨fs, fd, ht, hf, h.1, h.2⟩
  · cases h
end Go.Proofs.YtcddclkccpfdkaaDoor.EV
