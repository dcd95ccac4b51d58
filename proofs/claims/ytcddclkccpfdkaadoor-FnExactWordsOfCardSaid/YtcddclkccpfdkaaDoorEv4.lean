/- Slices and addresses. -/
import Derived.Test.YtcddclkccpfdkaaDoorEv3
set_option linter.unusedSimpArgs false
set_option linter.unusedVariables false
namespace Go.Proofs.YtcddclkccpfdkaaDoor.EV
open Go.RowKit
variable {P : Program} {κ : Ctx} {w : World}

theorem add_add (a : Addr) (m n : Nat) : (a.add m).add n = a.add (m + n) := by
  unfold Addr.add
  by_cases hm : m = 0 <;> by_cases hn : n = 0 <;> simp [hm, hn, Nat.add_assoc]
theorem add_zero (a : Addr) : a.add 0 = a := by simp [Addr.add]
theorem flatten_drop {k : Nat} : ∀ (es : List (List AV)) (i : Nat), (∀ x ∈ es, x.length = k) → (es.drop i).flatten = es.flatten.drop (i * k)
  | es, 0, _ => by simp
  | [], i + 1, _ => by simp
  | e :: es, i + 1, h => by
    have he : e.length = k := h e (by simp)
    rw [List.drop_succ_cons, flatten_drop es i (fun x hx => h x (by simp [hx])), List.flatten_cons, List.drop_append]
    rw [show (i + 1) * k = e.length + i * k by rw [he, Nat.succ_mul]; omega]
    simp
theorem flatten_take {k : Nat} : ∀ (es : List (List AV)) (i : Nat), (∀ x ∈ es, x.length = k) → (es.take i).flatten = es.flatten.take (i * k)
  | es, 0, _ => by simp
  | [], i + 1, _ => by simp
  | e :: es, i + 1, h => by
    have he : e.length = k := h e (by simp)
    rw [List.take_succ_cons, List.flatten_cons, flatten_take es i (fun x hx => h x (by simp [hx])), List.flatten_cons, List.take_append]
    rw [show (i + 1) * k = e.length + i * k by rw [he, Nat.succ_mul]; omega]
    rw [List.take_of_length_le (l := e) (by omega), Nat.add_sub_cancel_left]
theorem sized_spec {n : Nat} {es : List (List AV)} (h : sized n es = true) : ∀ x ∈ es, x.length = n := by simpa [sized] using h
theorem flatten_len {k : Nat} : ∀ (es : List (List AV)), (∀ x ∈ es, x.length = k) → es.flatten.length = es.length * k
  | [], _ => by simp
  | e :: es, h => by
    rw [List.flatten_cons, List.length_append, flatten_len es (fun x hx => h x (by simp [hx])), h e (by simp), List.length_cons, Nat.succ_mul]; omega

/-- with the size that is asked for -/
theorem SlR.at_size {C : Addr → Value → Prop} {es : List (List AV)} {A : Option Addr} {c n : Nat} (h : SlR C es A c) (hn : ∀ x ∈ es, x.length = n) :
    ∃ vs, es.length ≤ c ∧ All2 (PR C) es.flatten vs ∧ vs.length = es.length * n ∧ (∀ (j : Nat) y, vs[j]? = some y → ∃ a, A = some a ∧ C (a.add j) y) := by
  obtain ⟨k, vs, h1, h2, h3, h4⟩ := h.out
  exact ⟨vs, h2, h3, by rw [← h3.1, flatten_len es hn], h4⟩
theorem SlR.nil (C : Addr → Value → Prop) (A : Option Addr) (c : Nat) : SlR C [] A c := ⟨0, [], by simp, by simp, by simpa using All2.nil, fun j y h => by simp at h⟩

theorem PR.cr {x : AV} {v : Value} (h : PR κ.Cs x v) : CR0 κ x v := by
  cases h with
  | lit v h => exact .lit v
  | sl hk hc hl hv hA => exact .sl ⟨_, _, hk, hc, ⟨hl, hv⟩, hA⟩ trivial

theorem SlR.get {C : Addr → Value → Prop} {es : List (List AV)} {A : Option Addr} {c n i : Nat} {e : List AV} (h : SlR C es A c) (hi : es[i]? = some e) (hn : e.length = n) (h0 : 0 < n) :
    ∃ a vs, A = some a ∧ All2 (PR C) e vs ∧ (∀ (j : Nat) y, vs[j]? = some y → C ((a.add (i * n)).add j) y) := by
  obtain ⟨k, vs, h1, h2, h3, h4⟩ := h.out
  have hk : n = k := by rw [← hn]; exact h1 e (List.mem_of_getElem? hi)
  subst hk
  obtain ⟨hlt, he⟩ := List.getElem?_eq_some_iff.1 hi
  have hd : es.drop i = e :: es.drop (i + 1) := by rw [← he]; exact (List.drop_eq_getElem_cons hlt)
  have h5 := h3.drop (i * n)
  rw [← flatten_drop es i h1, hd, List.flatten_cons] at h5
  have h6 := h5.take n
  rw [List.take_append_of_le_length (by omega), List.take_of_length_le (by omega)] at h6
  have hlen : 0 < ((vs.drop (i * n)).take n).length := by rw [← h6.1]; omega
  have hy : ∀ (j : Nat) y, ((vs.drop (i * n)).take n)[j]? = some y → ∃ a, A = some a ∧ C ((a.add (i * n)).add j) y := fun j y hy => by
    rw [List.getElem?_take] at hy
    split at hy
    · rw [List.getElem?_drop] at hy
      obtain ⟨a, ha, hc⟩ := h4 _ _ hy
      exact ⟨a, ha, by rw [add_add]; exact hc⟩
    · cases hy
  obtain ⟨a, ha, _⟩ := hy 0 _ (List.getElem?_eq_getElem hlen)
  refine ⟨a, _, ha, h6, fun j y h => ?_⟩
  obtain ⟨a', ha', hc⟩ := hy j y h
  rw [ha] at ha'
  cases ha'
  exact hc

theorem ptrAdd_sound {x r : AV} {n : Nat} {v : Value} (hx : VR κ x v) (h : ptrAdd x n = some r) : ∃ a : Addr, v = .pointer (some a) ∧ VR κ r (.pointer (some (a.add n))) := by
  unfold ptrAdd at h
  split at h
  · rename_i k off
    simp only [Option.some.injEq] at h; subst h
    obtain ⟨g, rfl, hb⟩ := hx.loc_inv
    refine ⟨_, rfl, ?_⟩
    have : (⟨g, off, none⟩ : Addr).add n = ⟨g, off + n, none⟩ := by unfold Addr.add; split <;> simp_all
    rw [this]
    exact .c0 (.loc hb)
  · rename_i cs
    split at h
    · simp only [Option.some.injEq] at h; subst h
      obtain ⟨a, vs, rfl, h1, h2⟩ := hx.eptr_inv
      refine ⟨a, rfl, .c0 (.eptr (h1.drop n) fun j y hy => ?_)⟩
      rw [add_add]
      exact h2 _ _ (by simpa using hy)
    · cases h
  · cases h

theorem indexAddrA_sound {t : TypeId} {x i r : AV} {vx vi : Value} (hx : VR κ x vx) (hi : VR κ i vi) (h : indexAddrA P t x i = some r) (w : World) : ∃ v, (Instr.indexAt t vx vi).run P w = .ok v w ∧ VR κ r v := by
  unfold indexAddrA at h
  split at h
  · cases h
  · rename_i n hn
    obtain ⟨k, rfl⟩ := natA_sound hi hn
    split at h
    · rename_i e o es ht
      split at h
      · rename_i c sz hc hsz
        split at h
        · rename_i hcl
          simp only [Option.some.injEq] at h; subst h
          obtain ⟨A, cc, rfl, hs, _⟩ := hx.sl_inv
          obtain ⟨a, vs, rfl, hv, hcs⟩ := hs.get hc hcl.1 hcl.2
          have hlt : n < es.length := (List.getElem?_eq_some_iff.1 hc).1
          have hb : (0 : Int) ≤ (n : Int) ∧ (n : Int) < (es.length : Int) := by omega
          refine ⟨.pointer (some (a.add (n * sz))), ?_, .c0 (.eptr hv fun j y hy => .inr (hcs j y hy))⟩
          simp only [Instr.indexAt, asIntOf, Sem.run_bind, Sem.run_pure, underlying_run ht, Result.andThen_ok, Sem.run_ite, if_pos hb, sizeA_run hsz, Int.toNat_natCast]
        · cases h
      · cases h
    · rename_i e k m s ht
      split at h
      · rename_i hc
        simp only [Option.some.injEq] at h; subst h
        obtain ⟨g, rfl, hb'⟩ := hx.mrow_inv
        have hb : (0 : Int) ≤ (n : Int) ∧ (n : Int) < (m : Int) := by omega
        have : (⟨g, 0, none⟩ : Addr).add (n * s) = ⟨g, n * s, none⟩ := by unfold Addr.add; split <;> simp_all
        refine ⟨.pointer (some ⟨g, n * s, none⟩), ?_, .c0 (.loc hb')⟩
        simp only [Instr.indexAt, asIntOf, Sem.run_bind, Sem.run_pure, underlying_run ht, Result.andThen_ok, Sem.run_ite, if_pos hb, sizeA_run hc.2, Int.toNat_natCast, this]
      · cases h
    · rename_i len e ht
      split at h
      · rename_i sz hsz
        split at h
        · rename_i hlt
          obtain ⟨a, rfl, hr⟩ := ptrAdd_sound hx h
          have hb : (0 : Int) ≤ (n : Int) ∧ (n : Int) < (len : Int) := by omega
          refine ⟨_, ?_, hr⟩
          simp only [Instr.indexAt, Instr.sureAddr, asIntOf, Sem.run_bind, Sem.run_pure, underlying_run ht, Result.andThen_ok, Sem.run_ite, if_pos hb, sizeA_run hsz, Int.toNat_natCast]
        · cases h
      · cases h
    · cases h

theorem bound_run {k : IntKind} {n y : Nat} (h : n ≤ y) (code : BoundsCode) (w : World) : (Instr.sliceBound (.int k (n : Int)) y code).run P w = .ok n w := by
  have hb : (0 : Int) ≤ (n : Int) ∧ (n : Int) ≤ (y : Int) := by omega
  simp only [Instr.sliceBound, asIntOf, Sem.run_bind, Sem.run_pure, Result.andThen_ok, Sem.run_ite, if_pos hb, Int.toNat_natCast]
/-- bounds as values -/
inductive BndR : Option Value → Option Nat → Prop
  | none : BndR none none
  | some (k : IntKind) (n : Nat) : BndR (some (.int k (n : Int))) (some n)
theorem bounds_run {b : Bool} {len cap : Nat} {lo hi : Option Value} {l h : Option Nat} (hl : BndR lo l) (hh : BndR hi h) (h1 : l.getD 0 ≤ h.getD len) (h2 : h.getD len ≤ cap) (w : World) :
    (Instr.sliceBounds b len cap lo hi none).run P w = .ok (l.getD 0, h.getD len, cap) w := by
  cases hl <;> cases hh <;> simp only [Option.getD_none, Option.getD_some] at h1 h2 ⊢
  · simp [Instr.sliceBounds]
  · simp [Instr.sliceBounds, bound_run h2]
  · simp [Instr.sliceBounds, bound_run h1]
  · simp [Instr.sliceBounds, bound_run h1, bound_run h2]

theorem cutA_sound {t l : Nat} {h : Option Nat} {x r : AV} {vx : Value} {lo hi : Option Value} {l' : Option Nat} (hl : BndR lo l') (hl' : l'.getD 0 = l) (hh : BndR hi h) (hx : VR κ x vx) (hr : cutA P t x l h = some r) (w : World) :
    ∃ v, (Instr.sliceAt t vx lo hi none).run P w = .ok v w ∧ VR κ r v := by
  unfold cutA at hr
  subst hl'
  split at hr
  · rename_i s ht
    cases hx.lit_inv
    split at hr
    · rename_i hb
      simp only [Option.some.injEq] at hr; subst hr
      refine ⟨_, ?_, .lit _ _⟩
      simp only [Instr.sliceAt, Instr.slice, Sem.run_bind, underlying_run ht, Result.andThen_ok, Option.isSome_none, Bool.false_eq_true, if_false, Sem.run_ite, Sem.run_pure, bounds_run hl hh hb.1 hb.2]
    · cases hr
  · rename_i e o es ht
    split at hr
    · rename_i n hn
      split at hr
      · rename_i hb
        obtain ⟨hb1, hb2, hsz⟩ := hb
        simp only [Option.some.injEq] at hr; subst hr
        obtain ⟨A, c, rfl, hs, ho⟩ := hx.sl_inv
        have hcap : es.length ≤ c := let ⟨_, _, _, hc, _⟩ := hs.out; hc
        have hsp := sized_spec hsz
        obtain ⟨vs, _, hv, hvl, hcs⟩ := hs.at_size hsp
        generalize hL : l'.getD 0 = L at *
        generalize hH : h.getD es.length = H at *
        have hlen : ((es.take H).drop L).length = H - L := by simp; omega
        refine ⟨.slice (if c = L then A else A.map (·.add (L * n))) (H - L) (c - L), ?_, ?_⟩
        · have hbr := bounds_run (P := P) (b := true) (len := es.length) (cap := c) hl hh (by rw [hL, hH]; exact hb1) (by rw [hH]; omega) w
          rw [hL, hH] at hbr
          simp only [Instr.sliceAt, Instr.slice, Sem.run_bind, underlying_run ht, Result.andThen_ok, hbr, sizeA_run hn, Sem.run_pure]
        · rw [← hlen]
          refine .c0 (.sl ⟨n, (vs.take (H * n)).drop (L * n), ?_, by rw [hlen]; omega, ?_, ?_⟩ ?_)
          · intro x hx
            exact hsp x (List.mem_of_mem_take (List.mem_of_mem_drop hx))
          · rw [flatten_drop _ L (fun x hx => hsp x (List.mem_of_mem_take hx)), flatten_take _ H hsp]
            exact (hv.take _).drop _
          · intro j y hy
            rw [List.getElem?_drop, List.getElem?_take] at hy
            split at hy
            · rename_i hlt
              obtain ⟨a, rfl, hc⟩ := hcs _ _ hy
              have hne : c ≠ L := by
                intro he
                have : L * n + j < L * n := Nat.lt_of_lt_of_le hlt (Nat.mul_le_mul_right n (by omega))
                omega
              rw [if_neg hne]
              exact ⟨_, rfl, by rw [add_add]; exact hc⟩
            · cases hy
          · cases o with
            | sh => trivial
            | ex =>
              simp only [OwnOK] at ho
              unfold cutOwn
              simp only
              split
              · rename_i he
                show c - L = _
                rw [hlen]; omega
              · trivial
            | ow k j e' =>
              unfold cutOwn
              simp only
              split
              · rename_i he
                obtain ⟨h0, h1⟩ := he
                subst h0
                intro τ ht'
                have := ho τ ht'
                rw [hlen, h1]
                simp only [Nat.sub_zero, Nat.zero_mul]
                refine ⟨this.1, this.2.1, fun hn' => ?_⟩
                obtain ⟨hA, hc⟩ := this.2.2 hn'
                subst hA
                refine ⟨?_, hc⟩
                split
                · rfl
                · simp [add_zero]
              · trivial
      · cases hr
    · cases hr
  · cases hr

theorem sliceA_sound {t : TypeId} {x r : AV} {lo hi mx : Option AV} {vx : Value} {vl vh vm : Option Value} (hx : VR κ x vx) (hlo : ∀ y, lo = some y → ∃ v, vl = some v ∧ VR κ y v) (hlo' : lo = none → vl = none)
    (hhi : ∀ y, hi = some y → ∃ v, vh = some v ∧ VR κ y v) (hhi' : hi = none → vh = none) (hmx : mx = none → vm = none) (h : sliceA P t x lo hi mx = some r) (w : World) :
    ∃ v, (Instr.sliceAt t vx vl vh vm).run P w = .ok v w ∧ VR κ r v := by
  unfold sliceA at h
  split at h
  · cases h
  · cases hmx rfl
    split at h
    · cases hlo' rfl; cases hhi' rfl
      exact cutA_sound .none rfl .none hx h w
    · rename_i l
      cases hhi' rfl
      obtain ⟨v, rfl, hv⟩ := hlo _ rfl
      cases hn : natA l with
      | none => simp [hn] at h
      | some n =>
        simp only [hn, Option.bind_some] at h
        obtain ⟨k, rfl⟩ := natA_sound hv hn
        exact cutA_sound (.some k n) rfl .none hx h w
    · rename_i l
      cases hlo' rfl
      obtain ⟨v, rfl, hv⟩ := hhi _ rfl
      cases hn : natA l with
      | none => simp [hn] at h
      | some n =>
        simp only [hn, Option.bind_some] at h
        obtain ⟨k, rfl⟩ := natA_sound hv hn
        exact cutA_sound .none rfl (.some k n) hx h w
    · rename_i l l2
      obtain ⟨v, rfl, hv⟩ := hlo _ rfl
      obtain ⟨v2, rfl, hv2⟩ := hhi _ rfl
      cases hn : natA l with
      | none => simp [hn] at h
      | some n =>
        cases hn2 : natA l2 with
        | none => simp [hn, hn2] at h
        | some n2 =>
          simp only [hn, hn2, Option.bind_some] at h
          obtain ⟨k, rfl⟩ := natA_sound hv hn
          obtain ⟨k2, rfl⟩ := natA_sound hv2 hn2
          exact cutA_sound (.some k n) rfl (.some k2 n2) hx h w
end Go.Proofs.YtcddclkccpfdkaaDoor.EV
