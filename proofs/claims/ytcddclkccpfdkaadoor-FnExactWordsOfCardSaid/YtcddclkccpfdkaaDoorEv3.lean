/- The operations that leave memory alone: what the evaluator says of them is what the machine does. -/
import Derived.Test.YtcddclkccpfdkaaDoorEv2
import Derived.Laws.StructEq
set_option linter.unusedSimpArgs false
set_option linter.unusedVariables false
namespace Go.Proofs.YtcddclkccpfdkaaDoor.EV
open Go.RowKit
variable {P : Program} {κ : Ctx} {w : World}

theorem VR.lit (κ : Ctx) (v : Value) : VR κ (.lit v) v := .a (.c (.c0 (.lit v)))
theorem VR.c0 {x : AV} {v : Value} (h : CR0 κ x v) : VR κ x v := .a (.c (.c0 h))
theorem VR.lit_inv {u v : Value} (h : VR κ (.lit u) v) : v = u := by
  cases h with
  | a h => cases h with
    | c h => cases h with
      | c0 h => cases h; rfl
theorem VR.agg_inv {l : List AV} {v : Value} (h : VR κ (.agg l) v) : ∃ vs : List Value, v = .agg vs.toArray ∧ All2 (CR0 κ) l vs := by
  cases h with
  | a h => cases h with
    | c h => cases h with
      | c0 h => cases h
    | agg h => exact ⟨_, rfl, h⟩
theorem VR.tup_inv {l : List AV} {v : Value} (h : VR κ (.tup l) v) : ∃ vs : List Value, v = .tuple vs.toArray ∧ All2 (AR κ) l vs := by
  cases h with
  | a h => cases h with
    | c h => cases h with
      | c0 h => cases h
  | tup h => exact ⟨_, rfl, h⟩
theorem VR.sl_inv {o : Own} {es : List (List AV)} {v : Value} (h : VR κ (.sl o es) v) : ∃ A c, v = .slice A es.length c ∧ SlR κ.Cs es A c ∧ OwnOK κ o es.length A c := by
  cases h with
  | a h => cases h with
    | c h => cases h with
      | c0 h => cases h; exact ⟨_, _, rfl, ‹_›, ‹_›⟩
theorem VR.loc_inv {k off : Nat} {v : Value} (h : VR κ (.loc k off) v) : ∃ g, v = .pointer (some ⟨g, off, none⟩) ∧ κ.box k = some g := by
  cases h with
  | a h => cases h with
    | c h => cases h with
      | c0 h => cases h; exact ⟨_, rfl, ‹_›⟩
theorem VR.mrow_inv {k n s : Nat} {v : Value} (h : VR κ (.mrow k n s) v) : ∃ g, v = .slice (some ⟨g, 0, none⟩) n n ∧ κ.box k = some g := by
  cases h with
  | a h => cases h with
    | c h => cases h with
      | c0 h => cases h; exact ⟨_, rfl, ‹_›⟩
theorem VR.row_inv {n s : Nat} {cs : List AV} {v : Value} (h : VR κ (.row n s cs) v) : False := by
  cases h with
  | a h => cases h with
    | c h => cases h with
      | c0 h => cases h
theorem VR.eptr_inv {cs : List AV} {v : Value} (h : VR κ (.eptr cs) v) : ∃ (a : Addr) (vs : List Value), v = .pointer (some a) ∧ All2 (PR κ.Cs) cs vs ∧ ∀ (j : Nat) y, vs[j]? = some y → κ.Cp (a.add j) y ∨ κ.Cs (a.add j) y := by
  cases h with
  | a h => cases h with
    | c h => cases h with
      | c0 h => cases h; exact ⟨_, _, rfl, ‹_›, ‹_›⟩
theorem VR.fn_inv {f : Nat} {caps : List AV} {v : Value} (h : VR κ (.fn f caps) v) : ∃ vs : List Value, v = .func (.func f) #[] vs.toArray ∧ All2 (CR0 κ) caps vs := by
  cases h with
  | a h => cases h with
    | c h => cases h with
      | c0 h => cases h
      | fn h => exact ⟨_, rfl, h⟩
theorem VR.cell_inv {cs : List AV} {v : Value} (h : VR κ (.cell cs) v) : False := by
  cases h with
  | a h => cases h with
    | c h => cases h with
      | c0 h => cases h
theorem VR.bool (κ : Ctx) (b : Bool) : VR κ (.lit (.bool b)) (.bool b) := .lit _ _

theorem underlying_run {t : TypeId} {d : TypeDesc} (h : P.underlying t = some d) (w : World) : (underlying t).run P w = .ok d w := by
  simp [underlying, h]
theorem sizeA_run {t n : Nat} (h : sizeA P t = some n) (w : World) : (sizeOf t).run P w = .ok n w := by
  unfold sizeA at h
  cases hi : P.info? t with
  | none => simp [hi] at h
  | some i => simp [hi] at h; simp [sizeOf, typeInfo, hi, h]
theorem isAggA_run {t : TypeId} {b : Bool} (h : isAggA P t = some b) (w : World) : (isAgg t).run P w = .ok b w := by
  unfold isAggA at h
  cases hi : P.underlying t with
  | none => simp [hi] at h
  | some d =>
    simp only [hi] at h
    simp only [isAgg, Sem.run_bind, underlying_run hi, Result.andThen_ok]
    cases d <;> simp_all

theorem binI_sound {op : BinOp} {k : IntKind} {a b : Int} {v : Value} (h : binI op k a b = some v) (t : TypeId) (w : World) :
    (binOp op t (.int k a) (.int k b)).run P w = .ok v w := by
  cases op <;> simp only [binI] at h <;> first
    | (cases h; done)
    | (simp only [Option.some.injEq] at h; subst h; simp [binOp, Op.intArith, Op.intCmp]; done)
    | (split at h
       · cases h
       · rename_i hb; simp only [Option.some.injEq] at h; subst h; simp [binOp, Op.intDiv, hb])
theorem binS_sound {op : BinOp} {a b : ByteArray} {v : Value} (h : binS op a b = some v) (t : TypeId) (w : World) :
    (binOp op t (.string a) (.string b)).run P w = .ok v w := by
  cases op <;> simp only [binS] at h <;> first
    | (cases h; done)
    | (simp only [Option.some.injEq] at h; subst h; simp [binOp, Op.stringOp]; done)
    | (split at h
       · rename_i hb; simp only [Option.some.injEq] at h; subst h
         have hm : ¬ (((a.size + b.size : Nat) : Int) > IntKind.i64.max) := by simp [IntKind.max, IntKind.signed, IntKind.bits]; omega
         simp only [binOp, Op.stringOp, hm, if_false, Sem.run_pure]
       · cases h)
theorem All2.toArray_get {R : AV → Value → Prop} {l : List AV} {vs : List Value} (h : All2 R l vs) {j : Nat} {x : AV} (hx : l[j]? = some x) : ∃ y, vs.toArray[j]? = some y ∧ R x y := by
  obtain ⟨y, hy, hr⟩ := h.get hx
  exact ⟨y, by simpa using hy, hr⟩

theorem partA_sound {t off : Nat} {cs : List AV} {vs : List Value} {x : AV} (hc : All2 (CR0 κ) cs vs) (h : partA P t cs off = some x) (w : World) :
    ∃ v, (part t vs.toArray off).run P w = .ok v w ∧ AR κ x v := by
  unfold partA at h
  split at h
  · rename_i n ha hs
    split at h
    · rename_i hn
      simp only [Option.some.injEq] at h
      subst h
      refine ⟨.agg ((vs.drop off).take n).toArray, ?_, .agg ((hc.drop off).take n)⟩
      simp only [part, Sem.run_bind, isAggA_run ha, Result.andThen_ok, if_true, sizeA_run hs, Sem.run_pure]
      congr 2
      apply Array.ext'
      simp [List.extract_eq_take_drop]
    · cases h
  · rename_i ha
    split at h
    · rename_i x' hx
      split at h
      · simp only [Option.some.injEq] at h
        subst h
        obtain ⟨y, hy, hr⟩ := hc.toArray_get hx
        refine ⟨y, ?_, .c (.c0 hr)⟩
        simp only [part, Sem.run_bind, isAggA_run ha, Result.andThen_ok, Bool.false_eq_true, if_false, hy, Sem.run_pure]
      · cases h
    · cases h
  · cases h

theorem AR.lit_inv {u v : Value} (h : AR κ (.lit u) v) : v = u := VR.lit_inv (.a h)
theorem AR.agg_inv {l : List AV} {v : Value} (h : AR κ (.agg l) v) : ∃ vs : List Value, v = .agg vs.toArray ∧ All2 (CR0 κ) l vs := VR.agg_inv (.a h)


theorem eq_sound : ∀ (d : Nat), (∀ (t : TypeId) (x y : AV) (vx vy : Value) (b : Bool) (D : Nat) (w : World), d ≤ D → AR κ x vx → AR κ y vy → eqA P d t x y = some b → (Op.equalIn D t vx vy).run P w = .ok b w) ∧
    (∀ (fs : List Field) (xs ys : List AV) (vs us : List Value) (b : Bool) (D : Nat) (w : World), d ≤ D → All2 (CR0 κ) xs vs → All2 (CR0 κ) ys us → eqF P d fs xs ys = some b → (Op.eqFields D vs.toArray us.toArray fs).run P w = .ok b w) := by
  intro d
  induction d with
  | zero =>
    refine ⟨fun t x y vx vy b D w _ _ _ h => by simp [eqA] at h, fun fs => ?_⟩
    induction fs with
    | nil => intro xs ys vs us b D w _ _ _ h; simp [eqF] at h; subst h; simp [Op.eqFields]
    | cons f fs ih =>
      intro xs ys vs us b D w hD hx hy h
      simp only [eqF] at h
      split at h
      · rename_i hn
        rw [Op.eqFields, if_neg (by simpa using hn)]
        exact ih xs ys vs us b D w hD hx hy h
      · split at h
        · simp [eqA] at h
        · cases h
  | succ d ihd =>
    have hA : ∀ (t : TypeId) (x y : AV) (vx vy : Value) (b : Bool) (D : Nat) (w : World), d + 1 ≤ D → AR κ x vx → AR κ y vy → eqA P (d + 1) t x y = some b → (Op.equalIn D t vx vy).run P w = .ok b w := by
      intro t x y vx vy b D w hD hx hy h
      obtain ⟨D, rfl⟩ : ∃ m, D = m + 1 := ⟨D - 1, by omega⟩
      unfold eqA at h
      split at h
      · rename_i ht
        cases hx.lit_inv; cases hy.lit_inv
        simp only [Option.some.injEq] at h; subst h
        exact run_equalIn_bool' w D t _ _ ht
      · rename_i ht
        cases hx.lit_inv; cases hy.lit_inv
        split at h
        · rename_i hk; subst hk
          simp only [Option.some.injEq] at h; subst h
          exact run_equalIn_int w D t _ _ _ _ ht
        · cases h
      · rename_i ht
        cases hx.lit_inv; cases hy.lit_inv
        simp only [Option.some.injEq] at h; subst h
        exact run_equalIn_string w D t _ _ ht
      · rename_i fs xs ys ht
        split at h
        · cases h
        · rename_i hp
          obtain ⟨vs, rfl, hvs⟩ := hx.agg_inv
          obtain ⟨us, rfl, hus⟩ := hy.agg_inv
          have hf : P.fieldsOf t = fs := by simp [Program.fieldsOf, ht]
          rw [run_equalIn_struct (P := P) w D t _ _ (by rw [hf]; exact ht) (by simpa using hp), hf]
          exact ihd.2 fs.toList xs ys vs us b D w (by omega) hvs hus h
      · cases h
    refine ⟨hA, fun fs => ?_⟩
    induction fs with
    | nil => intro xs ys vs us b D w _ _ _ h; simp [eqF] at h; subst h; simp [Op.eqFields]
    | cons f fs ih =>
      intro xs ys vs us b D w hD hx hy h
      simp only [eqF] at h
      split at h
      · rename_i hn
        rw [Op.eqFields, if_neg (by simpa using hn)]
        exact ih xs ys vs us b D w hD hx hy h
      · rename_i hn
        split at h
        · rename_i x y hpx hpy
          obtain ⟨vx, hvx, hrx⟩ := partA_sound hx hpx w
          obtain ⟨vy, hvy, hry⟩ := partA_sound hy hpy w
          rw [Op.eqFields, if_pos (by simpa using hn)]
          simp only [Sem.run_bind, hvx, hvy, Result.andThen_ok]
          split at h
          · rename_i he
            simp only [hA _ _ _ _ _ _ D w hD hrx hry he, Result.andThen_ok, Bool.not_true, Bool.false_eq_true, if_false]
            exact ih xs ys vs us b D w hD hx hy h
          · rename_i he
            simp only [Option.some.injEq] at h; subst h
            simp only [hA _ _ _ _ _ _ D w hD hrx hry he, Result.andThen_ok, Bool.not_false, if_true, Sem.run_pure]
          · cases h
        · cases h

theorem eqGuard_lit (op : BinOp) (t : TypeId) (x y : Operand) (a b : Value) (h1 : a ≠ .nilIface) (h2 : ∀ l, a ≠ .agg l) (w : World) : (eqGuard op t x y a b).run P w = .ok () w := by
  unfold eqGuard
  cases op <;> first | rfl | (cases a <;> first | rfl | exact absurd rfl h1 | exact absurd rfl (h2 _))
theorem eqGuard_agg (op : BinOp) (t : TypeId) (x y : Operand) (a b : Array Value) (h : P.eqGuardType P.depth t = false) (w : World) : (eqGuard op t x y (.agg a) (.agg b)).run P w = .ok () w := by
  unfold eqGuard
  cases op <;> first | rfl | (simp [h])
theorem binA_sound {op : BinOp} {t : TypeId} {x y r : AV} {vx vy : Value} (ox oy : Operand) (hx : VR κ x vx) (hy : VR κ y vy) (h : binA P op t x y = some r) (w : World) :
    ∃ v, (do eqGuard op t ox oy vx vy; binOp op t vx vy : Sem Value).run P w = .ok v w ∧ VR κ r v := by
  unfold binA at h
  split at h
  · rename_i k a k' b
    cases hx.lit_inv; cases hy.lit_inv
    split at h
    · rename_i hk; subst hk
      cases hb : binI op k a b with
      | none => simp [hb] at h
      | some v =>
        simp [hb] at h; subst h
        refine ⟨v, ?_, .lit _ _⟩
        simp only [Sem.run_bind, eqGuard_lit op t ox oy (.int k a) (.int k b) (by simp) (by simp), Result.andThen_ok]
        exact binI_sound hb t w
    · cases h
  · rename_i a b
    cases hx.lit_inv; cases hy.lit_inv
    cases hb : binS op a b with
    | none => simp [hb] at h
    | some v =>
      simp [hb] at h; subst h
      refine ⟨v, ?_, .lit _ _⟩
      simp only [Sem.run_bind, eqGuard_lit op t ox oy (.string a) (.string b) (by simp) (by simp), Result.andThen_ok]
      exact binS_sound hb t w
  · rename_i a b
    cases hx.lit_inv; cases hy.lit_inv
    split at h
    · rename_i hu'
      have he := run_equalIn_bool' (P := P) w 9999 t a b hu'
      simp only [Option.some.injEq] at h; subst h
      refine ⟨.bool (a == b), ?_, .bool _ _⟩
      simp only [Sem.run_bind, eqGuard_lit _ t ox oy (.bool a) (.bool b) (by simp) (by simp), Result.andThen_ok, binOp]
      simp only [Op.equal, Op.maxDepth, Sem.run_bind, he, Result.andThen_ok, Sem.run_pure]
    · rename_i hu'
      have he := run_equalIn_bool' (P := P) w 9999 t a b hu'
      simp only [Option.some.injEq] at h; subst h
      refine ⟨.bool (!(a == b)), ?_, .bool _ _⟩
      simp only [Sem.run_bind, eqGuard_lit _ t ox oy (.bool a) (.bool b) (by simp) (by simp), Result.andThen_ok, binOp]
      simp only [Op.equal, Op.maxDepth, Sem.run_bind, he, Result.andThen_ok, Sem.run_pure]
    · cases h
  · rename_i xs ys
    obtain ⟨vs, rfl, hvs⟩ := hx.agg_inv
    obtain ⟨us, rfl, hus⟩ := hy.agg_inv
    split at h
    · cases h
    · rename_i hg
      split at h
      · cases he : eqA P 10 t (.agg xs) (.agg ys) with
        | none => simp [he] at h
        | some b =>
          simp [he] at h; subst h
          have hr := (eq_sound (P := P) (κ := κ) 10).1 t _ _ _ _ b Op.maxDepth w (by decide) (.agg hvs) (.agg hus) he
          refine ⟨.bool b, ?_, .bool _ _⟩
          simp only [Sem.run_bind, eqGuard_agg _ t ox oy _ _ (by simpa using hg), Result.andThen_ok, binOp]
          simp only [Op.equal, Sem.run_bind, hr, Result.andThen_ok, Sem.run_pure]
      · cases he : eqA P 10 t (.agg xs) (.agg ys) with
        | none => simp [he] at h
        | some b =>
          simp [he] at h; subst h
          have hr := (eq_sound (P := P) (κ := κ) 10).1 t _ _ _ _ b Op.maxDepth w (by decide) (.agg hvs) (.agg hus) he
          refine ⟨.bool !b, ?_, .bool _ _⟩
          simp only [Sem.run_bind, eqGuard_agg _ t ox oy _ _ (by simpa using hg), Result.andThen_ok, binOp]
          simp only [Op.equal, Sem.run_bind, hr, Result.andThen_ok, Sem.run_pure]
      · cases h
  · cases h
theorem unA_sound {op : UnOp} {x r : AV} {vx : Value} (hx : VR κ x vx) (h : unA op x = some r) (w : World) : ∃ v, (Op.unary op vx).run P w = .ok v w ∧ VR κ r v := by
  unfold unA at h
  split at h
  · cases hx.lit_inv
    simp only [Option.some.injEq] at h; subst h
    exact ⟨_, rfl, .bool _ _⟩
  · cases hx.lit_inv
    simp only [Option.some.injEq] at h; subst h
    exact ⟨_, rfl, .lit _ _⟩
  · cases h
theorem natA_sound {i : AV} {n : Nat} {v : Value} (hi : VR κ i v) (h : natA i = some n) : ∃ k, v = .int k (n : Int) := by
  unfold natA at h
  split at h
  · rename_i k m
    cases hi.lit_inv
    split at h
    · simp only [Option.some.injEq] at h; subst h
      exact ⟨k, by congr 1; omega⟩
    · cases h
  · cases h
theorem indexA_sound {t : TypeId} {x i r : AV} {vx vi : Value} (hx : VR κ x vx) (hi : VR κ i vi) (h : indexA P t x i = some r) (w : World) : ∃ v, (Instr.index t vx vi).run P w = .ok v w ∧ VR κ r v := by
  unfold indexA at h
  split at h
  · cases h
  · rename_i n hn
    obtain ⟨k, rfl⟩ := natA_sound hi hn
    split at h
    · rename_i s ht
      cases hx.lit_inv
      split at h
      · rename_i hlt
        simp only [Option.some.injEq] at h; subst h
        refine ⟨_, ?_, .lit _ _⟩
        simp [Instr.index, asIntOf, underlying_run ht, hlt]
      · cases h
    · rename_i len e cs ht
      obtain ⟨vs, rfl, hvs⟩ := hx.agg_inv
      split at h
      · rename_i sz hsz
        split at h
        · rename_i hlt
          obtain ⟨v, hv, hr⟩ := partA_sound hvs h w
          refine ⟨v, ?_, .a hr⟩
          have hb : (0 : Int) ≤ (n : Int) ∧ (n : Int) < (len : Int) := by omega
          simp only [Instr.index, asIntOf, Sem.run_bind, Sem.run_pure, underlying_run ht, Result.andThen_ok, Sem.run_ite, if_pos hb, sizeA_run hsz, Int.toNat_natCast]
          exact hv
        · cases h
      · cases h
    · cases h
end Go.Proofs.YtcddclkccpfdkaaDoor.EV
