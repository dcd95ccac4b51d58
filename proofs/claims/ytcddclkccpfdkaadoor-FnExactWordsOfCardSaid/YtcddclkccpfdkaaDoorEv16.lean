/- What is asked of data: layouts; calls known by a relation. -/
import Derived.Test.YtcddclkccpfdkaaDoorEv15
import Derived.Laws.Strings
set_option linter.unusedSimpArgs false
set_option linter.unusedVariables false
namespace Go.Proofs.YtcddclkccpfdkaaDoor.EV
open Go.RowKit
variable {P : Program}

/-- the layout of a cell -/
inductive Lay where
  | int (k : IntKind) | str | bool
  | sl (row : List Lay)
inductive OkC : Lay → AV → Prop
  | int (k : IntKind) (n : Int) (h : k.wrap n = n) : OkC (.int k) (.lit (.int k n))
  | str (s : ByteArray) (h : s.size ≤ 1073741824) : OkC .str (.lit (.string s))
  | bool (b : Bool) : OkC .bool (.lit (.bool b))
  | sl {row : List Lay} {es : List (List AV)} (hb : es.length ≤ 1073741824) (hl : ∀ r ∈ es, r.length = row.length) (h : ∀ r ∈ es, ∀ (j : Nat) l x, row[j]? = some l → r[j]? = some x → OkC l x) : OkC (.sl row) (.sl .sh es)
def OkL (ls : List Lay) (xs : List AV) : Prop := xs.length = ls.length ∧ ∀ (j : Nat) l x, ls[j]? = some l → xs[j]? = some x → OkC l x
def OkR (row : List Lay) (es : List (List AV)) : Prop := es.length ≤ 1073741824 ∧ ∀ r ∈ es, OkL row r

theorem OkL.nil_inv {xs : List AV} (h : OkL [] xs) : xs = [] := List.eq_nil_of_length_eq_zero h.1
theorem OkL.cons_inv {l : Lay} {ls : List Lay} {xs : List AV} (h : OkL (l :: ls) xs) : ∃ x r, xs = x :: r ∧ OkC l x ∧ OkL ls r := by
  cases xs with
  | nil => simp [OkL] at h
  | cons x r => exact ⟨x, r, rfl, h.2 0 l x rfl rfl, by simpa using h.1, fun j l' x' hl hx => h.2 (j + 1) l' x' (by simpa using hl) (by simpa using hx)⟩
theorem OkL.nil : OkL [] [] := ⟨rfl, fun _ _ _ h => by simp at h⟩
theorem OkL.cons {l : Lay} {ls : List Lay} {x : AV} {xs : List AV} (h : OkC l x) (hs : OkL ls xs) : OkL (l :: ls) (x :: xs) :=
  ⟨by simp [hs.1], fun j l' x' hl hx => by
    cases j with
    | zero => simp at hl hx; subst hl; subst hx; exact h
    | succ j => simp at hl hx; exact hs.2 j l' x' hl hx⟩
theorem OkC.int_inv {k : IntKind} {x : AV} (h : OkC (.int k) x) : ∃ n, x = .lit (.int k n) ∧ k.wrap n = n := by cases h; exact ⟨_, rfl, ‹_›⟩
theorem OkC.str_inv {x : AV} (h : OkC .str x) : ∃ s, x = .lit (.string s) ∧ s.size ≤ 1073741824 := by cases h; exact ⟨_, rfl, ‹_›⟩
theorem OkC.bool_inv {x : AV} (h : OkC .bool x) : ∃ b, x = .lit (.bool b) := by cases h; exact ⟨_, rfl⟩
theorem OkC.sl_inv {row : List Lay} {x : AV} (h : OkC (.sl row) x) : ∃ es, x = .sl .sh es ∧ OkR row es := by
  cases h with
  | sl hb hl h => exact ⟨_, rfl, hb, fun r hr => ⟨hl r hr, h r hr⟩⟩
theorem OkC.of_rows {row : List Lay} {es : List (List AV)} (h : OkR row es) : OkC (.sl row) (.sl .sh es) := .sl h.1 (fun r hr => (h.2 r hr).1) (fun r hr => (h.2 r hr).2)

theorem okl_nil : OkL [] [] = True := by simp [OkL.nil]
theorem okl_cons {l : Lay} {ls : List Lay} {x : AV} {xs : List AV} : OkL (l :: ls) (x :: xs) = (OkC l x ∧ OkL ls xs) := by
  apply propext
  constructor
  · intro h
    obtain ⟨x', r, he, h1, h2⟩ := h.cons_inv
    cases he
    exact ⟨h1, h2⟩
  · rintro ⟨h1, h2⟩; exact .cons h1 h2
theorem okc_str {s : ByteArray} : OkC .str (.lit (.string s)) = (s.size ≤ 1073741824) := by
  apply propext; constructor
  · intro h; cases h; assumption
  · exact .str s
theorem okc_bool {b : Bool} : OkC .bool (.lit (.bool b)) = True := by simp [OkC.bool]
theorem okc_int {k : IntKind} {n : Int} : OkC (.int k) (.lit (.int k n)) = (k.wrap n = n) := by
  apply propext; constructor
  · intro h; cases h; assumption
  · exact .int k n
theorem okc_sl {row : List Lay} {es : List (List AV)} : OkC (.sl row) (.sl .sh es) = OkR row es := by
  apply propext; constructor
  · intro h; obtain ⟨e, he, h⟩ := h.sl_inv; cases he; exact h
  · exact OkC.of_rows
theorem OkC.plain {l : Lay} {x : AV} (h : OkC l x) : plain1 x = some x := by
  cases h with
  | int => rfl
  | str => rfl
  | bool => rfl
  | sl => rfl
theorem OkL.plain {ls : List Lay} : ∀ {xs : List AV}, OkL ls xs → plainL xs = some xs := by
  induction ls with
  | nil => intro xs h; rw [h.nil_inv]; rfl
  | cons l ls ih =>
    intro xs h
    obtain ⟨x, r, rfl, hx, hr⟩ := h.cons_inv
    simp only [plainL, hx.plain, ih hr]
theorem OkC.one {l : Lay} {x : AV} (h : OkC l x) : x.one = true := by cases h <;> rfl
theorem plainL_append {a b a' b' : List AV} (ha : plainL a = some a') (hb : plainL b = some b') : plainL (a ++ b) = some (a' ++ b') := by
  induction a generalizing a' with
  | nil => simp only [plainL, Option.some.injEq] at ha; subst ha; simpa using hb
  | cons x a ih =>
    simp only [plainL] at ha
    split at ha
    · rename_i y l hy hl
      simp only [Option.some.injEq] at ha; subst ha
      simp only [List.cons_append, plainL, hy, ih hl]
    · cases ha
theorem OkR.plain {row : List Lay} {es : List (List AV)} (h : OkR row es) : plainL es.flatten = some es.flatten := by
  obtain ⟨hb, h⟩ := h
  clear hb
  induction es with
  | nil => rfl
  | cons r es ih =>
    rw [List.flatten_cons]
    exact plainL_append (h r (by simp)).plain (ih fun r' hr => h r' (List.mem_cons_of_mem _ hr))
theorem OkR.get {row : List Lay} {es : List (List AV)} (h : OkR row es) {i : Nat} (hi : i < es.length) : ∃ r, es[i]? = some r ∧ OkL row r ∧ es.take (i + 1) = es.take i ++ [r] :=
  ⟨es[i], List.getElem?_eq_getElem hi, h.2 _ (List.getElem_mem hi), by rw [List.take_add_one, List.getElem?_eq_getElem hi]; rfl⟩

/-- the bodies of the loops in a code -/
def loopsOf : Code → List Code
  | .loop c => [c]
  | .seq a b => loopsOf a ++ loopsOf b
  | .cond _ a b => loopsOf a ++ loopsOf b
  | .block _ a => loopsOf a
  | _ => []
def loopIn (fn : Func) (i : Nat) : Code := match fn.body with
  | some c => (loopsOf c).getD i .skip
  | none => .skip

theorem bytes_eq (a b : ByteArray) : (a.toList == b.toList) = true ↔ a = b := by
  constructor
  · intro h
    have h := eq_of_beq h
    rw [ByteArray.toList_eq, ByteArray.toList_eq] at h
    cases a; cases b
    simp only at h
    simp [Array.ext' h]
  · rintro rfl; simp

/-! calls known by a relation -/
open Classical in
noncomputable def callR (P : Program) (R : FuncId → List AV → AV → Prop) : FuncId → List AV → Option AV :=
  fun f xs => if h : ∃ d, R f xs d ∧ Pure P f xs d then some (Classical.choose h) else none
theorem callR_sound {R : FuncId → List AV → AV → Prop} : ∀ f xs d, callR P R f xs = some d → Pure P f xs d := by
  intro f xs d h
  unfold callR at h
  split at h
  · rename_i hx
    simp only [Option.some.injEq] at h; subst h
    exact (Classical.choose_spec hx).2
  · cases h
theorem callR_spec {R : FuncId → List AV → AV → Prop} {f : FuncId} {xs : List AV} (h : ∃ d, R f xs d ∧ Pure P f xs d) : ∃ d, callR P R f xs = some d ∧ R f xs d := by
  refine ⟨Classical.choose h, ?_, (Classical.choose_spec h).1⟩
  unfold callR
  rw [dif_pos h]
/-- a function's contract, from its code -/
theorem pure_of {R : FuncId → List AV → AV → Prop} {k : FuncId} {fn : Func} {xs : List AV} {d : AV} (hf : P.funcs[k]? = some fn) (h : ∃ m, evBody P (callR P R) m fn xs = some d) : Pure P k xs d :=
  let ⟨_, h⟩ := h
  evBody_sound callR_sound hf h
end Go.Proofs.YtcddclkccpfdkaaDoor.EV
