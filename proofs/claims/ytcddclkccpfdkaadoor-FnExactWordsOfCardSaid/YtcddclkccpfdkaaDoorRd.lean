/- What an argument reads as: cells of a layout, out of the form's own reading. -/
import Derived.Test.YtcddclkccpfdkaaDoorEv20
import Derived.Test.YtcddclkccpfdkaaDoorRows
import Derived.OpenShut
set_option linter.unusedSimpArgs false
set_option linter.unusedVariables false
namespace Go.Proofs.YtcddclkccpfdkaaDoor.EV
open Go.RowKit
variable {P : Program}

/-- a type's layout, off the table of types -/
def layFs (g : TypeId → Option (List Lay)) (P : Program) : List Field → Nat → Option (List Lay)
  | [], _ => some []
  | f :: fs, off => match g f.type, layFs g P fs (off + P.cellsOf f.type) with
    | some l, some m => if f.offset = off ∧ P.cellsOf f.type = l.length then some (l ++ m) else none
    | _, _ => none
def layB (P : Program) : Nat → TypeId → Option (List Lay)
  | 0, _ => none
  | d + 1, t => match P.underlying t with
    | some (.int k) => some [.int k]
    | some .string => some [.str]
    | some .bool => some [.bool]
    | some (.slice e) => match layB P d e with
      | some r => if P.cellsOf e = r.length then some [.sl r] else none
      | none => none
    | some (.struct fs) => match layFs (layB P d) P fs.toList 0 with
      | some l => if P.cellsOf t = l.length then some l else none
      | none => none
    | _ => none

theorem wf_wrap_eq (k : IntKind) (n : Int) (h : (Lit.int k n).wf = true) : k.wrap n = n := by
  cases k <;> simp [Lit.wf, IntKind.min, IntKind.max, IntKind.signed, IntKind.bits] at h <;> simp [IntKind.wrap, IntKind.bits, IntKind.signed] <;> omega

theorem OkL.append {a b : List Lay} : ∀ {x y : List AV}, OkL a x → OkL b y → OkL (a ++ b) (x ++ y) := by
  induction a with
  | nil => intro x y hx hy; rw [hx.nil_inv]; exact hy
  | cons l a ih =>
    intro x y hx hy
    obtain ⟨c, r, rfl, h1, h2⟩ := hx.cons_inv
    exact OkL.cons h1 (ih h2 hy)

section
variable {H : Type} {enc : TypeId × Value → H} {W : World} {base : Nat} {spare : Nat → Bool} {held : Bool}

theorem bulk_part {d : DataW H} {l : List (DataW H)} (h : d ∈ l) : Rows.uptoBulk d ≤ Rows.uptoBulkAll l := by
  induction l with
  | nil => cases h
  | cons x r ih =>
    simp only [Rows.uptoBulkAll]
    cases List.mem_cons.1 h with
    | inl e => subst e; omega
    | inr e => have := ih e; omega
theorem bulk_one (d : DataW H) : 1 ≤ Rows.uptoBulk d := by
  cases d with
  | lit l => cases l <;> simp [Rows.uptoBulk]
  | nil => simp [Rows.uptoBulk]
  | ptr d => simp [Rows.uptoBulk]
  | slice elems spare => simp [Rows.uptoBulk]
  | agg parts => simp [Rows.uptoBulk]
  | iface t d => simp [Rows.uptoBulk]
  | map entries => simp [Rows.uptoBulk]
  | held h => simp [Rows.uptoBulk]
theorem bulk_len (l : List (DataW H)) : l.length ≤ Rows.uptoBulkAll l := by
  induction l with
  | nil => simp [Rows.uptoBulkAll]
  | cons x r ih => have := bulk_one x; simp only [Rows.uptoBulkAll, List.length_cons]; omega

theorem small_le {l : List (DataW H)} (hk : Rows.uptoSmall H l = true) : Rows.uptoBulkAll l ≤ 1048576 := of_decide_eq_true hk
/-- what it says of cells -/
def Reads (W : World) (ls : List Lay) (cs : List Value) : Prop := ∃ xs, OkL ls xs ∧ All2 (PR fun a v => W.cell? a = some v) xs cs

theorem reads_fs {g : TypeId → Option (List Lay)} {cs : List Value} {n : Nat}
    (ih : ∀ t l cs' x, g t = some l → DataW.trod enc P W base spare held n t cs' = some x → Rows.uptoBulk x.1 ≤ 1048576 → Reads W l cs') :
    ∀ (fs : List Field) (off : Nat) (l : List Lay) (ys : List (DataW H × List MemPlace)), layFs g P fs off = some l →
      ys.length = fs.length → (∀ (i : Nat) (f : Field), fs[i]? = some f → DataW.trod enc P W base spare held n f.type ((cs.drop f.offset).take (P.cellsOf f.type)) = ys[i]?) → Rows.uptoBulkAll (ys.map (·.1)) ≤ 1048576 →
      Reads W l ((cs.drop off).take l.length)
  | [], off, l, ys, hl, hlen, hm, hb => by
    simp only [layFs, Option.some.injEq] at hl; subst hl
    exact ⟨[], OkL.nil, by simpa using All2.nil⟩
  | f :: fs, off, l, [], hl, hlen, hm, hb => by simp at hlen
  | f :: fs, off, l, y :: ys', hl, hlen, hm, hb => by
    simp only [layFs] at hl
    split at hl
    · rename_i l1 l2 h1 h2
      split at hl
      · rename_i hc
        simp only [Option.some.injEq] at hl; subst hl
        have hy := hm 0 f rfl
        simp only [List.getElem?_cons_zero] at hy
        simp only [List.map_cons, Rows.uptoBulkAll] at hb
        obtain ⟨x1, o1, p1⟩ := ih _ _ _ _ h1 hy (by omega)
        obtain ⟨x2, o2, p2⟩ := reads_fs ih fs _ l2 ys' h2 (by simpa using hlen) (fun i f' hf => by simpa using hm (i + 1) f' (by simpa using hf)) (by omega)
        refine ⟨x1 ++ x2, o1.append o2, ?_⟩
        have e : ((cs.drop off).take (l1 ++ l2).length) = ((cs.drop f.offset).take (P.cellsOf f.type)) ++ ((cs.drop (off + P.cellsOf f.type)).take l2.length) := by
          rw [List.length_append, hc.1, hc.2, List.take_add, List.drop_drop]
        rw [e]
        exact p1.append p2
      · cases hl
    · cases hl
theorem reads_rows {row : List Lay} {a : Addr} {e : TypeId} {n len : Nat} (hc : P.cellsOf e = row.length) {elems : List (DataW H × List MemPlace)} (hlen : elems.length = len)
    (hel : ∀ i, i < len → (W.cells? base (a.add (i * P.cellsOf e)) (P.cellsOf e)).bind (DataW.trod enc P W base spare held n e) = elems[i]?)
    (ih : ∀ cs' x, DataW.trod enc P W base spare held n e cs' = some x → Rows.uptoBulk x.1 ≤ 1048576 → Reads W row cs') (hb : ∀ y ∈ elems, Rows.uptoBulk y.1 ≤ 1048576) :
    ∀ m, m ≤ len → ∃ (es : List (List AV)) (vs : List Value), es.length = m ∧ (∀ r ∈ es, OkL row r) ∧ vs.length = m * row.length ∧ All2 (PR fun a v => W.cell? a = some v) es.flatten vs ∧ ∀ (j : Nat) y, vs[j]? = some y → W.cell? (a.add j) = some y := by
  intro m
  induction m with
  | zero => intro _; exact ⟨[], [], rfl, by simp, by simp, by simpa using All2.nil, by simp⟩
  | succ m ihm =>
    intro hm
    obtain ⟨es, vs, h1, h2, h3, h4, h5⟩ := ihm (by omega)
    have hlt : m < elems.length := by omega
    have := hel m (by omega)
    rw [List.getElem?_eq_getElem hlt, Option.bind_eq_some_iff] at this
    obtain ⟨cs, hcs, hx⟩ := this
    obtain ⟨_, hl, hget⟩ := World.cells?_some hcs
    obtain ⟨r, ho, hr⟩ := ih cs _ hx (hb _ (List.getElem_mem hlt))
    refine ⟨es ++ [r], vs ++ cs, by simp [h1], ?_, by rw [List.length_append, h3, hl, hc, Nat.add_mul]; omega, by simpa using h4.append hr, ?_⟩
    · intro r' hr'
      rcases List.mem_append.1 hr' with hr' | hr'
      · exact h2 r' hr'
      · rw [List.mem_singleton.1 hr']; exact ho
    · intro j y hy
      by_cases hj : j < vs.length
      · rw [List.getElem?_append_left hj] at hy; exact h5 j y hy
      · rw [List.getElem?_append_right (by omega)] at hy
        have hjl := (List.getElem?_eq_some_iff.1 hy).1
        have := hget (j - vs.length) (by omega)
        rw [hy] at this
        rw [← this]
        congr 1
        rw [h3, hc]
        rw [add_add]; congr 1; rw [hc] at *; omega
theorem reads (hd : True) : ∀ (d : Nat) (t : TypeId) (ls : List Lay) (fuel : Nat) (cs : List Value) (x : DataW H × List MemPlace), layB P d t = some ls → DataW.trod enc P W base spare held fuel t cs = some x → Rows.uptoBulk x.1 ≤ 1048576 → Reads W ls cs := by
  intro d
  induction d with
  | zero => intro t ls fuel cs x h; simp [layB] at h
  | succ d ih =>
    intro t ls fuel cs x hl ht hb
    simp only [layB] at hl
    split at hl
    · rename_i k hu
      simp only [Option.some.injEq] at hl; subst hl
      obtain ⟨n, rfl, _, hw⟩ := DataW.trod_int hu ht
      exact ⟨[.lit (.int k n)], OkL.cons (.int k n (wf_wrap_eq k n hw)) OkL.nil, All2.cons (.lit _ rfl) All2.nil⟩
    · rename_i hu
      simp only [Option.some.injEq] at hl; subst hl
      obtain ⟨s, rfl, rfl, hs⟩ := DataW.trod_string hu ht
      refine ⟨[.lit (.string s)], OkL.cons (.str s ?_) OkL.nil, All2.cons (.lit _ rfl) All2.nil⟩
      simp only [Rows.uptoBulk, Array.length_toList] at hb
      have : s.data.size = s.size := rfl
      omega
    · rename_i hu
      simp only [Option.some.injEq] at hl; subst hl
      obtain ⟨b, rfl, _⟩ := DataW.trod_bool hu ht
      exact ⟨[.lit (.bool b)], OkL.cons (.bool b) OkL.nil, All2.cons (.lit _ rfl) All2.nil⟩
    · rename_i e hu
      split at hl
      · rename_i r hr
        split at hl
        · rename_i hc
          simp only [Option.some.injEq] at hl; subst hl
          rcases DataW.trod_slice hu ht with ⟨rfl, rfl⟩ | ⟨a, len, cap, elems, rest, n, rfl, rfl, rfl, _, hlc, _, hlen, hel, _, _⟩
          · refine ⟨[.sl .sh []], OkL.cons (OkC.of_rows ⟨by simp, by simp⟩) OkL.nil, All2.cons ?_ All2.nil⟩
            exact PR.sl (es := []) (A := none) (c := 0) (k := 0) (vs := []) (by simp) (by simp) (by simp) (by simp) (by simp)
          · simp only [Rows.uptoBulk] at hb
            have hl1 := bulk_len (elems.map (·.1))
            simp only [List.length_map] at hl1
            obtain ⟨es, vs, h1, h2, h3, h4, h5⟩ := reads_rows hc hlen hel (fun cs' x hx hbx => ih e r n cs' x hr hx hbx) (fun y hy => by
              have := bulk_part (List.mem_map_of_mem (f := (·.1)) hy); omega) len (Nat.le_refl _)
            refine ⟨[.sl .sh es], OkL.cons (OkC.of_rows ⟨by omega, h2⟩) OkL.nil, All2.cons ?_ All2.nil⟩
            rw [← h1]
            refine PR.sl (k := r.length) (fun x hx => (h2 x hx).1) (by omega) h4.1 h4.2 (fun j y hy => ⟨a, rfl, h5 j y hy⟩)
        · cases hl
      · cases hl
    · rename_i fs hu
      split at hl
      · rename_i l hlf
        split at hl
        · rename_i hc
          simp only [Option.some.injEq] at hl; subst hl
          obtain ⟨xs, n, rfl, rfl, hsz, hxs, hx⟩ := DataW.trod_struct hu ht
          simp only [Rows.uptoBulk] at hb
          have := reads_fs (cs := cs) (n := n) (fun t l cs' x h1 h2 h3 => ih t l n cs' x h1 h2 h3) fs.toList 0 l xs hlf (by simpa using hxs) (fun i f hf => hx i f (by simpa using hf)) (by omega)
          rw [List.drop_zero, List.take_of_length_le (by omega)] at this
          exact this
        · cases hl
      · cases hl
    · cases hl
end
end Go.Proofs.YtcddclkccpfdkaaDoor.EV
