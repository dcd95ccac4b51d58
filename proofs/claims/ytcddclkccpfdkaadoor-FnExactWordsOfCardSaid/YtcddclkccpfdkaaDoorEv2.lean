/- What abstract values say of machine values: the relations and how they are kept. -/
import Derived.Test.YtcddclkccpfdkaaDoorEv1
import Derived.Below
set_option linter.unusedSimpArgs false
set_option linter.unusedVariables false
namespace Go.Proofs.YtcddclkccpfdkaaDoor.EV
open Go.RowKit

def All2 {α β : Type} (R : α → β → Prop) (l : List α) (l' : List β) : Prop :=
  l.length = l'.length ∧ ∀ (j : Nat) x y, l[j]? = some x → l'[j]? = some y → R x y

theorem All2.nil {α β : Type} {R : α → β → Prop} : All2 R [] [] := ⟨rfl, fun _ _ _ h => by simp at h⟩
theorem All2.cons {α β : Type} {R : α → β → Prop} {x : α} {y : β} {l : List α} {l' : List β} (h : R x y) (hs : All2 R l l') : All2 R (x :: l) (y :: l') :=
  ⟨by simp [hs.1], fun j a b ha hb => by
    cases j with
    | zero => simp at ha hb; subst ha; subst hb; exact h
    | succ j => simp at ha hb; exact hs.2 j a b ha hb⟩
theorem All2.cons_inv {α β : Type} {R : α → β → Prop} {x : α} {l : List α} {l' : List β} (h : All2 R (x :: l) l') : ∃ y r, l' = y :: r ∧ R x y ∧ All2 R l r := by
  cases l' with
  | nil => simp [All2] at h
  | cons y r => exact ⟨y, r, rfl, h.2 0 x y rfl rfl, by simpa using h.1, fun j a b ha hb => h.2 (j + 1) a b (by simpa using ha) (by simpa using hb)⟩
theorem All2.nil_inv {α β : Type} {R : α → β → Prop} {l' : List β} (h : All2 R [] l') : l' = [] := by
  cases l' with
  | nil => rfl
  | cons y r => simp [All2] at h
theorem All2.imp {α β : Type} {R S : α → β → Prop} (hi : ∀ x y, R x y → S x y) {l : List α} {l' : List β} (h : All2 R l l') : All2 S l l' :=
  ⟨h.1, fun j x y hx hy => hi x y (h.2 j x y hx hy)⟩
theorem All2.get {α β : Type} {R : α → β → Prop} {l : List α} {l' : List β} (h : All2 R l l') {j : Nat} {x : α} (hx : l[j]? = some x) : ∃ y, l'[j]? = some y ∧ R x y := by
  obtain ⟨hj, _⟩ := List.getElem?_eq_some_iff.1 hx
  have hj' : j < l'.length := by rw [← h.1]; exact hj
  exact ⟨l'[j], List.getElem?_eq_getElem hj', h.2 j x _ hx (List.getElem?_eq_getElem hj')⟩
theorem All2.append {α β : Type} {R : α → β → Prop} {l m : List α} {l' m' : List β} (h : All2 R l l') (k : All2 R m m') : All2 R (l ++ m) (l' ++ m') := by
  refine ⟨by simp [h.1, k.1], fun j x y hx hy => ?_⟩
  by_cases hj : j < l.length
  · rw [List.getElem?_append_left hj] at hx
    rw [List.getElem?_append_left (h.1 ▸ hj)] at hy
    exact h.2 j x y hx hy
  · rw [List.getElem?_append_right (by omega)] at hx
    rw [List.getElem?_append_right (by rw [← h.1]; omega)] at hy
    rw [← h.1] at hy
    exact k.2 _ x y hx hy
theorem All2.drop {α β : Type} {R : α → β → Prop} {l : List α} {l' : List β} (h : All2 R l l') (n : Nat) : All2 R (l.drop n) (l'.drop n) :=
  ⟨by simp [h.1], fun j x y hx hy => h.2 (n + j) x y (by simpa using hx) (by simpa using hy)⟩
theorem All2.take {α β : Type} {R : α → β → Prop} {l : List α} {l' : List β} (h : All2 R l l') (n : Nat) : All2 R (l.take n) (l'.take n) := by
  refine ⟨by simp [h.1], fun j x y hx hy => ?_⟩
  rw [List.getElem?_take] at hx hy
  split at hx
  · rename_i hj; rw [if_pos hj] at hy; exact h.2 j x y hx hy
  · cases hx
theorem All2.set {α β : Type} {R : α → β → Prop} {l : List α} {l' : List β} (h : All2 R l l') (n : Nat) {x : α} {y : β} (hxy : R x y) : All2 R (l.set n x) (l'.set n y) := by
  refine ⟨by simp [h.1], fun j a b ha hb => ?_⟩
  by_cases hj : n = j
  · subst hj
    have h1 := (List.getElem?_eq_some_iff.1 ha).1
    have h2 := (List.getElem?_eq_some_iff.1 hb).1
    simp only [List.length_set] at h1 h2
    simp only [List.getElem?_set_self h1, List.getElem?_set_self h2, Option.some.injEq] at ha hb
    subst ha; subst hb; exact hxy
  · rw [List.getElem?_set_ne hj] at ha hb
    exact h.2 j a b ha hb
theorem All2.map_left {α β γ : Type} {R : α → β → Prop} {S : γ → β → Prop} {f : α → γ} (hi : ∀ x y, R x y → S (f x) y) {l : List α} {l' : List β} (h : All2 R l l') : All2 S (l.map f) l' :=
  ⟨by simp [h.1], fun j x y hx hy => by
    rw [List.getElem?_map] at hx
    cases hl : l[j]? with
    | none => simp [hl] at hx
    | some z => simp [hl] at hx; subst hx; exact hi _ _ (h.2 j z y hl hy)⟩

/-- What may be kept in a slice: a literal of one cell, or a shared slice of such; C: the cells that nobody writes. -/
inductive PR (C : Addr → Value → Prop) : AV → Value → Prop
  | lit (v : Value) (h : v.oneCell' = true) : PR C (.lit v) v
  | sl {es : List (List AV)} {A : Option Addr} {c k : Nat} {vs : List Value} (hk : ∀ x ∈ es, x.length = k) (hc : es.length ≤ c) (hl : es.flatten.length = vs.length)
      (hv : ∀ (j : Nat) x y, es.flatten[j]? = some x → vs[j]? = some y → PR C x y) (hA : ∀ (j : Nat) y, vs[j]? = some y → ∃ a, A = some a ∧ C (a.add j) y) : PR C (.sl .sh es) (.slice A es.length c)

theorem PR.mono {C C' : Addr → Value → Prop} (hC : ∀ a v, C a v → C' a v) {x : AV} {v : Value} (h : PR C x v) : PR C' x v := by
  induction h with
  | lit v h => exact .lit v h
  | sl hk hc hl hv hA ih => exact .sl hk hc hl ih (fun j y hy => let ⟨a, e, h⟩ := hA j y hy; ⟨a, e, hC _ _ h⟩)

structure Tok where
  g : Nat
  n : Nat
  cap : Nat
  size : Nat
  e : TypeId

structure Ctx where
  Cs : Addr → Value → Prop
  Cp : Addr → Value → Prop
  box : Nat → Option Nat
  tok : Nat → Nat → Option Tok

def OwnOK (κ : Ctx) (o : Own) (n : Nat) (A : Option Addr) (c : Nat) : Prop :=
  match o with
  | .sh => True
  | .ex => c = n
  | .ow k j e => ∀ τ, κ.tok k j = some τ → τ.e = e ∧ n ≤ τ.n ∧ (n = τ.n → A = some ⟨τ.g, 0, none⟩ ∧ c = τ.cap)

/-- A slice: its elements of k cells each, that read as vs from A on. -/
structure SlR (C : Addr → Value → Prop) (es : List (List AV)) (A : Option Addr) (c : Nat) : Prop where
  mk' :: (out : ∃ k vs, (∀ x ∈ es, x.length = k) ∧ es.length ≤ c ∧ All2 (PR C) es.flatten vs ∧ (∀ (j : Nat) y, vs[j]? = some y → ∃ a, A = some a ∧ C (a.add j) y))

theorem SlR.mono {C C' : Addr → Value → Prop} (hC : ∀ a v, C a v → C' a v) {es : List (List AV)} {A : Option Addr} {c : Nat} (h : SlR C es A c) : SlR C' es A c := by
  obtain ⟨k, vs, h1, h2, h3, h4⟩ := h.out
  exact ⟨k, vs, h1, h2, h3.imp (fun _ _ h => h.mono hC), fun j y hy => let ⟨a, e, h⟩ := h4 j y hy; ⟨a, e, hC _ _ h⟩⟩
theorem SlR.pr {C : Addr → Value → Prop} {es : List (List AV)} {A : Option Addr} {c : Nat} (h : SlR C es A c) : PR C (.sl .sh es) (.slice A es.length c) := by
  obtain ⟨k, vs, h1, h2, h3, h4⟩ := h.out
  exact .sl h1 h2 h3.1 h3.2 h4

/-- One cell. -/
inductive CR0 (κ : Ctx) : AV → Value → Prop
  | lit (v : Value) : CR0 κ (.lit v) v
  | sl {o : Own} {es : List (List AV)} {A : Option Addr} {c : Nat} (h : SlR κ.Cs es A c) (ho : OwnOK κ o es.length A c) : CR0 κ (.sl o es) (.slice A es.length c)
  | loc {k off g : Nat} (h : κ.box k = some g) : CR0 κ (.loc k off) (.pointer (some ⟨g, off, none⟩))
  | eptr {cs : List AV} {a : Addr} {vs : List Value} (h : All2 (PR κ.Cs) cs vs) (hc : ∀ (j : Nat) y, vs[j]? = some y → κ.Cp (a.add j) y ∨ κ.Cs (a.add j) y) : CR0 κ (.eptr cs) (.pointer (some a))
  | mrow {k n s g : Nat} (h : κ.box k = some g) : CR0 κ (.mrow k n s) (.slice (some ⟨g, 0, none⟩) n n)
  | junk (v : Value) : CR0 κ .junk v
inductive CR (κ : Ctx) : AV → Value → Prop
  | c0 {x : AV} {v : Value} (h : CR0 κ x v) : CR κ x v
  | fn {f : Nat} {caps : List AV} {vs : List Value} (h : All2 (CR0 κ) caps vs) : CR κ (.fn f caps) (.func (.func f) #[] vs.toArray)
inductive AR (κ : Ctx) : AV → Value → Prop
  | c {x : AV} {v : Value} (h : CR κ x v) : AR κ x v
  | agg {l : List AV} {vs : List Value} (h : All2 (CR0 κ) l vs) : AR κ (.agg l) (.agg vs.toArray)
/-- A value. -/
inductive VR (κ : Ctx) : AV → Value → Prop
  | a {x : AV} {v : Value} (h : AR κ x v) : VR κ x v
  | tup {l : List AV} {vs : List Value} (h : All2 (AR κ) l vs) : VR κ (.tup l) (.tuple vs.toArray)

/-- κ' says all that κ says of what does not name slot k (k out of range: of all). -/
structure Le (κ κ' : Ctx) (k : Option Nat) : Prop where
  cs : ∀ a v, κ.Cs a v → κ'.Cs a v
  cp : ∀ a v, κ.Cp a v → κ'.Cp a v
  box : ∀ q g, some q ≠ k → κ.box q = some g → κ'.box q = some g
  tok : ∀ q j τ', some q ≠ k → κ'.tok q j = some τ' → ∃ τ, κ.tok q j = some τ ∧ (τ = τ' ∨ (τ.e = τ'.e ∧ τ.n < τ'.n))

theorem Le.refl (κ : Ctx) (k : Option Nat) : Le κ κ k := ⟨fun _ _ h => h, fun _ _ h => h, fun _ _ _ h => h, fun _ _ τ _ h => ⟨τ, h, .inl rfl⟩⟩
theorem Le.weak {κ κ' : Ctx} (h : Le κ κ' none) (k : Option Nat) : Le κ κ' k := ⟨h.cs, h.cp, fun q g _ hb => h.box q g (by simp) hb, fun q j τ _ ht => h.tok q j τ (by simp) ht⟩

theorem OwnOK.mono {κ κ' : Ctx} {k : Option Nat} (hl : Le κ κ' k) {o : Own} {n : Nat} {A : Option Addr} {c : Nat} (hk : ∀ q j e, o = .ow q j e → some q ≠ k) (h : OwnOK κ o n A c) : OwnOK κ' o n A c := by
  cases o with
  | sh => trivial
  | ex => exact h
  | ow q j e =>
    intro τ' ht'
    obtain ⟨τ, ht, he⟩ := hl.tok q j τ' (hk q j e rfl) ht'
    have := h τ ht
    rcases he with rfl | ⟨h1, h2⟩
    · exact this
    · exact ⟨h1 ▸ this.1, by omega, fun hn => by omega⟩

theorem CR0.clean {κ κ' : Ctx} {k : Nat} (hl : Le κ κ' (some k)) {x : AV} {v : Value} (h : CR0 κ x v) : CR0 κ' (clean1 k x) v := by
  cases h with
  | lit v => exact .lit v
  | sl h ho =>
    rename_i o es A c
    cases o with
    | sh => exact .sl (h.mono hl.cs) trivial
    | ex => exact .sl (h.mono hl.cs) ho
    | ow q j e =>
      simp only [clean1]
      by_cases hq : q = k
      · rw [if_pos hq]; exact .sl (h.mono hl.cs) trivial
      · rw [if_neg hq]; exact .sl (h.mono hl.cs) (ho.mono hl (fun q' j' e' he => by cases he; simpa using hq))
  | loc h =>
    rename_i q off g
    simp only [clean1]
    by_cases hq : q = k
    · rw [if_pos hq]; exact .junk _
    · rw [if_neg hq]; exact .loc (hl.box q g (by simpa using hq) h)
  | mrow h =>
    rename_i q n s g
    simp only [clean1]
    by_cases hq : q = k
    · rw [if_pos hq]; exact .junk _
    · rw [if_neg hq]; exact .mrow (hl.box q g (by simpa using hq) h)
  | eptr h hc => exact .eptr (h.imp fun _ _ h => h.mono hl.cs) (fun j y hy => (hc j y hy).imp (hl.cp _ _) (hl.cs _ _))
  | junk v => exact .junk v
theorem CR0.mono {κ κ' : Ctx} (hl : Le κ κ' none) {x : AV} {v : Value} (h : CR0 κ x v) : CR0 κ' x v := by
  cases h with
  | lit v => exact .lit v
  | sl h ho => exact .sl (h.mono hl.cs) (ho.mono hl (fun q j e _ => by simp))
  | loc h => exact .loc (hl.box _ _ (by simp) h)
  | mrow h => exact .mrow (hl.box _ _ (by simp) h)
  | eptr h hc => exact .eptr (h.imp fun _ _ h => h.mono hl.cs) (fun j y hy => (hc j y hy).imp (hl.cp _ _) (hl.cs _ _))
  | junk v => exact .junk v
theorem CR.mono {κ κ' : Ctx} (hl : Le κ κ' none) {x : AV} {v : Value} (h : CR κ x v) : CR κ' x v := by
  cases h with
  | c0 h => exact .c0 (h.mono hl)
  | fn h => exact .fn (h.imp fun _ _ h => h.mono hl)
theorem AR.mono {κ κ' : Ctx} (hl : Le κ κ' none) {x : AV} {v : Value} (h : AR κ x v) : AR κ' x v := by
  cases h with
  | c h => exact .c (h.mono hl)
  | agg h => exact .agg (h.imp fun _ _ h => h.mono hl)
theorem VR.mono {κ κ' : Ctx} (hl : Le κ κ' none) {x : AV} {v : Value} (h : VR κ x v) : VR κ' x v := by
  cases h with
  | a h => exact .a (h.mono hl)
  | tup h => exact .tup (h.imp fun _ _ h => h.mono hl)
theorem AR.clean {κ κ' : Ctx} {k : Nat} (hl : Le κ κ' (some k)) {x : AV} {v : Value} (h : AR κ x v) : AR κ' (cleanA k x) v := by
  cases h with
  | c h =>
    cases h with
    | c0 h => cases h with
      | lit v => exact .c (.c0 (.lit v))
      | sl h ho => exact .c (.c0 ((CR0.sl h ho).clean hl))
      | loc h => exact .c (.c0 ((CR0.loc h).clean hl))
      | mrow h => exact .c (.c0 ((CR0.mrow h).clean hl))
      | eptr h hc => exact .c (.c0 ((CR0.eptr h hc).clean hl))
      | junk v => exact .c (.c0 (.junk v))
    | fn h => exact .c (.fn (h.map_left fun _ _ h => h.clean hl))
  | agg h => exact .agg (h.map_left fun _ _ h => h.clean hl)
theorem VR.clean {κ κ' : Ctx} {k : Nat} (hl : Le κ κ' (some k)) {x : AV} {v : Value} (h : VR κ x v) : VR κ' (clean k x) v := by
  cases h with
  | a h =>
    have h2 := h.clean hl
    cases h with
    | c h => cases h with
      | c0 h => cases h <;> exact .a h2
      | fn h => exact .a h2
    | agg h => exact .a h2
  | tup h => exact .tup (h.map_left fun _ _ h => h.clean hl)
end Go.Proofs.YtcddclkccpfdkaaDoor.EV
