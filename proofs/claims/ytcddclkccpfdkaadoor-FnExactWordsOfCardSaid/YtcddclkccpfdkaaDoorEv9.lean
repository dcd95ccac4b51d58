/- Rows of the call's own: append. -/
import Derived.Test.YtcddclkccpfdkaaDoorEv8
set_option linter.unusedSimpArgs false
set_option linter.unusedVariables false
namespace Go.Proofs.YtcddclkccpfdkaaDoor.EV
open Go.RowKit
variable {P : Program} {κ0 κ : Ctx} {w w0 : World} {E : Env} {a : Act}

def Ctx.withTok (κ : Ctx) (k j : Nat) (τ : Tok) (w' : World) : Ctx :=
  { κ with Cs := fun a v => κ.Cs a v ∨ (a.block = τ.g ∧ a.off < τ.n * τ.size ∧ w'.cell? a = some v), tok := fun q i => if q = k ∧ i = j then some τ else κ.tok q i }

theorem WI.row {base k j : Nat} (h : WI P κ base w) {τ : Tok} {w' : World} (hs : w.heap.size ≤ w'.heap.size) (hb : ∀ q, q < w.heap.size → q ≠ τ.g → w'.heap[q]? = w.heap[q]?)
    (hτ : base ≤ τ.g ∧ τ.n ≤ τ.cap ∧ τ.cap ≤ maxLen ∧ 0 < τ.size ∧ sizeA P τ.e = some τ.size ∧ ∃ cur, w'.heap[τ.g]? = some (.cells cur τ.e (0, 0)) ∧ cur.size = τ.cap * τ.size)
    (hc : ∀ a v, κ.Cs a v → a.block = τ.g → w'.cell? a = some v ∧ a.off < τ.n * τ.size) (hp : ∀ a v, a.block = τ.g → ¬ κ.Cp a v) (hbx : ∀ q g, κ.box q = some g → g ≠ τ.g)
    (ht : ∀ q i τ', κ.tok q i = some τ' → (q = k ∧ i = j) ∨ τ'.g ≠ τ.g) : WI P (κ.withTok k j τ w') base w' := by
  refine ⟨?_, ?_, ?_, h.boxi, ?_, ?_, ?_, ?_⟩
  · rintro ad v (hcs | ⟨_, _, h3⟩)
    · by_cases he : ad.block = τ.g
      · exact (hc ad v hcs he).1
      · have := h.cs ad v hcs
        rw [World.cell?_of_block (hb _ (cell_lt this) he)]; exact this
    · exact h3
  · intro ad v hcp
    have := h.cp ad v hcp
    rw [World.cell?_of_block (hb _ (cell_lt this) (fun he => hp ad v he hcp))]; exact this
  · intro q g hq
    obtain ⟨h1, h2, h3⟩ := h.box q g hq
    refine ⟨h1, by omega, fun ad v had => ⟨?_, (h3 ad v had).2⟩⟩
    rintro (hcs | ⟨h4, _, _⟩)
    · exact (h3 ad v had).1 hcs
    · exact hbx q g hq (had.symm.trans h4)
  · intro q i τ' hq
    simp only [Ctx.withTok] at hq
    split at hq
    · simp only [Option.some.injEq] at hq; subst hq; exact hτ
    · rename_i hne
      obtain ⟨h1, h2, h3, h4, hz, cur, h5, h6⟩ := h.tok q i τ' hq
      exact ⟨h1, h2, h3, h4, hz, cur, by rw [hb _ (tok_lt h5) ((ht q i τ' hq).resolve_left hne)]; exact h5, h6⟩
  · intro q i τ' hq ad v had
    simp only [Ctx.withTok] at hq
    split at hq
    · simp only [Option.some.injEq] at hq; subst hq
      refine ⟨?_, hp ad v had⟩
      rintro (hcs | ⟨_, h4, _⟩)
      · exact (hc ad v hcs had).2
      · exact h4
    · rename_i hne
      refine ⟨?_, (h.tokc q i τ' hq ad v had).2⟩
      rintro (hcs | ⟨h4, _, _⟩)
      · exact (h.tokc q i τ' hq ad v had).1 hcs
      · exact absurd (had.symm.trans h4) ((ht q i τ' hq).resolve_left hne)
  · intro q i τ1 q' i' τ2 h1 h2 hg
    simp only [Ctx.withTok] at h1 h2
    split at h1
    · rename_i he
      simp only [Option.some.injEq] at h1; subst h1
      split at h2
      · rename_i he'; exact ⟨he.1.trans he'.1.symm, he.2.trans he'.2.symm⟩
      · rename_i hne
        exact absurd hg.symm ((ht q' i' τ2 h2).resolve_left hne)
    · rename_i hne
      split at h2
      · simp only [Option.some.injEq] at h2; subst h2
        exact absurd hg ((ht q i τ1 h1).resolve_left hne)
      · exact h.toki q i τ1 q' i' τ2 h1 h2 hg
  · intro q i τ1 q' g h1 h2
    simp only [Ctx.withTok] at h1
    split at h1
    · simp only [Option.some.injEq] at h1; subst h1; exact (hbx q' g h2).symm
    · exact h.tokb q i τ1 q' g h1 h2

/-- a value made at slot d -/
theorem FR.made (h : FR P κ0 κ w0 E a w) {d : Nat} {κ' : Ctx} {w' : World} {x : AV} {v : Value} (hl : Le κ κ' (some d)) (hb : ∀ t g, κ.box t = some g → g < w.heap.size → w'.heap[g]? = w.heap[g]?)
    (hwi : WI P κ' w0.heap.size w') (hbl : Below w0.heap.size w0 w') (hcs1 : ∀ a v, κ'.Cs a v → κ.Cs a v ∨ w0.heap.size ≤ a.block) (hcp : ∀ a v, κ'.Cp a v → κ.Cp a v)
    (hx : VR κ' (home d x) v) (hlv : ∀ j, lookN (owned x) j = (κ'.tok d j).map (·.n)) (hot : ∀ q j, q ≠ d → κ'.tok q j = κ.tok q j) : FR P κ0 κ' w0 (E.made (some d) x) (a.put (some d) v) w' := by
  refine ⟨h.defers, by simp [Act.put, Env.made, Env.clean, h.size], fun t y hy => ?_, fun q j => ?_, hwi, hbl, fun ad v hc => hl.cs _ _ (h.cs0 ad v hc), fun ad v hc => (hcs1 ad v hc).elim (h.cs1 ad v) .inr, fun ad v hc => h.cp0 ad v (hcp ad v hc)⟩
  · simp only [Env.made, Env.clean, Act.put, List.set_set] at hy ⊢
    by_cases ht : d = t
    · subst ht
      have hlt := (List.getElem?_eq_some_iff.1 hy).1
      simp only [List.length_set, List.length_map] at hlt
      rw [List.getElem?_set_self (by simpa using hlt)] at hy
      simp only [Option.some.injEq] at hy; subst hy
      exact ⟨v, by simp [h.size, hlt], .val hx⟩
    · rw [List.getElem?_set_ne ht, List.getElem?_map] at hy
      cases hx : E.s[t]? with
      | none => simp [hx] at hy
      | some x =>
        simp only [hx, Option.map_some, Option.some.injEq] at hy; subst hy
        obtain ⟨u, hu, hs⟩ := h.slots t x hx
        exact ⟨u, by rw [Array.getElem?_setIfInBounds_ne ht]; exact hu, hs.clean hl (fun g hbx hg => hb t g hbx hg) (Ne.symm ht)⟩
  · simp only [Env.made, Env.clean]
    split
    · rename_i he; subst he; exact hlv j
    · rename_i he; rw [hot q j he]; exact h.live q j

theorem tok_cs (h : FR P κ0 κ w0 E a w) {g : Nat} (hg : g = w.heap.size) : ∀ (ad : Addr) v, κ.Cs ad v → ad.block ≠ g := fun ad v hc he => by have := cell_lt (h.wi.cs ad v hc); omega

/-- elements that read as vs in a row of the call's own -/
theorem row_reads {C : Addr → Value → Prop} {g n : Nat} {es : List (List AV)} {vs : List Value} (hk : ∀ x ∈ es, x.length = n) (hv : All2 (PR C) es.flatten vs) {c : Nat} (hc : es.length ≤ c)
    (hcell : ∀ (j : Nat) y, vs[j]? = some y → C ⟨g, j, none⟩ y) : SlR C es (some ⟨g, 0, none⟩) c :=
  ⟨n, vs, hk, hc, hv, fun j y hy => ⟨_, rfl, by rw [plain_add, Nat.zero_add]; exact hcell j y hy⟩⟩

theorem info_of {e n by_ : Nat} (hn : sizeA P e = some n) (hb : bytesA P e = some by_) : ∃ i, P.info? e = some i ∧ i.size = n ∧ i.bytes = by_ := by
  unfold sizeA at hn
  unfold bytesA at hb
  cases hi : P.info? e with
  | none => simp [hi] at hn
  | some i => simp [hi] at hn hb; exact ⟨i, rfl, hn, hb⟩
end Go.Proofs.YtcddclkccpfdkaaDoor.EV
