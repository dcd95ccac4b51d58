/- The step from 'Pure' to a row of a law: what was read, what is handed back. -/
import Derived.Test.YtcddclkccpfdkaaDoorRd
import Derived.WalkKit
import Derived.ProofKit
import Derived.JoinedCond
import Derived.Below
import Derived.ChangeSame
import Derived.WideKeyArgs
set_option linter.unusedSimpArgs false
set_option linter.unusedVariables false
namespace Go.Proofs.YtcddclkccpfdkaaDoor.EV
open Go.ChangeShapes Go.WideShapes Go.ChangeAt Go.RowKit
variable {P : Program}

/-- the first world: nobody writes what lies there -/
def ctxOf (W : World) : Ctx := { Cs := fun a v => W.cell? a = some v, Cp := fun _ _ => False, box := fun _ => none, tok := fun _ _ => none }
theorem ctx_wi (W : World) (b : Nat) : WI P (ctxOf W) b W where
  cs _ _ h := h
  cp _ _ h := h.elim
  box _ _ h := by cases h
  boxi _ _ _ h := by cases h
  tok _ _ _ h := by cases h
  tokc _ _ _ h := by cases h
  toki _ _ _ _ _ _ h := by cases h
  tokb _ _ _ _ _ h := by cases h
/-- a law that answers 'true' -/
theorem calls_true {f : FuncId} {xs : List AV} {vs : List Value} {W : World} (ht : TabW P W) (hp : Pure P f xs (.lit (.bool true))) (hv : All2 (VR (ctxOf W)) xs vs) :
    Calls P f vs.toArray W fun e W' => e = .returned (.bool true) ∧ Below W.heap.size W W' :=
  (hp (ctxOf W) W vs ht (fun _ => rfl) (fun _ _ => rfl) (ctx_wi W _) hv).mono fun e W' ⟨v, κ', he, hr⟩ => by
    have h := hr.vr
    cases h with
    | a h => cases h with
      | c h => cases h with
        | c0 h => cases h; exact ⟨he, hr.bl⟩

section
variable {H : Type} {enc : TypeId × Value → H}
theorem read_struct {r : Reach} {b : Nat} {base : Nat} {W : World} {sp : Nat → Bool} {hd : Bool} {t : TypeId} {ls : List Lay} {fs : Array Field} {v : Value} {d : DataW H} {ps : List MemPlace} (n : Nat) (hl : layB P n t = some ls) (hu : P.underlying t = some (.struct fs))
    (hval : Value.okWide P W r b t v) (hd : DataW.Trod enc P W base sp hd t v d ps) (hb : Rows.uptoBulk d ≤ 1048576) : ∃ xs, OkL ls xs ∧ VR (ctxOf W) (.agg xs) v := by
  unfold Value.okWide at hval
  rw [hu] at hval
  obtain ⟨cs, rfl, _, _⟩ := hval
  obtain ⟨fuel, hf⟩ := hd
  obtain ⟨xs, ho, hp⟩ := reads trivial n t ls fuel _ _ hl hf hb
  simp only [Value.cells] at hp
  exact ⟨xs, ho, .a (.agg (vs := cs.toList) (hp.imp fun _ _ h => PR.cr (κ := ctxOf W) h))⟩

theorem trodAll_stays (hl : laidOutB P = true) {W W' : World} (hb : Below W.heap.size W W') {sp : Nat → Bool} : ∀ {ts : List TypeId} {vs : List Value} {ds : List (DataW H)} {ps : List MemPlace}, (∀ t ∈ ts, P.readableRec t = true ∧ t < P.types.size) →
    DataW.TrodAll enc P W 0 (fun _ => true) true ts vs ds ps → (∀ x ∈ ps, x.block < W.heap.size) → (∀ x ∈ ps, sp x.block = true) → DataW.TrodAll enc P W' 0 sp true ts vs ds ps
  | [], [], [], _, _, h, _, _ => h
  | t :: ts, v :: vs, d :: ds, ps, ht, ⟨p, q, h1, h2, e⟩, hlt, hs => by
    subst e
    exact ⟨p, q, WideElems.Trod_stays hl (ht t (by simp)).1 (ht t (by simp)).2 h1 (fun x hx => hb.same (hlt x (List.mem_append_left _ hx))) (fun x hx => hs x (List.mem_append_left _ hx)),
      trodAll_stays hl hb (fun t' h' => ht t' (List.mem_cons_of_mem _ h')) h2 (fun x hx => hlt x (List.mem_append_right _ hx)) (fun x hx => hs x (List.mem_append_right _ hx)), rfl⟩

theorem post_below {f : Func} {s : ChangeSpec} {apart fresh handsOn again : Bool} {W W' : World} {args : Array Value} {v : Value} {ds gs : List (DataW H)} {before pa pv : List MemPlace}
    (hW : DataW.Whole enc P f.params.toList s.vars apart W args.toList ds gs before)
    (hres : ∀ (b : Nat) (sp : Nat → Bool) (hd : Bool), DataW.TrodAll enc P W' b sp hd f.resultTypes.toList (v.resultList f.resultTypes.size) (s.fn H (ds ++ gs)).results [])
    (hargs : ∀ sp : Nat → Bool, (∀ p ∈ before, sp p.block = true) → DataW.TrodAll enc P W' 0 sp true f.params.toList args.toList (s.fn H (ds ++ gs)).args pa)
    (hvars : ∀ sp : Nat → Bool, (∀ p ∈ before, sp p.block = true) → DataW.TrodVars enc P W' sp s.vars (s.fn H (ds ++ gs)).vars pv)
    (hps : before = pa ++ pv) (hb : Below W.heap.size W W')
    (hok : ∀ (j : Nat) (t : TypeId) (r : Value), f.resultTypes[j]? = some t → (v.resultList f.resultTypes.size)[j]? = some r → Value.okWide P W' .any 0 t r) :
    s.post enc P f apart fresh handsOn again W args v W' := by
  have hlt : ∀ p ∈ before, p.block < W.heap.size := fun p hp => hW.lt p hp
  have hold : ∀ p ∈ before, (fun b => decide (b < W.heap.size)) p.block = true := fun p hp => by simpa using hlt p hp
  refine ⟨ds, gs, before, [], pa, pv, hW, hres _ _ _, hargs _ hold, hvars _ hold, World.keptBut_mono (fun p hp => ⟨hp, ?_⟩) (hb.frame (· ∈ before)), fun _ => ?_⟩
  · rw [hps, List.mem_append] at hp
    exact Or.inr hp
  · obtain ⟨_, _, _, _, _, hz, hn⟩ := hW
    refine ⟨hok, _, _, ([] ++ pa) ++ pv, ⟨[] ++ pa, pv, trodAll_append (hargs _ (fun _ _ => rfl)) (hres _ _ _), hvars _ (fun _ _ => rfl), rfl, ?_, ?_⟩, ?_⟩
    · intro b off hp
      have hin : MemPlace.cell b off ∈ before := by rw [hps]; simpa using hp
      rw [hb.frozen (hlt _ hin)]
      exact hz b off hin
    · intro ha
      have := hn ha
      rw [hps] at this
      simpa using this
    · intro p hp _
      rw [hps]
      simpa using hp
end
end Go.Proofs.YtcddclkccpfdkaaDoor.EV
