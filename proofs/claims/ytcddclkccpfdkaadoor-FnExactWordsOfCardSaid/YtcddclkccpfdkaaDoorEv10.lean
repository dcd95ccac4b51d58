/- append -/
import Derived.Test.YtcddclkccpfdkaaDoorEv9
set_option linter.unusedSimpArgs false
set_option linter.unusedVariables false
namespace Go.Proofs.YtcddclkccpfdkaaDoor.EV
open Go.RowKit
variable {P : Program} {κ0 κ : Ctx} {w w0 : World} {E : Env} {a : Act}

theorem elemA_spec {t e : Nat} (h : elemA P t = some e) : P.underlying t = some (.slice e) := by
  unfold elemA at h
  split at h
  · simp only [Option.some.injEq] at h; subst h; assumption
  · cases h
theorem zlenA_spec {e n : Nat} {i : TypeInfo} (hi : P.info? e = some i) (h : zlenA P e = some n) : ∃ z, i.zero = some z ∧ z.cells.size = n := by
  unfold zlenA at h
  cases hz : i.zero with
  | none => simp [hi, hz] at h
  | some z => simp [hi, hz] at h; exact ⟨z, rfl, h⟩

theorem append_nothing {t e : Nat} {A B : Option Addr} {len cap cap' : Nat} (ht : P.underlying t = some (.slice e)) {n : Nat} (hn : sizeA P e = some n) (hle : len ≤ cap) (ty : TypeId) (w : World) :
    (Builtin.append_ #[t, t] ty #[.slice A len cap, .slice B 0 cap']).run P w = .ok (.slice A len cap) w := by
  have hs := sizeA_run hn
  cases A <;> cases B <;> simp [Builtin.append_, underlying_run ht, hs, Builtin.lenOf, hle, Builtin.firstCells, loadCells, loadCellsFrom, storeCells]

/-- a new array -/
theorem append_new {t e n by_ : Nat} {A : Option Addr} {b : Addr} {lx ly cap' : Nat} {vs us : List Value} {i : TypeInfo} {z : Value} (ht : P.underlying t = some (.slice e)) (hi : P.info? e = some i) (hin : i.size = n) (hib : i.bytes = by_) (hz : i.zero = some z) (hzs : z.cells.size = n)
    {cap : Nat} (hcap : cap < lx + ly) (hA0 : A = none → lx = 0 ∧ cap = 0) (hvl : vs.length = lx * n) (hul : us.length = ly * n) (hv : ∀ (j : Nat) y, vs[j]? = some y → ∃ a, A = some a ∧ w.cell? (a.add j) = some y) (hu : ∀ (j : Nat) y, us[j]? = some y → w.cell? (b.add j) = some y)
    (hly : 0 < ly) (hlim : (lx + ly) * by_ ≤ LIM) (hmax : lx + ly ≤ maxLen) (ty : TypeId) :
    ∃ cap2 cur w', (Builtin.append_ #[t, t] ty #[.slice A lx cap, .slice (some b) ly cap']).run P w = .ok (.slice (some ⟨w.heap.size, 0, none⟩) (lx + ly) cap2) w' ∧ w' = w.drew.alloc (.cells cur e) ∧ cur.size = cap2 * n ∧ lx + ly ≤ cap2 ∧ cap2 ≤ maxLen ∧
      ∀ (j : Nat) y, (vs ++ us)[j]? = some y → cur[j]? = some y := by
  subst hin; subst hib
  unfold LIM at hlim
  have h63 : ((lx + ly : Nat) : Int) ≤ 9223372036854775807 := by simp only [maxLen] at hmax; omega
  have key : ∀ old, ∃ cur, cur = vs.toArray ++ us.toArray ++ Builtin.zeroCells z.cells (grownCap w (lx + ly) old e - (lx + ly)) ∧ cur.size = grownCap w (lx + ly) old e * i.size ∧ lx + ly ≤ grownCap w (lx + ly) old e ∧ grownCap w (lx + ly) old e ≤ maxLen ∧
      ∀ (j : Nat) y, (vs ++ us)[j]? = some y → cur[j]? = some y := by
    intro old
    have h1 := grownCap_ge w (lx + ly) old e
    refine ⟨_, rfl, ?_, h1, grownCap_le_maxLen w _ _ _ hmax, fun j y hy => ?_⟩
    · simp only [Array.size_append, List.size_toArray, size_zeroCells, hzs, hvl, hul, ← Nat.add_mul]
      congr 1; omega
    · have hlt := (List.getElem?_eq_some_iff.1 hy).1
      rw [show vs.toArray ++ us.toArray = (vs ++ us).toArray by simp]
      rw [Array.getElem?_append_left (by simpa using hlt)]
      simpa using hy
  cases A with
  | none =>
    obtain ⟨rfl, rfl⟩ := hA0 rfl
    have hv0 : vs = [] := List.eq_nil_of_length_eq_zero (by simpa using hvl)
    subst hv0
    obtain ⟨cur, hc, h1, h2, h3, h4⟩ := key 0
    have hr := run_append_nil (P := P) w t ty e i z ht hi hz b ly cap' us hul hu hly (by omega) (by simp only [Nat.zero_add] at hlim; omega)
    simp only [Nat.zero_add] at hc h1 h2 h3 ⊢
    exact ⟨_, cur, _, hr, by rw [hc]; simp, h1, h2, h3, h4⟩
  | some a =>
    obtain ⟨cur, hc, h1, h2, h3, h4⟩ := key cap
    have hr := run_append_grow (P := P) w t ty e i z ht hi hz a lx cap vs hvl (fun j y hy => by obtain ⟨a', ha, hc⟩ := hv j y hy; cases ha; exact hc) b ly cap' us hul hu hcap h63 (growslice_fits hcap hlim)
    exact ⟨_, cur, _, hr, by rw [hc], h1, h2, h3, h4⟩

theorem PR.one {C : Addr → Value → Prop} {x : AV} {v : Value} (h : PR C x v) : v.oneCell' = true := by
  cases h with
  | lit v h => exact h
  | sl => rfl
theorem All2.ones {C : Addr → Value → Prop} {l : List AV} {vs : List Value} (h : All2 (PR C) l vs) : ∀ u ∈ vs, u.oneCell' = true := fun u hu => by
  obtain ⟨j, hj⟩ := List.getElem?_of_mem hu
  have hlt : j < l.length := by rw [h.1]; exact (List.getElem?_eq_some_iff.1 hj).1
  exact (h.2 j _ _ (List.getElem?_eq_getElem hlt) hj).one

/-- a row of the call's own has grown -/
theorem FR.grown (h : FR P κ0 κ w0 E a w) {d k j : Nat} {xs ys : List (List AV)} {vs us : List Value} {τ0 τ : Tok} {w' : World} (ht0 : κ.tok k j = some τ0) (hn0 : τ0.n = xs.length) (hly : 0 < ys.length) (he : τ0.e = τ.e) (hτn : τ.n = xs.length + ys.length)
    (hs : w.heap.size ≤ w'.heap.size) (hb : ∀ q, q < w.heap.size → q ≠ τ.g → w'.heap[q]? = w.heap[q]?) (hgg : τ.g = τ0.g ∨ τ.g = w.heap.size) (hbl : Below w0.heap.size w0 w')
    (hτ : τ.n ≤ τ.cap ∧ τ.cap ≤ maxLen ∧ 0 < τ.size ∧ sizeA P τ.e = some τ.size ∧ ∃ cur, w'.heap[τ.g]? = some (.cells cur τ.e (0, 0)) ∧ cur.size = τ.cap * τ.size)
    (hsz : τ0.size = τ.size) (hvx : All2 (PR κ.Cs) xs.flatten vs) (hvy : All2 (PR κ.Cs) ys.flatten us) (sp : ∀ x ∈ xs ++ ys, x.length = τ.size) (hvl : vs.length = xs.length * τ.size) (hul : us.length = ys.length * τ.size)
    (hold : ∀ a v, κ.Cs a v → a.block = τ.g → w'.cell? a = some v) (hnew : ∀ (j : Nat) y, (vs ++ us)[j]? = some y → w'.cell? ⟨τ.g, j, none⟩ = some y) :
    FR P κ0 (κ.withTok k j τ w') w0 { s := E.s.set d (.sl (.ow k j τ.e) (xs ++ ys)), live := fun k' j' => if k' = k ∧ j' = j then some (xs.length + ys.length) else E.live k' j' } (a.put (some d) (.slice (some ⟨τ.g, 0, none⟩) (xs ++ ys).length τ.cap)) w' := by
  obtain ⟨hb1, hb2, hb3, hb4, hb5, cur0, hb6, hb7⟩ := h.wi.tok k j τ0 ht0
  have hg0 := tok_lt hb6
  have hl : Le κ (κ.withTok k j τ w') none := ⟨fun _ _ hc => .inl hc, fun _ _ hc => hc, fun _ _ _ hc => hc, fun q i τ' _ ht => by
    simp only [Ctx.withTok] at ht
    split at ht
    · rename_i hh; obtain ⟨rfl, rfl⟩ := hh
      simp only [Option.some.injEq] at ht; subst ht
      exact ⟨τ0, ht0, .inr ⟨he, by omega⟩⟩
    · exact ⟨τ', ht, .inl rfl⟩⟩
  have hbase : w0.heap.size ≤ τ.g := by have := h.bl.size; rcases hgg with hg | hg <;> omega
  have hwi : WI P (κ.withTok k j τ w') w0.heap.size w' := by
    refine h.wi.row hs hb ⟨hbase, hτ⟩ (fun ad v hc hbk => ⟨hold ad v hc hbk, ?_⟩) (fun ad v hbk hc => ?_) (fun q g hq hbk => ?_) (fun q i τ' hq => ?_)
    · rcases hgg with hg | hg
      · have := (h.wi.tokc k j τ0 ht0 ad v (hbk.trans hg)).1 hc
        refine Nat.lt_of_lt_of_le this ?_
        rw [hsz]; exact Nat.mul_le_mul_right _ (by omega)
      · have := cell_lt (h.wi.cs ad v hc); omega
    · rcases hgg with hg | hg
      · exact (h.wi.tokc k j τ0 ht0 ad v (hbk.trans hg)).2 hc
      · have := cell_lt (h.wi.cp ad v hc); omega
    · rcases hgg with hg | hg
      · exact h.wi.tokb k j τ0 q g ht0 hq (by omega)
      · have := (h.wi.box q g hq).2.1; omega
    · by_cases hh : q = k ∧ i = j
      · exact .inl hh
      · refine .inr fun hbk => ?_
        rcases hgg with hg | hg
        · exact hh (h.wi.toki q i τ' k j τ0 hq ht0 (hbk.trans hg))
        · obtain ⟨_, _, _, _, _, cur', hc, _⟩ := h.wi.tok q i τ' hq
          have := tok_lt hc; omega
  have hbx : ∀ q g, κ.box q = some g → g < w.heap.size → w'.heap[g]? = w.heap[g]? := fun q g hq hlt => hb g hlt (fun hbk => by
    rcases hgg with hg | hg
    · exact h.wi.tokb k j τ0 q g ht0 hq (by omega)
    · omega)
  have hfr : FR P κ0 (κ.withTok k j τ w') w0 { s := E.s, live := fun k' j' => if k' = k ∧ j' = j then some (xs.length + ys.length) else E.live k' j' } a w' := by
    refine ⟨h.defers, h.size, fun t x hx => ?_, fun q i => ?_, hwi, hbl, fun ad v hc => .inl (h.cs0 ad v hc), ?_, h.cp0⟩
    · obtain ⟨u, hu, hsr⟩ := h.slots t x hx
      exact ⟨u, hu, hsr.mono hl (fun g hq hlt => hbx t g hq hlt)⟩
    · simp only [Ctx.withTok]
      split
      · simp [hτn]
      · exact h.live q i
    · rintro ad v (hc | ⟨h1, _, _⟩)
      · exact h.cs1 ad v hc
      · exact .inr (by omega)
  refine hfr.put (some d) (.c0 (.sl (row_reads sp (vs := vs ++ us) ?_ (by rw [List.length_append, ← hτn]; exact hτ.1) (fun i y hy => ?_)) ?_))
  · rw [List.flatten_append]
    exact (hvx.imp fun _ _ hp => hp.mono hl.cs).append (hvy.imp fun _ _ hp => hp.mono hl.cs)
  · refine .inr ⟨rfl, ?_, hnew i y hy⟩
    have := (List.getElem?_eq_some_iff.1 hy).1
    simp only [List.length_append, hvl, hul, ← Nat.add_mul] at this
    rw [hτn]; exact this
  · intro τ' ht'
    simp only [Ctx.withTok, and_self, if_true, Option.some.injEq] at ht'
    subst ht'
    exact ⟨rfl, by rw [List.length_append]; omega, fun _ => ⟨rfl, rfl⟩⟩

theorem append_sound (h : FR P κ0 κ w0 E a w) {d t : Nat} {ax ay : AV} {vx vy : Value} (hx : VR κ ax vx) (hy : VR κ ay vy) {E' : Env} (hs : appendStep P E d t ax ay = some E') (ty : TypeId) :
    ∃ v' w' κ', (Builtin.append_ #[t, t] ty #[vx, vy]).run P w = .ok v' w' ∧ FR P κ0 κ' w0 E' (a.put (some d) v') w' := by
  unfold appendStep at hs
  split at hs
  · rename_i e ox xs oy ys he
    have ht := elemA_spec he
    obtain ⟨A, c, rfl, hxs, hox⟩ := hx.sl_inv
    obtain ⟨B, c', rfl, hys, hoy⟩ := hy.sl_inv
    split at hs
    · rename_i n by_ hn hby
      obtain ⟨i, hi, hin, hib⟩ := info_of hn hby
      split at hs
      · rename_i hcond
        obtain ⟨hn0, hlim, hmax, hsx, hsy, hzl⟩ := hcond
        obtain ⟨z, hz, hzs⟩ := zlenA_spec hi hzl
        have spx := sized_spec hsx
        have spy := sized_spec hsy
        obtain ⟨vs, hcx, hvx, hvl, hvc⟩ := hxs.at_size spx
        obtain ⟨us, hcy, hvy, hul, huc⟩ := hys.at_size spy
        split at hs
        · simp only [Option.some.injEq] at hs; subst hs
          exact ⟨_, w, κ, append_nothing ht hn hcx ty w, h.put (some d) hx⟩
        · rename_i y1 yr
          have hu0 : 0 < us.length := by rw [hul]; exact Nat.mul_pos (by simp) hn0
          obtain ⟨b, rfl, _⟩ := huc 0 _ (List.getElem?_eq_getElem hu0)
          have huc' : ∀ (j : Nat) y, us[j]? = some y → w.cell? (b.add j) = some y := fun j y hj => by obtain ⟨b', hb, hc⟩ := huc j y hj; cases hb; exact h.wi.cs _ _ hc
          have hvc' : ∀ (j : Nat) y, vs[j]? = some y → ∃ a, A = some a ∧ w.cell? (a.add j) = some y := fun j y hj => by obtain ⟨b', hb, hc⟩ := hvc j y hj; exact ⟨b', hb, h.wi.cs _ _ hc⟩
          generalize hys' : y1 :: yr = ys at *
          have hly : 0 < ys.length := by rw [← hys']; simp
          clear hys'
          have spxy : ∀ x ∈ xs ++ ys, x.length = n := fun x hx => (List.mem_append.1 hx).elim (spx x) (spy x)
          split at hs
          · -- exact: a new array
            simp only [Option.some.injEq] at hs; subst hs
            simp only [OwnOK] at hox
            obtain ⟨cap2, cur, w', hr, hw', hcs, hc1, hc2, hcell⟩ := append_new (cap' := c') ht hi hin hib hz hzs (cap := c) (by omega) (fun hA => by
              have : vs = [] := by
                cases vs with
                | nil => rfl
                | cons y vs => obtain ⟨_, ha, _⟩ := hvc' 0 y rfl; rw [hA] at ha; cases ha
              have h0 : xs.length * n = 0 := by rw [← hvl, this]; rfl
              have : xs.length = 0 := by rcases Nat.mul_eq_zero.1 h0 with h | h <;> omega
              exact ⟨this, by omega⟩) hvl hul hvc' huc' hly hlim hmax ty
            have hnew : w'.heap[w.heap.size]? = some (.cells cur e (0, 0)) := by rw [hw']; exact heap_alloc_new w.drew _
            have hold : ∀ q, q < w.heap.size → w'.heap[q]? = w.heap[q]? := fun q hq => by rw [hw']; exact heap_alloc_old w.drew _ hq
            have hsz : w.heap.size ≤ w'.heap.size := by rw [hw']; simp
            let τ : Tok := ⟨w.heap.size, xs.length + ys.length, cap2, n, e⟩
            have hwd := h.wi.drop d
            have hwi := hwd.row (k := d) (j := 0) (τ := τ) hsz (fun q hq _ => hold q hq) ⟨h.bl.size, hc1, hc2, hn0, hn, cur, hnew, hcs⟩
              (fun ad v hc he => absurd he (tok_cs h rfl ad v hc)) (fun ad v he hc => by have := cell_lt (h.wi.cp ad v hc); simp only [τ] at he; omega)
              (fun q g hq => by have := (hwd.box q g hq).2.1; simp only [τ]; omega)
              (fun q i' τ' hq => .inr (by obtain ⟨_, _, _, _, _, cur', hc, _⟩ := hwd.tok q i' τ' hq; have := tok_lt hc; simp only [τ]; omega))
            have hl : Le κ ((κ.drop d).withTok d 0 τ w') (some d) := ⟨fun _ _ hc => .inl hc, fun _ _ hc => hc, (Le.drop κ d).box, fun q j τ' hq ht => by
              simp only [Ctx.withTok] at ht
              rw [if_neg (by intro hh; exact hq (by rw [hh.1]))] at ht
              exact (Le.drop κ d).tok q j τ' hq ht⟩
            refine ⟨_, w', (κ.drop d).withTok d 0 τ w', hr, h.made hl (fun t g _ hg => hold g hg) hwi ?_ ?_ (fun _ _ hc => hc) ?_ ?_ ?_⟩
            · rw [hw']; exact (h.bl.drew).alloc h.bl.size _
            · rintro ad v (hc | ⟨h1, _, _⟩)
              · exact .inl hc
              · exact .inr (by have := h.bl.size; simp only [τ] at h1; omega)
            · refine .c0 ?_
              show CR0 _ (.sl (.ow d 0 e) (xs ++ ys)) _
              have := CR0.sl (κ := (κ.drop d).withTok d 0 τ w') (o := .ow d 0 e) (es := xs ++ ys) (A := some ⟨w.heap.size, 0, none⟩) (c := cap2) (row_reads (g := w.heap.size) spxy (c := cap2) (vs := vs ++ us) ?_ (by simpa using hc1) (fun j y hj => ?_)) ?_
              · simpa using this
              · rw [List.flatten_append]
                exact (hvx.imp fun _ _ hp => hp.mono hl.cs).append (hvy.imp fun _ _ hp => hp.mono hl.cs)
              · refine .inr ⟨rfl, ?_, ?_⟩
                · have := (List.getElem?_eq_some_iff.1 hj).1
                  simp only [List.length_append, hvl, hul, ← Nat.add_mul] at this
                  exact this
                · simp [World.cell?, hnew, hcell j y hj]
              · intro τ' ht'
                simp only [Ctx.withTok, true_and, and_self, if_true, Option.some.injEq] at ht'
                subst ht'
                exact ⟨rfl, by simp [τ], fun _ => ⟨rfl, rfl⟩⟩
            · intro j
              simp only [owned, ownedA, owned1, if_true, lookN, Ctx.withTok, true_and, List.find?_cons]
              by_cases hj : j = 0
              · subst hj; simp [τ]
              · have : (0 == j) = false := by simpa using fun h => hj h.symm
                simp [hj, this, Ctx.drop]
            · intro q j hq
              simp only [Ctx.withTok]
              rw [if_neg (fun hh => hq hh.1)]
              simp [Ctx.drop, hq]
          · -- a row of the call's own
            rename_i k j e'
            split at hs
            · rename_i hlv
              obtain ⟨rfl, hlive⟩ := hlv
              simp only [Option.some.injEq] at hs; subst hs
              rw [h.live k j] at hlive
              cases ht0 : κ.tok k j with
              | none => simp [ht0] at hlive
              | some τ0 =>
                simp only [ht0, Option.map_some, Option.some.injEq] at hlive
                obtain ⟨rfl, _, hfull⟩ := hox τ0 ht0
                obtain ⟨rfl, rfl⟩ := hfull hlive.symm
                obtain ⟨hb1, hb2, hb3, hb4, hb5, cur0, hb6, hb7⟩ := h.wi.tok k j τ0 ht0
                have hsz0 : τ0.size = n := by rw [hn] at hb5; exact (Option.some.inj hb5).symm
                obtain ⟨g0, n0, cap0, size0, e0⟩ := τ0
                simp only at hlive hb1 hb2 hb3 hb4 hb6 hb7 hsz0 hn hn0 hzl hx hxs hox hvc hvc' hcx ht he hby hi
                subst hsz0
                by_cases hroom : xs.length + ys.length ≤ cap0
                · have hfit : xs.length * size0 + us.length ≤ cur0.size := by rw [hb7, hul, ← Nat.add_mul]; exact Nat.mul_le_mul_right _ hroom
                  have hr := run_append_room (P := P) w t ty e0 i ht hi g0 xs.length cap0 cur0 hb6 b ys.length c' us (by rw [hin]; exact hul) huc' hvy.ones hroom (by rw [hin]; exact hfit)
                  rw [hin] at hr
                  have hcv : ∀ (q : Nat) y, vs[q]? = some y → cur0[q]? = some y := fun q y hq => by
                    obtain ⟨a', ha', hc⟩ := hvc' q y hq
                    cases ha'
                    rw [plain_add, Nat.zero_add] at hc
                    simpa [World.cell?, hb6] using hc
                  have hcl : cur0.size = cap0 * size0 := hb7
                  have hlen : xs.length * size0 ≤ cur0.size := by omega
                  have htk : cur0.toList.take (xs.length * size0) = vs := by
                    apply List.ext_getElem?
                    intro q
                    rw [List.getElem?_take]
                    by_cases hq : q < xs.length * size0
                    · rw [if_pos hq]
                      have hq' : q < vs.length := by rw [hvl]; exact hq
                      rw [List.getElem?_eq_getElem hq']
                      have := hcv q _ (List.getElem?_eq_getElem hq')
                      simpa using this
                    · rw [if_neg hq, List.getElem?_eq_none (by rw [hvl]; omega)]
                  rw [htk] at hr
                  refine ⟨_, _, κ.withTok k j ⟨g0, xs.length + ys.length, cap0, size0, e0⟩ (w.setRow g0 (vs ++ us ++ cur0.toList.drop (xs.length * size0 + us.length)).toArray), hr, ?_⟩
                  have hset := setRow_heap w g0 cur0 (vs ++ us ++ cur0.toList.drop (xs.length * size0 + us.length)).toArray e0 (0, 0) hb6
                  have := h.grown (d := d) (xs := xs) (ys := ys) (τ := ⟨g0, xs.length + ys.length, cap0, size0, e0⟩) (w' := w.setRow g0 (vs ++ us ++ cur0.toList.drop (xs.length * size0 + us.length)).toArray) ht0 hlive hly rfl rfl (by simp) (fun q _ hq => setRow_other w g0 q _ hq) (.inl rfl) (below_setRow h.bl hb1 _)
                    ⟨hroom, hb3, hb4, hb5, _, hset, by simp [hvl, hcl]; omega⟩ rfl hvx hvy spxy hvl hul (fun ad v hc hbk => ?_) (fun q y hq => ?_)
                  · simpa using this
                  · have hc0 := h.wi.cs ad v hc
                    have hoff := (h.wi.tokc k j _ ht0 ad v hbk).1 hc
                    simp only [hlive] at hoff
                    obtain ⟨ab, aoff, aspot⟩ := ad
                    simp only at hbk hoff; subst hbk
                    simp only [World.cell?, hb6] at hc0
                    simp only [World.cell?, hset]
                    split at hc0
                    · cases hc0
                    · rename_i hsp
                      rw [if_neg hsp]
                      have hv' : vs[aoff]? = some v := by
                        rw [← htk, List.getElem?_take, if_pos hoff]; simpa using hc0
                      have hlt : aoff < vs.length := (List.getElem?_eq_some_iff.1 hv').1
                      rw [List.getElem?_toArray, List.append_assoc, List.getElem?_append_left hlt]
                      exact hv'
                  · have hlt := (List.getElem?_eq_some_iff.1 hq).1
                    simp only [World.cell?, hset, Option.isSome_none, Bool.false_eq_true, if_false]
                    rw [List.getElem?_toArray, List.getElem?_append_left hlt]
                    exact hq
                · obtain ⟨cap2, cur, w', hr, hw', hcs, hc1, hc2, hcell⟩ := append_new (cap' := c') ht hi hin hib hz hzs (cap := cap0) (by omega) (fun hA => by cases hA) hvl hul hvc' huc' hly hlim hmax ty
                  have hnew : w'.heap[w.heap.size]? = some (.cells cur e0 (0, 0)) := by rw [hw']; exact heap_alloc_new w.drew _
                  have hold : ∀ q, q < w.heap.size → w'.heap[q]? = w.heap[q]? := fun q hq => by rw [hw']; exact heap_alloc_old w.drew _ hq
                  refine ⟨_, _, κ.withTok k j ⟨w.heap.size, xs.length + ys.length, cap2, size0, e0⟩ w', hr, ?_⟩
                  have := h.grown (d := d) (xs := xs) (ys := ys) (τ := ⟨w.heap.size, xs.length + ys.length, cap2, size0, e0⟩) (w' := w') ht0 hlive hly rfl rfl (by rw [hw']; simp) (fun q hq _ => hold q hq) (.inr rfl) (by rw [hw']; exact (h.bl.drew).alloc h.bl.size _)
                    ⟨hc1, hc2, hb4, hb5, _, hnew, hcs⟩ rfl hvx hvy spxy hvl hul (fun ad v hc hbk => ?_) (fun q y hq => ?_)
                  · simpa using this
                  · exact absurd hbk (tok_cs h rfl ad v hc)
                  · simp [World.cell?, hnew, hcell q y hq]
            · cases hs
          · cases hs
      · cases hs
    · cases hs
  · cases hs
end Go.Proofs.YtcddclkccpfdkaaDoor.EV
