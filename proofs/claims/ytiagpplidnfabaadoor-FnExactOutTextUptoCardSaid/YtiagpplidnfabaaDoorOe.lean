/- OutText: what each call hands back. -/
import Derived.Test.YtiagpplidnfabaaDoorOd
import Derived.Test.YtiagpplidnfabaaDoorSz
import Derived.Test.YtiagpplidnfabaaDoorTo
import Derived.Test.YtiagpplidnfabaaDoorEa
set_option linter.unusedSimpArgs false
set_option linter.unusedVariables false
set_option maxRecDepth 20000
namespace Go.Proofs.YtiagpplidnfabaaDoor.EV
open Go.RowKit
open Classical
/-- what a call of this program hands back, by the shape of what it is given -/
def Rz (k : FuncId) (xs : List AV) (d : AV) : Prop :=
  match xs with
  | [.lit (.string a)] => d = .lit (.string (lowS a))
  | [.lit (.string a), .lit (.string b)] => d = .lit (.bool (decide (lowS a = lowS b)))
  | [.lit (.int .i64 n), .lit (.int .i64 _)] => d = .lit (.string (dig n))
  | [.lit (.int .i64 n)] => if k = 15 ∨ k = 23 then d = .lit (.bool (isTm n)) else d = .lit (.string (dig n))
  | [.lit (.int .i64 n), .lit (.int .i64 lo), .lit (.int .i64 hi)] => d = .lit (.bool (decide (lo ≤ n ∧ n ≤ hi)))
  | [.sl _ es, .lit (.string nm)] => if k = 30 then ∃ o, (o = .ex ∨ o = .ow 0 0 9) ∧ d = .sl o (vals nm es) else ∃ t, d = .tup [.lit (.string t), .lit (.bool (anyAl nm es))]
  | [.eptr x] => d = outP x
  | [.agg x, .agg y] => d = .lit (.bool (decide (x = y)))
  | [.sl _ x, .sl _ y] => d = .lit (.bool (decide (x = y)))
  | [.agg x] => if k = 5 ∨ k = 7 then d = outR x else d = .agg (x.map ex1)
  | [.sl _ x] => d = .sl .ex x
  | [_, .lit (.int .i64 _)] => Num d
  | _ => True
theorem r_of {k : FuncId} {xs : List AV} {d : AV} (hr : Rz k xs d) (hu : ∀ d', Rz k xs d' → d' = d) (h : Pure Tryd.prog k xs d) : callR Tryd.prog Rz k xs = some d := by
  obtain ⟨d', h1, h2⟩ := callR_spec (R := Rz) ⟨d, hr, h⟩
  rw [h1, hu d' h2]
theorem r_agg2 {k : FuncId} {x y : List AV} (h : Pure Tryd.prog k [.agg x, .agg y] (.lit (.bool (decide (x = y))))) : callR Tryd.prog Rz k [.agg x, .agg y] = some (.lit (.bool (decide (x = y)))) := r_of rfl (fun _ h => h) h
theorem r_sl2 {k : FuncId} {x y : List (List AV)} (h : Pure Tryd.prog k [.sl .sh x, .sl .sh y] (.lit (.bool (decide (x = y))))) : callR Tryd.prog Rz k [.sl .sh x, .sl .sh y] = some (.lit (.bool (decide (x = y)))) := r_of rfl (fun _ h => h) h
theorem r_to {k : FuncId} {x : List AV} (h : Pure Tryd.prog k [.agg x] (.agg (x.map ex1))) (hk : ¬ (k = 5 ∨ k = 7) := by decide) : callR Tryd.prog Rz k [.agg x] = some (.agg (x.map ex1)) :=
  r_of (by simp only [Rz, if_neg hk]) (fun _ h => by simpa only [Rz, if_neg hk] using h) h
theorem r_out {k : FuncId} {x : List AV} (h : Pure Tryd.prog k [.agg x] (outR x)) (hk : k = 5 ∨ k = 7) : callR Tryd.prog Rz k [.agg x] = some (outR x) :=
  r_of (by simp only [Rz, if_pos hk]) (fun _ h => by simpa only [Rz, if_pos hk] using h) h
theorem r_tos {k : FuncId} {x : List (List AV)} (h : Pure Tryd.prog k [.sl .sh x] (.sl .ex x)) : callR Tryd.prog Rz k [.sl .sh x] = some (.sl .ex x) := r_of rfl (fun _ h => h) h
theorem r_sz {k : FuncId} {x : AV} {n : Int} (h : ∃ r, Pure Tryd.prog k [x, .lit (.int .i64 n)] (.lit (.int .i64 r)) ∧ -1 ≤ r ∧ r ≤ 1048576) (hx : ∀ d, Rz k [x, .lit (.int .i64 n)] d = Num d) : ∃ r, callR Tryd.prog Rz k [x, .lit (.int .i64 n)] = some (.lit (.int .i64 r)) ∧ -1 ≤ r ∧ r ≤ 1048576 := by
  obtain ⟨r, h, h1⟩ := h
  obtain ⟨d, h2, h3⟩ := callR_spec (R := Rz) ⟨_, (by rw [hx]; exact num_mk h1 : Rz k [x, .lit (.int .i64 n)] (.lit (.int .i64 r))), h⟩
  rw [hx] at h3
  obtain ⟨r', rfl, h4⟩ := h3
  exact ⟨r', h2, h4⟩
theorem pure_sz {k : FuncId} {fn : Func} {xs : List AV} (hf : Tryd.prog.funcs[k]? = some fn) (h : ∃ m, ∃ r, evBody Tryd.prog (callR Tryd.prog Rz) m fn xs = some (.lit (.int .i64 r)) ∧ -1 ≤ r ∧ r ≤ 1048576) : ∃ r, Pure Tryd.prog k xs (.lit (.int .i64 r)) ∧ -1 ≤ r ∧ r ≤ 1048576 :=
  let ⟨m, r, h, h1⟩ := h
  ⟨r, pure_of hf ⟨m, h⟩, h1⟩
/-! the functions of the two packages -/
theorem c44 (s : ByteArray) (hs : s.size ≤ 1073741824) : callR Tryd.prog Rz 44 [.lit (.string s)] = some (.lit (.string (lowS s))) := r_of rfl (fun _ h => h) (p44 s hs)
theorem c39 (s : ByteArray) (hs : s.size ≤ 1073741824) : callR Tryd.prog Rz 39 [.lit (.string s)] = some (.lit (.string (lowS s))) := r_of rfl (fun _ h => h) (p39 s hs)
theorem c37 (s t : ByteArray) (hs : s.size ≤ 1073741824) (ht : t.size ≤ 1073741824) : callR Tryd.prog Rz 37 [.lit (.string s), .lit (.string t)] = some (.lit (.bool (decide (lowS s = lowS t)))) :=
  r_of rfl (fun _ h => h) (pure_of (R := Rz) Tryd.func37 ⟨0, ev37 _ 0 s t hs ht c44⟩)
theorem c34 (s t : ByteArray) (hs : s.size ≤ 1073741824) (ht : t.size ≤ 1073741824) : callR Tryd.prog Rz 34 [.lit (.string s), .lit (.string t)] = some (.lit (.bool (decide (lowS s = lowS t)))) :=
  r_of rfl (fun _ h => h) (pure_of (R := Rz) Tryd.func34 ⟨0, ev34 _ 0 s t hs ht c39⟩)
theorem c29 (n : Int) (h0 : -9223372036854775808 ≤ n) (h1 : n ≤ 9223372036854775807) : callR Tryd.prog Rz 29 [.lit (.int .i64 n), .lit (.int .i64 10)] = some (.lit (.string (dig n))) := r_of rfl (fun _ h => h) (p29 n h0 h1)
theorem c16 (n lo hi : Int) : callR Tryd.prog Rz 16 [.lit (.int .i64 n), .lit (.int .i64 lo), .lit (.int .i64 hi)] = some (.lit (.bool (decide (lo ≤ n ∧ n ≤ hi)))) :=
  r_of rfl (fun _ h => h) (pure_of (R := Rz) Tryd.func16 ⟨0, ev16 _ 0 n lo hi⟩)
theorem c24 (n lo hi : Int) : callR Tryd.prog Rz 24 [.lit (.int .i64 n), .lit (.int .i64 lo), .lit (.int .i64 hi)] = some (.lit (.bool (decide (lo ≤ n ∧ n ≤ hi)))) :=
  r_of rfl (fun _ h => h) (pure_of (R := Rz) Tryd.func24 ⟨0, ev24 _ 0 n lo hi⟩)
theorem c15 (n : Int) : callR Tryd.prog Rz 15 [.lit (.int .i64 n)] = some (.lit (.bool (isTm n))) :=
  r_of (by simp [Rz]) (fun _ h => by simpa [Rz] using h) (pure_of (R := Rz) Tryd.func15 ⟨0, ev15 _ 0 n c16⟩)
theorem c23 (n : Int) : callR Tryd.prog Rz 23 [.lit (.int .i64 n)] = some (.lit (.bool (isTm n))) :=
  r_of (by simp [Rz]) (fun _ h => by simpa [Rz] using h) (pure_of (R := Rz) Tryd.func23 ⟨0, ev23 _ 0 n c24⟩)
theorem c17 (n : Int) (h0 : 0 ≤ n) (h1 : n ≤ 9223372036854775807) : callR Tryd.prog Rz 17 [.lit (.int .i64 n)] = some (.lit (.string (dig n))) :=
  r_of (by simp [Rz]) (fun _ h => by simpa [Rz] using h) (pure_of (R := Rz) Tryd.func17 ⟨0, ev17 _ 0 n (c29 n (by omega) h1)⟩)
theorem p25 : ∀ (u : Nat) (n : Int), n.toNat = u → 0 ≤ n → n ≤ 9223372036854775807 → Pure Tryd.prog 25 [.lit (.int .i64 n)] (.lit (.string (dig n))) := by
  intro u
  induction u using Nat.strongRecOn with
  | _ u ih =>
    intro n hu h0 h1
    refine pure_of (R := Rz) Tryd.func25 ⟨0, ev25 _ 0 n h0 h1 (fun hn => ?_)⟩
    have d1 : n.tdiv 10 = n / 10 := Int.tdiv_eq_ediv_of_nonneg h0
    exact r_of (by simp [Rz]) (fun _ h => by simpa [Rz] using h) (ih (n.tdiv 10).toNat (by omega) _ rfl (by omega) (by omega))
theorem c25 (n : Int) (h0 : 0 ≤ n) (h1 : n ≤ 9223372036854775807) : callR Tryd.prog Rz 25 [.lit (.int .i64 n)] = some (.lit (.string (dig n))) :=
  r_of (by simp [Rz]) (fun _ h => by simpa [Rz] using h) (p25 _ n rfl h0 h1)
theorem c30 (es : List (List AV)) (nm : ByteArray) (he : OkR lay71 es) (hn : nm.size ≤ 1073741824) : ∃ o, (o = .ex ∨ o = .ow 0 0 9) ∧ callR Tryd.prog Rz 30 [.sl .sh es, .lit (.string nm)] = some (.sl o (vals nm es)) := by
  obtain ⟨m, o, ho, h⟩ := ev30 (callR Tryd.prog Rz) nm hn (fun s t => c37 s t) he
  obtain ⟨d, h1, h2⟩ := callR_spec (R := Rz) (P := Tryd.prog) (f := 30) (xs := [.sl .sh es, .lit (.string nm)]) ⟨.sl o (vals nm es), by simp only [Rz, if_true]; exact ⟨o, ho, rfl⟩, pure_of (R := Rz) Tryd.func30 ⟨m, h⟩⟩
  simp only [Rz, if_true] at h2
  obtain ⟨o', ho', rfl⟩ := h2
  exact ⟨o', ho', h1⟩
theorem c18 (es : List (List AV)) (nm : ByteArray) (he : OkR lay71 es) (hn : nm.size ≤ 1073741824) : ∃ t, callR Tryd.prog Rz 18 [.sl .sh es, .lit (.string nm)] = some (.tup [.lit (.string t), .lit (.bool (anyAl nm es))]) := by
  obtain ⟨t, h⟩ := ev18 (callR Tryd.prog Rz) 0 nm he (c30 es nm he hn)
  obtain ⟨d, h1, h2⟩ := callR_spec (R := Rz) (P := Tryd.prog) (f := 18) (xs := [.sl .sh es, .lit (.string nm)]) ⟨_, (show Rz 18 _ _ by simp only [Rz]; rw [if_neg (by decide)]; exact ⟨t, rfl⟩), pure_of (R := Rz) Tryd.func18 ⟨0, h⟩⟩
  simp only [Rz] at h2
  rw [if_neg (by decide)] at h2
  obtain ⟨t', rfl⟩ := h2
  exact ⟨t', h1⟩
theorem c26 (es : List (List AV)) (nm : ByteArray) (he : OkR lay71 es) (hn : nm.size ≤ 1073741824) : ∃ t, callR Tryd.prog Rz 26 [.sl .sh es, .lit (.string nm)] = some (.tup [.lit (.string t), .lit (.bool (anyAl nm es))]) := by
  obtain ⟨m, t, h⟩ := ev26 (callR Tryd.prog Rz) nm hn (fun s t => c34 s t) he
  obtain ⟨d, h1, h2⟩ := callR_spec (R := Rz) (P := Tryd.prog) (f := 26) (xs := [.sl .sh es, .lit (.string nm)]) ⟨_, (show Rz 26 _ _ by simp only [Rz]; rw [if_neg (by decide)]; exact ⟨t, rfl⟩), pure_of (R := Rz) Tryd.func26 ⟨m, h⟩⟩
  simp only [Rz] at h2
  rw [if_neg (by decide)] at h2
  obtain ⟨t', rfl⟩ := h2
  exact ⟨t', h1⟩
theorem c12 {x : List AV} (hx : OkL lay40 x) : callR Tryd.prog Rz 12 [.eptr x] = some (outP x) :=
  r_of rfl (fun _ h => h) (pure_of (R := Rz) Tryd.func12 ⟨0, ev12 _ 0 c23 c24 c25 c26 hx⟩)
theorem p5 {x : List AV} (hx : OkL lay40 x) : Pure Tryd.prog 5 [.agg x] (outR x) := pure_of (R := Rz) Tryd.func5 ⟨0, ev5 _ 0 hx (c12 hx)⟩
theorem p7 {x : List AV} (hx : OkL lay40 x) : Pure Tryd.prog 7 [.agg x] (outR x) := pure_of (R := Rz) Tryd.func7 ⟨0, ev7 _ 0 c15 c16 c17 c18 hx⟩
theorem p33 : ∀ x n, OkL lay69 x → 0 ≤ n → n ≤ 1048576 → ∃ r, Pure Tryd.prog 33 [.agg x, .lit (.int .i64 n)] (.lit (.int .i64 r)) ∧ -1 ≤ r ∧ r ≤ 1048576 := fun x n hx h0 h1 => pure_sz Tryd.func33 ⟨0, szf33 _ 0 hx h0 h1⟩
theorem p21 : ∀ x n, OkR lay69 x → 0 ≤ n → n ≤ 1048576 → ∃ r, Pure Tryd.prog 21 [.sl .sh x, .lit (.int .i64 n)] (.lit (.int .i64 r)) ∧ -1 ≤ r ∧ r ≤ 1048576 := fun x n hx h0 h1 => pure_sz Tryd.func21 (szf21 _ (fun x n h h0 h1 => r_sz (p33 x n h h0 h1) (fun _ => rfl)) hx h0 h1)
theorem p22 : ∀ x n, OkR lay5 x → 0 ≤ n → n ≤ 1048576 → ∃ r, Pure Tryd.prog 22 [.sl .sh x, .lit (.int .i64 n)] (.lit (.int .i64 r)) ∧ -1 ≤ r ∧ r ≤ 1048576 := fun x n hx h0 h1 => pure_sz Tryd.func22 (szf22 _ hx h0 h1)
theorem p10 : ∀ x n, OkL lay25 x → 0 ≤ n → n ≤ 1048576 → ∃ r, Pure Tryd.prog 10 [.agg x, .lit (.int .i64 n)] (.lit (.int .i64 r)) ∧ -1 ≤ r ∧ r ≤ 1048576 := fun x n hx h0 h1 => pure_sz Tryd.func10 ⟨0, szf10 _ 0 (fun x n h h0 h1 => r_sz (p21 x n h h0 h1) (fun _ => rfl)) (fun x n h h0 h1 => r_sz (p22 x n h h0 h1) (fun _ => rfl)) hx h0 h1⟩
theorem p11 : ∀ x n, OkL lay27 x → 0 ≤ n → n ≤ 1048576 → ∃ r, Pure Tryd.prog 11 [.agg x, .lit (.int .i64 n)] (.lit (.int .i64 r)) ∧ -1 ≤ r ∧ r ≤ 1048576 := fun x n hx h0 h1 => pure_sz Tryd.func11 ⟨0, szf11 _ 0 (fun x n h h0 h1 => r_sz (p21 x n h h0 h1) (fun _ => rfl)) hx h0 h1⟩
theorem p4 : ∀ x n, OkL lay29 x → 0 ≤ n → n ≤ 1048576 → ∃ r, Pure Tryd.prog 4 [.agg x, .lit (.int .i64 n)] (.lit (.int .i64 r)) ∧ -1 ≤ r ∧ r ≤ 1048576 := fun x n hx h0 h1 => pure_sz Tryd.func4 ⟨0, szf4 _ 0 (fun x n h h0 h1 => r_sz (p10 x n h h0 h1) (fun _ => rfl)) (fun x n h h0 h1 => r_sz (p11 x n h h0 h1) (fun _ => rfl)) hx h0 h1⟩
theorem p35 : ∀ x, OkL lay69 x → Pure Tryd.prog 35 [.agg x] (.agg (x.map ex1)) := fun x hx => pure_of (R := Rz) Tryd.func35 ⟨0, tof35 _ 0 hx⟩
theorem p27 : ∀ x, OkR lay69 x → Pure Tryd.prog 27 [.sl .sh x] (.sl .ex x) := fun x hx => pure_of (R := Rz) Tryd.func27 (tof27 _ (fun x h => r_to (p35 x h)) hx)
theorem p28 : ∀ x, OkR lay5 x → Pure Tryd.prog 28 [.sl .sh x] (.sl .ex x) := fun x hx => pure_of (R := Rz) Tryd.func28 (tof28 _ hx)
theorem p13 : ∀ x, OkL lay25 x → Pure Tryd.prog 13 [.agg x] (.agg (x.map ex1)) := fun x hx => pure_of (R := Rz) Tryd.func13 ⟨0, tof13 _ 0 (fun x h => r_tos (p27 x h)) (fun x h => r_tos (p28 x h)) hx⟩
theorem p14 : ∀ x, OkL lay27 x → Pure Tryd.prog 14 [.agg x] (.agg (x.map ex1)) := fun x hx => pure_of (R := Rz) Tryd.func14 ⟨0, tof14 _ 0 (fun x h => r_tos (p27 x h)) hx⟩
theorem p6 : ∀ x, OkL lay29 x → Pure Tryd.prog 6 [.agg x] (.agg (x.map ex1)) := fun x hx => pure_of (R := Rz) Tryd.func6 ⟨0, tof6 _ 0 (fun x h => r_to (p13 x h)) (fun x h => r_to (p14 x h)) hx⟩
theorem p8 : ∀ x y, OkL lay32 x → OkL lay32 y → Pure Tryd.prog 8 [.agg x, .agg y] (.lit (.bool (decide (x = y)))) := fun x y hx hy => pure_of (R := Rz) Tryd.func8 ⟨0, same8 _ 0 hx hy⟩
theorem p38 : ∀ x y, OkL lay71 x → OkL lay71 y → Pure Tryd.prog 38 [.agg x, .agg y] (.lit (.bool (decide (x = y)))) := fun x y hx hy => pure_of (R := Rz) Tryd.func38 ⟨0, same38 _ 0 hx hy⟩
theorem p31 : ∀ x y, OkR lay71 x → OkR lay71 y → Pure Tryd.prog 31 [.sl .sh x, .sl .sh y] (.lit (.bool (decide (x = y)))) := fun x y hx hy => pure_of (R := Rz) Tryd.func31 (same31 _ (fun x y h h' => r_agg2 (p38 x y h h')) hx hy)
theorem p32 : ∀ x y, OkR lay5 x → OkR lay5 y → Pure Tryd.prog 32 [.sl .sh x, .sl .sh y] (.lit (.bool (decide (x = y)))) := fun x y hx hy => pure_of (R := Rz) Tryd.func32 (same32 _ hx hy)
theorem p19 : ∀ x y, OkL lay36 x → OkL lay36 y → Pure Tryd.prog 19 [.agg x, .agg y] (.lit (.bool (decide (x = y)))) := fun x y hx hy => pure_of (R := Rz) Tryd.func19 ⟨0, same19 _ 0 (fun x y h h' => r_sl2 (p31 x y h h')) (fun x y h h' => r_sl2 (p32 x y h h')) hx hy⟩
theorem p20 : ∀ x y, OkL lay38 x → OkL lay38 y → Pure Tryd.prog 20 [.agg x, .agg y] (.lit (.bool (decide (x = y)))) := fun x y hx hy => pure_of (R := Rz) Tryd.func20 ⟨0, same20 _ 0 (fun x y h h' => r_sl2 (p31 x y h h')) hx hy⟩
theorem p9 : ∀ x y, OkL lay40 x → OkL lay40 y → Pure Tryd.prog 9 [.agg x, .agg y] (.lit (.bool (decide (x = y)))) := fun x y hx hy => pure_of (R := Rz) Tryd.func9 ⟨0, same9 _ 0 (fun x y h h' => r_agg2 (p19 x y h h')) (fun x y h h' => r_agg2 (p20 x y h h')) hx hy⟩

end Go.Proofs.YtiagpplidnfabaaDoor.EV
