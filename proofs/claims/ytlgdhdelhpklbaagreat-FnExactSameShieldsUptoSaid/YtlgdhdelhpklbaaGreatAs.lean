/- The contracts put together. -/
import Derived.Test.YtlgdhdelhpklbaaGreatSz
import Derived.Test.YtlgdhdelhpklbaaGreatTo
import Derived.Test.YtlgdhdelhpklbaaGreatEa
import Derived.Test.YtlgdhdelhpklbaaGreatEb
import Derived.Test.YtlgdhdelhpklbaaGreatEc
import Derived.Test.YtlgdhdelhpklbaaGreatEd
import Derived.Test.YtlgdhdelhpklbaaGreatEe
set_option maxRecDepth 20000
set_option linter.unusedSimpArgs false
set_option linter.unusedVariables false
namespace Go.Proofs.YtlgdhdelhpklbaaGreat.EV
open Go.RowKit
open Classical
def ptn (k : Nat) : Nat := if k = 13 then 17 else if k = 64 then 13 else 0
/-- what a call of this program hands back, by the shape of what it is given -/
def Rz (k : FuncId) (xs : List AV) (d : AV) : Prop :=
  match xs with
  | [.agg x, .agg y] => d = .lit (.bool (decide (x = y)))
  | [.sl _ x, .sl _ y] => d = .lit (.bool (decide (x = y)))
  | [.sl _ x, .sl _ y, .fn _ _] => d = .lit (.bool (decide (x = y)))
  | [.eptr x, .eptr y] => d = .lit (.bool (decide (x.take (ptn k) = y.take (ptn k))))
  | [.agg x] => d = .agg (x.map ex1)
  | [.sl _ x] => d = .sl .ex x
  | [_, .lit (.int .i64 _)] => Num d
  | _ => True
theorem r_of {k : FuncId} {xs : List AV} {d : AV} (hr : Rz k xs d) (hu : ∀ d', Rz k xs d' → d' = d) (h : Pure Tryz.prog k xs d) : callR Tryz.prog Rz k xs = some d := by
  obtain ⟨d', h1, h2⟩ := callR_spec (R := Rz) ⟨d, hr, h⟩
  rw [h1, hu d' h2]
theorem r_agg2 {k : FuncId} {x y : List AV} (h : Pure Tryz.prog k [.agg x, .agg y] (.lit (.bool (decide (x = y))))) : callR Tryz.prog Rz k [.agg x, .agg y] = some (.lit (.bool (decide (x = y)))) := r_of rfl (fun _ h => h) h
theorem r_sl2 {k : FuncId} {x y : List (List AV)} (h : Pure Tryz.prog k [.sl .sh x, .sl .sh y] (.lit (.bool (decide (x = y))))) : callR Tryz.prog Rz k [.sl .sh x, .sl .sh y] = some (.lit (.bool (decide (x = y)))) := r_of rfl (fun _ h => h) h
theorem r_sl3 {k g : FuncId} {x y : List (List AV)} (h : Pure Tryz.prog k [.sl .sh x, .sl .sh y, .fn g []] (.lit (.bool (decide (x = y))))) : callR Tryz.prog Rz k [.sl .sh x, .sl .sh y, .fn g []] = some (.lit (.bool (decide (x = y)))) := r_of rfl (fun _ h => h) h
theorem r_ptr {k : FuncId} {x y rx ry : List AV} (hx : x.length = ptn k) (hy : y.length = ptn k) (h : Pure Tryz.prog k [.eptr (x ++ rx), .eptr (y ++ ry)] (.lit (.bool (decide (x = y))))) : callR Tryz.prog Rz k [.eptr (x ++ rx), .eptr (y ++ ry)] = some (.lit (.bool (decide (x = y)))) := by
  have e : ∀ d, Rz k [.eptr (x ++ rx), .eptr (y ++ ry)] d = (d = .lit (.bool (decide (x = y)))) := by
    intro d
    show (d = .lit (.bool (decide ((x ++ rx).take (ptn k) = (y ++ ry).take (ptn k))))) = _
    rw [List.take_append_of_le_length (by omega), List.take_of_length_le (by omega), List.take_append_of_le_length (by omega), List.take_of_length_le (by omega)]
  exact r_of (by rw [e]) (fun d h => by rw [e] at h; exact h) h
theorem r_to {k : FuncId} {x : List AV} (h : Pure Tryz.prog k [.agg x] (.agg (x.map ex1))) : callR Tryz.prog Rz k [.agg x] = some (.agg (x.map ex1)) := r_of rfl (fun _ h => h) h
theorem r_tos {k : FuncId} {x : List (List AV)} (h : Pure Tryz.prog k [.sl .sh x] (.sl .ex x)) : callR Tryz.prog Rz k [.sl .sh x] = some (.sl .ex x) := r_of rfl (fun _ h => h) h
theorem r_sz {k : FuncId} {x : AV} {n : Int} (h : ∃ r, Pure Tryz.prog k [x, .lit (.int .i64 n)] (.lit (.int .i64 r)) ∧ -1 ≤ r ∧ r ≤ 1048576) (hx : ∀ d, Rz k [x, .lit (.int .i64 n)] d = Num d) : ∃ r, callR Tryz.prog Rz k [x, .lit (.int .i64 n)] = some (.lit (.int .i64 r)) ∧ -1 ≤ r ∧ r ≤ 1048576 := by
  obtain ⟨r, h, h1⟩ := h
  obtain ⟨d, h2, h3⟩ := callR_spec (R := Rz) ⟨_, (by rw [hx]; exact num_mk h1 : Rz k [x, .lit (.int .i64 n)] (.lit (.int .i64 r))), h⟩
  rw [hx] at h3
  obtain ⟨r', rfl, h4⟩ := h3
  exact ⟨r', h2, h4⟩
theorem pure_sz {k : FuncId} {fn : Func} {xs : List AV} (hf : Tryz.prog.funcs[k]? = some fn) (h : ∃ m, ∃ r, evBody Tryz.prog (callR Tryz.prog Rz) m fn xs = some (.lit (.int .i64 r)) ∧ -1 ≤ r ∧ r ≤ 1048576) : ∃ r, Pure Tryz.prog k xs (.lit (.int .i64 r)) ∧ -1 ≤ r ∧ r ≤ 1048576 :=
  let ⟨m, r, h, h1⟩ := h
  ⟨r, pure_of hf ⟨m, h⟩, h1⟩
theorem p31 : ∀ x n, OkR lay9 x → 0 ≤ n → n ≤ 1048576 → ∃ r, Pure Tryz.prog 31 [.sl .sh x, .lit (.int .i64 n)] (.lit (.int .i64 r)) ∧ -1 ≤ r ∧ r ≤ 1048576 := fun x n hx h0 h1 => pure_sz Tryz.func31 (szf31 _ hx h0 h1)
theorem p9 : ∀ x n, OkL lay28 x → 0 ≤ n → n ≤ 1048576 → ∃ r, Pure Tryz.prog 9 [.agg x, .lit (.int .i64 n)] (.lit (.int .i64 r)) ∧ -1 ≤ r ∧ r ≤ 1048576 := fun x n hx h0 h1 => pure_sz Tryz.func9 ⟨0, szf9 _ 0 (fun x n h h0 h1 => r_sz (p31 x n h h0 h1) (fun _ => rfl)) hx h0 h1⟩
theorem p98 : ∀ x n, OkL lay163 x → 0 ≤ n → n ≤ 1048576 → ∃ r, Pure Tryz.prog 98 [.agg x, .lit (.int .i64 n)] (.lit (.int .i64 r)) ∧ -1 ≤ r ∧ r ≤ 1048576 := fun x n hx h0 h1 => pure_sz Tryz.func98 ⟨0, szf98 _ 0 hx h0 h1⟩
theorem p82 : ∀ x n, OkR lay163 x → 0 ≤ n → n ≤ 1048576 → ∃ r, Pure Tryz.prog 82 [.sl .sh x, .lit (.int .i64 n)] (.lit (.int .i64 r)) ∧ -1 ≤ r ∧ r ≤ 1048576 := fun x n hx h0 h1 => pure_sz Tryz.func82 (szf82 _ (fun x n h h0 h1 => r_sz (p98 x n h h0 h1) (fun _ => rfl)) hx h0 h1)
theorem p83 : ∀ x n, OkR lay5 x → 0 ≤ n → n ≤ 1048576 → ∃ r, Pure Tryz.prog 83 [.sl .sh x, .lit (.int .i64 n)] (.lit (.int .i64 r)) ∧ -1 ≤ r ∧ r ≤ 1048576 := fun x n hx h0 h1 => pure_sz Tryz.func83 (szf83 _ hx h0 h1)
theorem p59 : ∀ x n, OkL lay128 x → 0 ≤ n → n ≤ 1048576 → ∃ r, Pure Tryz.prog 59 [.agg x, .lit (.int .i64 n)] (.lit (.int .i64 r)) ∧ -1 ≤ r ∧ r ≤ 1048576 := fun x n hx h0 h1 => pure_sz Tryz.func59 ⟨0, szf59 _ 0 (fun x n h h0 h1 => r_sz (p82 x n h h0 h1) (fun _ => rfl)) (fun x n h h0 h1 => r_sz (p83 x n h h0 h1) (fun _ => rfl)) (fun x n h h0 h1 => r_sz (p31 x n h h0 h1) (fun _ => rfl)) hx h0 h1⟩
theorem p32 : ∀ x n, OkR lay128 x → 0 ≤ n → n ≤ 1048576 → ∃ r, Pure Tryz.prog 32 [.sl .sh x, .lit (.int .i64 n)] (.lit (.int .i64 r)) ∧ -1 ≤ r ∧ r ≤ 1048576 := fun x n hx h0 h1 => pure_sz Tryz.func32 (szf32 _ (fun x n h h0 h1 => r_sz (p59 x n h h0 h1) (fun _ => rfl)) hx h0 h1)
theorem p10 : ∀ x n, OkL lay31 x → 0 ≤ n → n ≤ 1048576 → ∃ r, Pure Tryz.prog 10 [.agg x, .lit (.int .i64 n)] (.lit (.int .i64 r)) ∧ -1 ≤ r ∧ r ≤ 1048576 := fun x n hx h0 h1 => pure_sz Tryz.func10 ⟨0, szf10 _ 0 (fun x n h h0 h1 => r_sz (p32 x n h h0 h1) (fun _ => rfl)) hx h0 h1⟩
theorem p84 : ∀ x n, OkR lay166 x → 0 ≤ n → n ≤ 1048576 → ∃ r, Pure Tryz.prog 84 [.sl .sh x, .lit (.int .i64 n)] (.lit (.int .i64 r)) ∧ -1 ≤ r ∧ r ≤ 1048576 := fun x n hx h0 h1 => pure_sz Tryz.func84 (szf84 _ hx h0 h1)
theorem p60 : ∀ x n, OkL lay82 x → 0 ≤ n → n ≤ 1048576 → ∃ r, Pure Tryz.prog 60 [.agg x, .lit (.int .i64 n)] (.lit (.int .i64 r)) ∧ -1 ≤ r ∧ r ≤ 1048576 := fun x n hx h0 h1 => pure_sz Tryz.func60 ⟨0, szf60 _ 0 (fun x n h h0 h1 => r_sz (p84 x n h h0 h1) (fun _ => rfl)) hx h0 h1⟩
theorem p85 : ∀ x n, OkR lay168 x → 0 ≤ n → n ≤ 1048576 → ∃ r, Pure Tryz.prog 85 [.sl .sh x, .lit (.int .i64 n)] (.lit (.int .i64 r)) ∧ -1 ≤ r ∧ r ≤ 1048576 := fun x n hx h0 h1 => pure_sz Tryz.func85 (szf85 _ hx h0 h1)
theorem p61 : ∀ x n, OkL lay85 x → 0 ≤ n → n ≤ 1048576 → ∃ r, Pure Tryz.prog 61 [.agg x, .lit (.int .i64 n)] (.lit (.int .i64 r)) ∧ -1 ≤ r ∧ r ≤ 1048576 := fun x n hx h0 h1 => pure_sz Tryz.func61 ⟨0, szf61 _ 0 (fun x n h h0 h1 => r_sz (p85 x n h h0 h1) (fun _ => rfl)) hx h0 h1⟩
theorem p33 : ∀ x n, OkL lay87 x → 0 ≤ n → n ≤ 1048576 → ∃ r, Pure Tryz.prog 33 [.agg x, .lit (.int .i64 n)] (.lit (.int .i64 r)) ∧ -1 ≤ r ∧ r ≤ 1048576 := fun x n hx h0 h1 => pure_sz Tryz.func33 ⟨0, szf33 _ 0 (fun x n h h0 h1 => r_sz (p60 x n h h0 h1) (fun _ => rfl)) (fun x n h h0 h1 => r_sz (p61 x n h h0 h1) (fun _ => rfl)) hx h0 h1⟩
theorem p11 : ∀ x n, OkR lay87 x → 0 ≤ n → n ≤ 1048576 → ∃ r, Pure Tryz.prog 11 [.sl .sh x, .lit (.int .i64 n)] (.lit (.int .i64 r)) ∧ -1 ≤ r ∧ r ≤ 1048576 := fun x n hx h0 h1 => pure_sz Tryz.func11 (szf11 _ (fun x n h h0 h1 => r_sz (p33 x n h h0 h1) (fun _ => rfl)) hx h0 h1)
theorem p62 : ∀ x n, OkL lay91 x → 0 ≤ n → n ≤ 1048576 → ∃ r, Pure Tryz.prog 62 [.agg x, .lit (.int .i64 n)] (.lit (.int .i64 r)) ∧ -1 ≤ r ∧ r ≤ 1048576 := fun x n hx h0 h1 => pure_sz Tryz.func62 ⟨0, szf62 _ 0 (fun x n h h0 h1 => r_sz (p82 x n h h0 h1) (fun _ => rfl)) hx h0 h1⟩
theorem p63 : ∀ x n, OkR lay159 x → 0 ≤ n → n ≤ 1048576 → ∃ r, Pure Tryz.prog 63 [.sl .sh x, .lit (.int .i64 n)] (.lit (.int .i64 r)) ∧ -1 ≤ r ∧ r ≤ 1048576 := fun x n hx h0 h1 => pure_sz Tryz.func63 (szf63 _ hx h0 h1)
theorem p34 : ∀ x n, OkL lay94 x → 0 ≤ n → n ≤ 1048576 → ∃ r, Pure Tryz.prog 34 [.agg x, .lit (.int .i64 n)] (.lit (.int .i64 r)) ∧ -1 ≤ r ∧ r ≤ 1048576 := fun x n hx h0 h1 => pure_sz Tryz.func34 ⟨0, szf34 _ 0 (fun x n h h0 h1 => r_sz (p62 x n h h0 h1) (fun _ => rfl)) (fun x n h h0 h1 => r_sz (p63 x n h h0 h1) (fun _ => rfl)) hx h0 h1⟩
theorem p12 : ∀ x n, OkR lay94 x → 0 ≤ n → n ≤ 1048576 → ∃ r, Pure Tryz.prog 12 [.sl .sh x, .lit (.int .i64 n)] (.lit (.int .i64 r)) ∧ -1 ≤ r ∧ r ≤ 1048576 := fun x n hx h0 h1 => pure_sz Tryz.func12 (szf12 _ (fun x n h h0 h1 => r_sz (p34 x n h h0 h1) (fun _ => rfl)) hx h0 h1)
theorem p4 : ∀ x n, OkL lay35 x → 0 ≤ n → n ≤ 1048576 → ∃ r, Pure Tryz.prog 4 [.agg x, .lit (.int .i64 n)] (.lit (.int .i64 r)) ∧ -1 ≤ r ∧ r ≤ 1048576 := fun x n hx h0 h1 => pure_sz Tryz.func4 ⟨0, szf4 _ 0 (fun x n h h0 h1 => r_sz (p9 x n h h0 h1) (fun _ => rfl)) (fun x n h h0 h1 => r_sz (p10 x n h h0 h1) (fun _ => rfl)) (fun x n h h0 h1 => r_sz (p11 x n h h0 h1) (fun _ => rfl)) (fun x n h h0 h1 => r_sz (p12 x n h h0 h1) (fun _ => rfl)) hx h0 h1⟩
theorem p35 : ∀ x y, OkR lay9 x → OkR lay9 y → Pure Tryz.prog 35 [.sl .sh x, .sl .sh y] (.lit (.bool (decide (x = y)))) := fun x y hx hy => pure_of (R := Rz) Tryz.func35 (same35 _ hx hy)
theorem p13 : ∀ x y rx ry, OkL lay41 x → OkL lay41 y → Pure Tryz.prog 13 [.eptr (x ++ rx), .eptr (y ++ ry)] (.lit (.bool (decide (x = y)))) := fun x y rx ry hx hy => pure_of (R := Rz) Tryz.func13 ⟨0, same13 _ 0 (fun x y h h' => r_sl2 (p35 x y h h')) hx hy⟩
theorem p65 : ∀ x y, OkR lay146 x → OkR lay146 y → Pure Tryz.prog 65 [.sl .sh x, .sl .sh y] (.lit (.bool (decide (x = y)))) := fun x y hx hy => pure_of (R := Rz) Tryz.func65 (same65 _ hx hy)
theorem p64 : ∀ x y rx ry, OkL lay119 x → OkL lay119 y → Pure Tryz.prog 64 [.eptr (x ++ rx), .eptr (y ++ ry)] (.lit (.bool (decide (x = y)))) := fun x y rx ry hx hy => pure_of (R := Rz) Tryz.func64 ⟨0, same64 _ 0 (fun x y h h' => r_sl2 (p65 x y h h')) (fun x y h h' => r_sl2 (p35 x y h h')) hx hy⟩
theorem p36 : ∀ x y, OkR lay119 x → OkR lay119 y → Pure Tryz.prog 36 [.sl .sh x, .sl .sh y] (.lit (.bool (decide (x = y)))) := fun x y hx hy => pure_of (R := Rz) Tryz.func36 (same36 _ (fun x y rx ry h h' => r_ptr h.1 h'.1 (p64 x y rx ry h h')) hx hy)
theorem p14 : ∀ x y, OkL lay44 x → OkL lay44 y → Pure Tryz.prog 14 [.agg x, .agg y] (.lit (.bool (decide (x = y)))) := fun x y hx hy => pure_of (R := Rz) Tryz.func14 ⟨0, same14 _ 0 (fun x y h h' => r_sl2 (p36 x y h h')) hx hy⟩
theorem p37 : ∀ x y, OkL lay99 x → OkL lay99 y → Pure Tryz.prog 37 [.agg x, .agg y] (.lit (.bool (decide (x = y)))) := fun x y hx hy => pure_of (R := Rz) Tryz.func37 ⟨0, same37 _ 0 (fun x y h h' => r_sl2 (p65 x y h h')) hx hy⟩
theorem p38 : ∀ x y, OkR lay137 x → OkR lay137 y → Pure Tryz.prog 38 [.sl .sh x, .sl .sh y] (.lit (.bool (decide (x = y)))) := fun x y hx hy => pure_of (R := Rz) Tryz.func38 (same38 _ hx hy)
theorem p15 : ∀ x y, OkR lay102 x → OkR lay102 y → Pure Tryz.prog 15 [.sl .sh x, .sl .sh y] (.lit (.bool (decide (x = y)))) := fun x y hx hy => pure_of (R := Rz) Tryz.func15 (same15 _ (fun x y h h' => r_agg2 (p37 x y h h')) (fun x y h h' => r_sl2 (p38 x y h h')) hx hy)
theorem p16 : ∀ x y, OkL lay61 x → OkL lay61 y → Pure Tryz.prog 16 [.agg x, .agg y] (.lit (.bool (decide (x = y)))) := fun x y hx hy => pure_of (R := Rz) Tryz.func16 (same16 _ hx hy)
theorem p39 : ∀ x y, OkR lay139 x → OkR lay139 y → Pure Tryz.prog 39 [.sl .sh x, .sl .sh y] (.lit (.bool (decide (x = y)))) := fun x y hx hy => pure_of (R := Rz) Tryz.func39 (same39 _ hx hy)
theorem p17 : ∀ x y, OkL lay64 x → OkL lay64 y → Pure Tryz.prog 17 [.agg x, .agg y] (.lit (.bool (decide (x = y)))) := fun x y hx hy => pure_of (R := Rz) Tryz.func17 ⟨0, same17 _ 0 (fun x y h h' => r_sl2 (p39 x y h h')) hx hy⟩
theorem p5 : ∀ x y, OkL lay48 x → OkL lay48 y → Pure Tryz.prog 5 [.agg x, .agg y] (.lit (.bool (decide (x = y)))) := fun x y hx hy => pure_of (R := Rz) Tryz.func5 (same5 _ (fun x y rx ry h h' => r_ptr h.1 h'.1 (p13 x y rx ry h h')) (fun x y h h' => r_agg2 (p14 x y h h')) (fun x y h h' => r_sl2 (p15 x y h h')) (fun x y h h' => r_agg2 (p16 x y h h')) (fun x y h h' => r_agg2 (p17 x y h h')) hx hy)
theorem p40 : ∀ x, OkR lay9 x → Pure Tryz.prog 40 [.sl .sh x] (.sl .ex x) := fun x hx => pure_of (R := Rz) Tryz.func40 (tof40 _ hx)
theorem p41 : ∀ x, OkL lay24 x → Pure Tryz.prog 41 [.agg x] (.agg (x.map ex1)) := fun x hx => pure_of (R := Rz) Tryz.func41 ⟨0, tof41 _ 0 hx⟩
theorem p42 : ∀ x, OkL lay26 x → Pure Tryz.prog 42 [.agg x] (.agg (x.map ex1)) := fun x hx => pure_of (R := Rz) Tryz.func42 ⟨0, tof42 _ 0 hx⟩
theorem p18 : ∀ x, OkL lay28 x → Pure Tryz.prog 18 [.agg x] (.agg (x.map ex1)) := fun x hx => pure_of (R := Rz) Tryz.func18 ⟨0, tof18 _ 0 (fun x h => r_tos (p40 x h)) (fun x h => r_to (p41 x h)) (fun x h => r_to (p42 x h)) hx⟩
theorem p99 : ∀ x, OkL lay163 x → Pure Tryz.prog 99 [.agg x] (.agg (x.map ex1)) := fun x hx => pure_of (R := Rz) Tryz.func99 ⟨0, tof99 _ 0 hx⟩
theorem p86 : ∀ x, OkR lay163 x → Pure Tryz.prog 86 [.sl .sh x] (.sl .ex x) := fun x hx => pure_of (R := Rz) Tryz.func86 (tof86 _ (fun x h => r_to (p99 x h)) hx)
theorem p87 : ∀ x, OkR lay5 x → Pure Tryz.prog 87 [.sl .sh x] (.sl .ex x) := fun x hx => pure_of (R := Rz) Tryz.func87 (tof87 _ hx)
theorem p88 : ∀ x, OkL lay126 x → Pure Tryz.prog 88 [.agg x] (.agg (x.map ex1)) := fun x hx => pure_of (R := Rz) Tryz.func88 ⟨0, tof88 _ 0 hx⟩
theorem p66 : ∀ x, OkL lay128 x → Pure Tryz.prog 66 [.agg x] (.agg (x.map ex1)) := fun x hx => pure_of (R := Rz) Tryz.func66 ⟨0, tof66 _ 0 (fun x h => r_tos (p86 x h)) (fun x h => r_tos (p87 x h)) (fun x h => r_to (p88 x h)) (fun x h => r_tos (p40 x h)) hx⟩
theorem p43 : ∀ x, OkR lay128 x → Pure Tryz.prog 43 [.sl .sh x] (.sl .ex x) := fun x hx => pure_of (R := Rz) Tryz.func43 (tof43 _ (fun x h => r_to (p66 x h)) hx)
theorem p19 : ∀ x, OkL lay31 x → Pure Tryz.prog 19 [.agg x] (.agg (x.map ex1)) := fun x hx => pure_of (R := Rz) Tryz.func19 ⟨0, tof19 _ 0 (fun x h => r_tos (p43 x h)) hx⟩
theorem p100 : ∀ x, OkL lay166 x → Pure Tryz.prog 100 [.agg x] (.agg (x.map ex1)) := fun x hx => pure_of (R := Rz) Tryz.func100 ⟨0, tof100 _ 0 hx⟩
theorem p89 : ∀ x, OkR lay166 x → Pure Tryz.prog 89 [.sl .sh x] (.sl .ex x) := fun x hx => pure_of (R := Rz) Tryz.func89 (tof89 _ (fun x h => r_to (p100 x h)) hx)
theorem p67 : ∀ x, OkL lay82 x → Pure Tryz.prog 67 [.agg x] (.agg (x.map ex1)) := fun x hx => pure_of (R := Rz) Tryz.func67 ⟨0, tof67 _ 0 (fun x h => r_tos (p89 x h)) hx⟩
theorem p101 : ∀ x, OkL lay168 x → Pure Tryz.prog 101 [.agg x] (.agg (x.map ex1)) := fun x hx => pure_of (R := Rz) Tryz.func101 ⟨0, tof101 _ 0 hx⟩
theorem p90 : ∀ x, OkR lay168 x → Pure Tryz.prog 90 [.sl .sh x] (.sl .ex x) := fun x hx => pure_of (R := Rz) Tryz.func90 (tof90 _ (fun x h => r_to (p101 x h)) hx)
theorem p68 : ∀ x, OkL lay85 x → Pure Tryz.prog 68 [.agg x] (.agg (x.map ex1)) := fun x hx => pure_of (R := Rz) Tryz.func68 ⟨0, tof68 _ 0 (fun x h => r_tos (p90 x h)) hx⟩
theorem p44 : ∀ x, OkL lay87 x → Pure Tryz.prog 44 [.agg x] (.agg (x.map ex1)) := fun x hx => pure_of (R := Rz) Tryz.func44 ⟨0, tof44 _ 0 (fun x h => r_to (p67 x h)) (fun x h => r_to (p68 x h)) hx⟩
theorem p20 : ∀ x, OkR lay87 x → Pure Tryz.prog 20 [.sl .sh x] (.sl .ex x) := fun x hx => pure_of (R := Rz) Tryz.func20 (tof20 _ (fun x h => r_to (p44 x h)) hx)
theorem p69 : ∀ x, OkL lay91 x → Pure Tryz.prog 69 [.agg x] (.agg (x.map ex1)) := fun x hx => pure_of (R := Rz) Tryz.func69 ⟨0, tof69 _ 0 (fun x h => r_tos (p86 x h)) hx⟩
theorem p91 : ∀ x, OkL lay159 x → Pure Tryz.prog 91 [.agg x] (.agg (x.map ex1)) := fun x hx => pure_of (R := Rz) Tryz.func91 ⟨0, tof91 _ 0 hx⟩
theorem p70 : ∀ x, OkR lay159 x → Pure Tryz.prog 70 [.sl .sh x] (.sl .ex x) := fun x hx => pure_of (R := Rz) Tryz.func70 (tof70 _ (fun x h => r_to (p91 x h)) hx)
theorem p45 : ∀ x, OkL lay94 x → Pure Tryz.prog 45 [.agg x] (.agg (x.map ex1)) := fun x hx => pure_of (R := Rz) Tryz.func45 ⟨0, tof45 _ 0 (fun x h => r_to (p69 x h)) (fun x h => r_tos (p70 x h)) hx⟩
theorem p21 : ∀ x, OkR lay94 x → Pure Tryz.prog 21 [.sl .sh x] (.sl .ex x) := fun x hx => pure_of (R := Rz) Tryz.func21 (tof21 _ (fun x h => r_to (p45 x h)) hx)
theorem p6 : ∀ x, OkL lay35 x → Pure Tryz.prog 6 [.agg x] (.agg (x.map ex1)) := fun x hx => pure_of (R := Rz) Tryz.func6 ⟨0, tof6 _ 0 (fun x h => r_to (p18 x h)) (fun x h => r_to (p19 x h)) (fun x h => r_tos (p20 x h)) (fun x h => r_tos (p21 x h)) hx⟩
theorem p46 : ∀ x y, OkR lay9 x → OkR lay9 y → Pure Tryz.prog 46 [.sl .sh x, .sl .sh y] (.lit (.bool (decide (x = y)))) := fun x y hx hy => pure_of (R := Rz) Tryz.func46 (same46 _ hx hy)
theorem p22 : ∀ x y, OkL lay41 x → OkL lay41 y → Pure Tryz.prog 22 [.agg x, .agg y] (.lit (.bool (decide (x = y)))) := fun x y hx hy => pure_of (R := Rz) Tryz.func22 ⟨0, same22 _ 0 (fun x y h h' => r_sl2 (p46 x y h h')) hx hy⟩
theorem p71 : ∀ x y, OkR lay146 x → OkR lay146 y → Pure Tryz.prog 71 [.sl .sh x, .sl .sh y] (.lit (.bool (decide (x = y)))) := fun x y hx hy => pure_of (R := Rz) Tryz.func71 (same71 _ hx hy)
theorem p72 : ∀ x y, OkR lay5 x → OkR lay5 y → Pure Tryz.prog 72 [.sl .sh x, .sl .sh y] (.lit (.bool (decide (x = y)))) := fun x y hx hy => pure_of (R := Rz) Tryz.func72 ⟨0, same72 _ 0 hx hy⟩
theorem p48 : ∀ x y, OkL lay119 x → OkL lay119 y → Pure Tryz.prog 48 [.agg x, .agg y] (.lit (.bool (decide (x = y)))) := fun x y hx hy => pure_of (R := Rz) Tryz.func48 ⟨0, same48 _ 0 (fun x y h h' => r_sl2 (p71 x y h h')) (fun x y h h' => r_sl2 (p72 x y h h')) (fun x y h h' => r_sl2 (p46 x y h h')) hx hy⟩
theorem p47_48 : ∀ x y, OkR lay119 x → OkR lay119 y → Pure Tryz.prog 47 [.sl .sh x, .sl .sh y, .fn 48 []] (.lit (.bool (decide (x = y)))) := fun x y hx hy => pure_of (R := Rz) Tryz.func47 (same47 _ (g := 48) (by kernel_rfl) (fun x y h h' => r_agg2 (p48 x y h h')) hx hy)
theorem p23 : ∀ x y, OkL lay44 x → OkL lay44 y → Pure Tryz.prog 23 [.agg x, .agg y] (.lit (.bool (decide (x = y)))) := fun x y hx hy => pure_of (R := Rz) Tryz.func23 ⟨0, same23 _ 0 (fun x y h h' => r_sl3 (p47_48 x y h h')) hx hy⟩
theorem p73 : ∀ x y, OkR lay106 x → OkR lay106 y → Pure Tryz.prog 73 [.sl .sh x, .sl .sh y] (.lit (.bool (decide (x = y)))) := fun x y hx hy => pure_of (R := Rz) Tryz.func73 (same73 _ hx hy)
theorem p49 : ∀ x y, OkL lay61 x → OkL lay61 y → Pure Tryz.prog 49 [.agg x, .agg y] (.lit (.bool (decide (x = y)))) := fun x y hx hy => pure_of (R := Rz) Tryz.func49 ⟨0, same49 _ 0 (fun x y h h' => r_sl2 (p73 x y h h')) hx hy⟩
theorem p74 : ∀ x y, OkR lay139 x → OkR lay139 y → Pure Tryz.prog 74 [.sl .sh x, .sl .sh y] (.lit (.bool (decide (x = y)))) := fun x y hx hy => pure_of (R := Rz) Tryz.func74 (same74 _ hx hy)
theorem p50 : ∀ x y, OkL lay64 x → OkL lay64 y → Pure Tryz.prog 50 [.agg x, .agg y] (.lit (.bool (decide (x = y)))) := fun x y hx hy => pure_of (R := Rz) Tryz.func50 ⟨0, same50 _ 0 (fun x y h h' => r_sl2 (p74 x y h h')) hx hy⟩
theorem p25 : ∀ x y, OkL lay66 x → OkL lay66 y → Pure Tryz.prog 25 [.agg x, .agg y] (.lit (.bool (decide (x = y)))) := fun x y hx hy => pure_of (R := Rz) Tryz.func25 ⟨0, same25 _ 0 (fun x y h h' => r_agg2 (p49 x y h h')) (fun x y h h' => r_agg2 (p50 x y h h')) hx hy⟩
theorem p24_25 : ∀ x y, OkR lay66 x → OkR lay66 y → Pure Tryz.prog 24 [.sl .sh x, .sl .sh y, .fn 25 []] (.lit (.bool (decide (x = y)))) := fun x y hx hy => pure_of (R := Rz) Tryz.func24 (same24 _ (g := 25) (by kernel_rfl) (fun x y h h' => r_agg2 (p25 x y h h')) hx hy)
theorem p75 : ∀ x y, OkL lay99 x → OkL lay99 y → Pure Tryz.prog 75 [.agg x, .agg y] (.lit (.bool (decide (x = y)))) := fun x y hx hy => pure_of (R := Rz) Tryz.func75 ⟨0, same75 _ 0 (fun x y h h' => r_sl2 (p71 x y h h')) hx hy⟩
theorem p76 : ∀ x y, OkR lay137 x → OkR lay137 y → Pure Tryz.prog 76 [.sl .sh x, .sl .sh y] (.lit (.bool (decide (x = y)))) := fun x y hx hy => pure_of (R := Rz) Tryz.func76 (same76 _ hx hy)
theorem p52 : ∀ x y, OkL lay102 x → OkL lay102 y → Pure Tryz.prog 52 [.agg x, .agg y] (.lit (.bool (decide (x = y)))) := fun x y hx hy => pure_of (R := Rz) Tryz.func52 ⟨0, same52 _ 0 (fun x y h h' => r_agg2 (p75 x y h h')) (fun x y h h' => r_sl2 (p76 x y h h')) hx hy⟩
theorem p51_52 : ∀ x y, OkR lay102 x → OkR lay102 y → Pure Tryz.prog 51 [.sl .sh x, .sl .sh y, .fn 52 []] (.lit (.bool (decide (x = y)))) := fun x y hx hy => pure_of (R := Rz) Tryz.func51 (same51 _ (g := 52) (by kernel_rfl) (fun x y h h' => r_agg2 (p52 x y h h')) hx hy)
theorem p26 : ∀ x y, OkR lay102 x → OkR lay102 y → Pure Tryz.prog 26 [.sl .sh x, .sl .sh y] (.lit (.bool (decide (x = y)))) := fun x y hx hy => pure_of (R := Rz) Tryz.func26 ⟨0, same26 _ 0 (fun x y h h' => r_sl3 (p51_52 x y h h')) hx hy⟩
theorem p7 : ∀ x y, OkL lay48 x → OkL lay48 y → Pure Tryz.prog 7 [.agg x, .agg y] (.lit (.bool (decide (x = y)))) := fun x y hx hy => pure_of (R := Rz) Tryz.func7 ⟨0, same7 _ 0 (fun x y h h' => r_agg2 (p22 x y h h')) (fun x y h h' => r_agg2 (p23 x y h h')) (fun x y h h' => r_sl3 (p24_25 x y h h')) (fun x y h h' => r_sl2 (p26 x y h h')) hx hy⟩
theorem p53 : ∀ x y, OkR lay9 x → OkR lay9 y → Pure Tryz.prog 53 [.sl .sh x, .sl .sh y] (.lit (.bool (decide (x = y)))) := fun x y hx hy => pure_of (R := Rz) Tryz.func53 (same53 _ hx hy)
theorem p54 : ∀ x y, OkL lay38 x → OkL lay38 y → Pure Tryz.prog 54 [.agg x, .agg y] (.lit (.bool (decide (x = y)))) := fun x y hx hy => pure_of (R := Rz) Tryz.func54 ⟨0, same54 _ 0 hx hy⟩
theorem p55 : ∀ x y, OkL lay39 x → OkL lay39 y → Pure Tryz.prog 55 [.agg x, .agg y] (.lit (.bool (decide (x = y)))) := fun x y hx hy => pure_of (R := Rz) Tryz.func55 ⟨0, same55 _ 0 hx hy⟩
theorem p27 : ∀ x y, OkL lay41 x → OkL lay41 y → Pure Tryz.prog 27 [.agg x, .agg y] (.lit (.bool (decide (x = y)))) := fun x y hx hy => pure_of (R := Rz) Tryz.func27 ⟨0, same27 _ 0 (fun x y h h' => r_sl2 (p53 x y h h')) (fun x y h h' => r_agg2 (p54 x y h h')) (fun x y h h' => r_agg2 (p55 x y h h')) hx hy⟩
theorem p102 : ∀ x y, OkL lay146 x → OkL lay146 y → Pure Tryz.prog 102 [.agg x, .agg y] (.lit (.bool (decide (x = y)))) := fun x y hx hy => pure_of (R := Rz) Tryz.func102 ⟨0, same102 _ 0 hx hy⟩
theorem p92 : ∀ x y, OkR lay146 x → OkR lay146 y → Pure Tryz.prog 92 [.sl .sh x, .sl .sh y] (.lit (.bool (decide (x = y)))) := fun x y hx hy => pure_of (R := Rz) Tryz.func92 (same92 _ (fun x y h h' => r_agg2 (p102 x y h h')) hx hy)
theorem p93 : ∀ x y, OkR lay5 x → OkR lay5 y → Pure Tryz.prog 93 [.sl .sh x, .sl .sh y] (.lit (.bool (decide (x = y)))) := fun x y hx hy => pure_of (R := Rz) Tryz.func93 (same93 _ hx hy)
theorem p94 : ∀ x y, OkL lay117 x → OkL lay117 y → Pure Tryz.prog 94 [.agg x, .agg y] (.lit (.bool (decide (x = y)))) := fun x y hx hy => pure_of (R := Rz) Tryz.func94 ⟨0, same94 _ 0 hx hy⟩
theorem p77 : ∀ x y, OkL lay119 x → OkL lay119 y → Pure Tryz.prog 77 [.agg x, .agg y] (.lit (.bool (decide (x = y)))) := fun x y hx hy => pure_of (R := Rz) Tryz.func77 ⟨0, same77 _ 0 (fun x y h h' => r_sl2 (p92 x y h h')) (fun x y h h' => r_sl2 (p93 x y h h')) (fun x y h h' => r_agg2 (p94 x y h h')) (fun x y h h' => r_sl2 (p53 x y h h')) hx hy⟩
theorem p56 : ∀ x y, OkR lay119 x → OkR lay119 y → Pure Tryz.prog 56 [.sl .sh x, .sl .sh y] (.lit (.bool (decide (x = y)))) := fun x y hx hy => pure_of (R := Rz) Tryz.func56 (same56 _ (fun x y h h' => r_agg2 (p77 x y h h')) hx hy)
theorem p28 : ∀ x y, OkL lay44 x → OkL lay44 y → Pure Tryz.prog 28 [.agg x, .agg y] (.lit (.bool (decide (x = y)))) := fun x y hx hy => pure_of (R := Rz) Tryz.func28 ⟨0, same28 _ 0 (fun x y h h' => r_sl2 (p56 x y h h')) hx hy⟩
theorem p103 : ∀ x y, OkL lay106 x → OkL lay106 y → Pure Tryz.prog 103 [.agg x, .agg y] (.lit (.bool (decide (x = y)))) := fun x y hx hy => pure_of (R := Rz) Tryz.func103 ⟨0, same103 _ 0 hx hy⟩
theorem p95 : ∀ x y, OkR lay106 x → OkR lay106 y → Pure Tryz.prog 95 [.sl .sh x, .sl .sh y] (.lit (.bool (decide (x = y)))) := fun x y hx hy => pure_of (R := Rz) Tryz.func95 (same95 _ (fun x y h h' => r_agg2 (p103 x y h h')) hx hy)
theorem p78 : ∀ x y, OkL lay61 x → OkL lay61 y → Pure Tryz.prog 78 [.agg x, .agg y] (.lit (.bool (decide (x = y)))) := fun x y hx hy => pure_of (R := Rz) Tryz.func78 ⟨0, same78 _ 0 (fun x y h h' => r_sl2 (p95 x y h h')) hx hy⟩
theorem p104 : ∀ x y, OkL lay139 x → OkL lay139 y → Pure Tryz.prog 104 [.agg x, .agg y] (.lit (.bool (decide (x = y)))) := fun x y hx hy => pure_of (R := Rz) Tryz.func104 ⟨0, same104 _ 0 hx hy⟩
theorem p96 : ∀ x y, OkR lay139 x → OkR lay139 y → Pure Tryz.prog 96 [.sl .sh x, .sl .sh y] (.lit (.bool (decide (x = y)))) := fun x y hx hy => pure_of (R := Rz) Tryz.func96 (same96 _ (fun x y h h' => r_agg2 (p104 x y h h')) hx hy)
theorem p79 : ∀ x y, OkL lay64 x → OkL lay64 y → Pure Tryz.prog 79 [.agg x, .agg y] (.lit (.bool (decide (x = y)))) := fun x y hx hy => pure_of (R := Rz) Tryz.func79 ⟨0, same79 _ 0 (fun x y h h' => r_sl2 (p96 x y h h')) hx hy⟩
theorem p57 : ∀ x y, OkL lay66 x → OkL lay66 y → Pure Tryz.prog 57 [.agg x, .agg y] (.lit (.bool (decide (x = y)))) := fun x y hx hy => pure_of (R := Rz) Tryz.func57 ⟨0, same57 _ 0 (fun x y h h' => r_agg2 (p78 x y h h')) (fun x y h h' => r_agg2 (p79 x y h h')) hx hy⟩
theorem p29 : ∀ x y, OkR lay66 x → OkR lay66 y → Pure Tryz.prog 29 [.sl .sh x, .sl .sh y] (.lit (.bool (decide (x = y)))) := fun x y hx hy => pure_of (R := Rz) Tryz.func29 (same29 _ (fun x y h h' => r_agg2 (p57 x y h h')) hx hy)
theorem p80 : ∀ x y, OkL lay99 x → OkL lay99 y → Pure Tryz.prog 80 [.agg x, .agg y] (.lit (.bool (decide (x = y)))) := fun x y hx hy => pure_of (R := Rz) Tryz.func80 ⟨0, same80 _ 0 (fun x y h h' => r_sl2 (p92 x y h h')) hx hy⟩
theorem p97 : ∀ x y, OkL lay137 x → OkL lay137 y → Pure Tryz.prog 97 [.agg x, .agg y] (.lit (.bool (decide (x = y)))) := fun x y hx hy => pure_of (R := Rz) Tryz.func97 ⟨0, same97 _ 0 hx hy⟩
theorem p81 : ∀ x y, OkR lay137 x → OkR lay137 y → Pure Tryz.prog 81 [.sl .sh x, .sl .sh y] (.lit (.bool (decide (x = y)))) := fun x y hx hy => pure_of (R := Rz) Tryz.func81 (same81 _ (fun x y h h' => r_agg2 (p97 x y h h')) hx hy)
theorem p58 : ∀ x y, OkL lay102 x → OkL lay102 y → Pure Tryz.prog 58 [.agg x, .agg y] (.lit (.bool (decide (x = y)))) := fun x y hx hy => pure_of (R := Rz) Tryz.func58 ⟨0, same58 _ 0 (fun x y h h' => r_agg2 (p80 x y h h')) (fun x y h h' => r_sl2 (p81 x y h h')) hx hy⟩
theorem p30 : ∀ x y, OkR lay102 x → OkR lay102 y → Pure Tryz.prog 30 [.sl .sh x, .sl .sh y] (.lit (.bool (decide (x = y)))) := fun x y hx hy => pure_of (R := Rz) Tryz.func30 (same30 _ (fun x y h h' => r_agg2 (p58 x y h h')) hx hy)
theorem p8 : ∀ x y, OkL lay48 x → OkL lay48 y → Pure Tryz.prog 8 [.agg x, .agg y] (.lit (.bool (decide (x = y)))) := fun x y hx hy => pure_of (R := Rz) Tryz.func8 ⟨0, same8 _ 0 (fun x y h h' => r_agg2 (p27 x y h h')) (fun x y h h' => r_agg2 (p28 x y h h')) (fun x y h h' => r_sl2 (p29 x y h h')) (fun x y h h' => r_sl2 (p30 x y h h')) hx hy⟩
end Go.Proofs.YtlgdhdelhpklbaaGreat.EV
