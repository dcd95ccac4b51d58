/- Small words for the printed texts: numbers that a call hands back; forks taken by hand. -/
import Derived.Test.YtcddclkccpfdkaaDoorEv17
set_option linter.unusedSimpArgs false
set_option linter.unusedVariables false
namespace Go.Proofs.YtcddclkccpfdkaaDoor.EV
open Go.RowKit
variable {P : Program} {call : FuncId → List AV → Option AV} {m : Nat} {E : Env}
theorem br_i {p : Prop} [Decidable p] {A B : Prop} (h1 : p → A) (h2 : ¬ p → B) : Br (decide p) A B := by
  by_cases h : p <;> simp only [Br, h, decide_true, decide_false, if_true, Bool.false_eq_true, if_false]
  · exact h1 h
  · exact h2 h
theorem binA_sub (t : TypeId) (a b : Int) : binA P .sub t (.lit (.int .i64 a)) (.lit (.int .i64 b)) = some (.lit (.int .i64 (IntKind.i64.wrap (a - b)))) := by
  simp [binA, binI]
theorem wrap_sub {n : Int} {l : Nat} (h0 : 0 ≤ n) (h1 : n ≤ 1048576) (h2 : l ≤ 1073741824) : IntKind.i64.wrap (n - (l : Int)) = n - (l : Int) := by rw [IntKind.wrap_i64]; omega
/-- a number from -1 on, not above 2^20 -/
def Num (d : AV) : Prop := ∃ r : Int, d = .lit (.int .i64 r) ∧ -1 ≤ r ∧ r ≤ 1048576
theorem num_mk {r : Int} (h : -1 ≤ r ∧ r ≤ 1048576) : Num (.lit (.int .i64 r)) := ⟨r, rfl, h.1, h.2⟩
/-- a slice's mark is 'exact' -/
def ex1 : AV → AV
  | .sl _ es => .sl .ex es
  | v => v
theorem OkC.ex_one {l : Lay} {x : AV} (h : OkC l x) : (ex1 x).one = true := by cases h <;> rfl
theorem OkC.ex_plain {l : Lay} {x : AV} (h : OkC l x) : plain1 (ex1 x) = some x := by cases h <;> rfl
theorem OkC.ex_clean {l : Lay} {x : AV} (h : OkC l x) (k : Nat) : clean1 k (ex1 x) = ex1 x := by cases h <;> rfl
theorem OkC.ex_home {l : Lay} {x : AV} (h : OkC l x) (k : Nat) : home1 k (ex1 x) = ex1 x := by cases h <;> rfl
theorem OkC.ex_owned {l : Lay} {x : AV} (h : OkC l x) : owned1 (ex1 x) = [] := by cases h <;> rfl
theorem OkL.ind {p : AV → Prop} (h : ∀ l x, OkC l x → p x) {ls : List Lay} : ∀ {xs : List AV}, OkL ls xs → ∀ x ∈ xs, p x := by
  induction ls with
  | nil => intro xs hx; rw [hx.nil_inv]; simp
  | cons l ls ih =>
    intro xs hx
    obtain ⟨x, r, rfl, h1, h2⟩ := hx.cons_inv
    simp only [List.mem_cons, forall_eq_or_imp]
    exact ⟨h l x h1, ih h2⟩
theorem OkL.ex_plain {ls : List Lay} : ∀ {xs : List AV}, OkL ls xs → plainL (xs.map ex1) = some xs := by
  induction ls with
  | nil => intro xs h; rw [h.nil_inv]; rfl
  | cons l ls ih =>
    intro xs h
    obtain ⟨x, r, rfl, hx, hr⟩ := h.cons_inv
    simp only [List.map_cons, plainL, hx.ex_plain, ih hr]
theorem OkL.ex_clean {ls : List Lay} {xs : List AV} (h : OkL ls xs) (k : Nat) : (xs.map ex1).map (clean1 k) = xs.map ex1 := by
  rw [List.map_map]; exact List.map_congr_left (OkL.ind (fun l x hx => by simpa using hx.ex_clean k) h)
theorem OkL.ex_home {ls : List Lay} {xs : List AV} (h : OkL ls xs) (k : Nat) : (xs.map ex1).map (home1 k) = xs.map ex1 := by
  rw [List.map_map]; exact List.map_congr_left (OkL.ind (fun l x hx => by simpa using hx.ex_home k) h)
theorem OkL.ex_owned {ls : List Lay} {xs : List AV} (h : OkL ls xs) : (xs.map ex1).flatMap owned1 = [] := by
  rw [List.flatMap_map]
  exact List.flatMap_eq_nil_iff.2 (OkL.ind (fun l x hx => hx.ex_owned) h)
theorem OkL.ex_all {ls : List Lay} {xs : List AV} (h : OkL ls xs) : (xs.map ex1).all AV.one = true := by
  simp only [List.all_map, List.all_eq_true]
  exact OkL.ind (fun l x hx => hx.ex_one) h
/-! drawn regions with guards -/
def goD (P : Program) (call : FuncId → List AV → Option AV) (E : Env) (o : Oper) : Option Env :=
  if loudA o then evStep P call E o else match rdOp P call E o with
    | some v => if freeA E o.dst v then some (E.put o.dst v) else none
    | none => none
theorem ev_opDg {F : Env → Prop} {ops : Array Oper} {o : Oper} {rest : List Oper} : Ends (evOpsD P call ops (o :: rest) E) F = Ends (wantA ops E o) (fun t => Br t (Ends (goD P call E o) (fun E => Ends (evOpsD P call ops rest E) F)) (Ends (if freeA E o.dst .undef then some (E.put o.dst .undef) else none) (fun E => Ends (evOpsD P call ops rest E) F))) := by
  simp only [evOpsD, Br, stepD, goD]
  cases wantA ops E o with
  | none => simp [ends_none]
  | some t =>
    cases t
    · simp [ends_some, ends_bind]
    · simp [ends_some, ends_bind]; exact Iff.rfl
theorem ev_opDn {F : Env → Prop} {ops : Array Oper} {o : Oper} {rest : List Oper} (h : o.guard = none) : Ends (evOpsD P call ops (o :: rest) E) F = Ends (goD P call E o) (fun E => Ends (evOpsD P call ops rest E) F) := by
  simp only [ev_opDg, wantA, h, ends_bool, br_true]
theorem byte_toNat (b : UInt8) : (UInt8.ofNat ((b.toNat : Int)).toNat) = b := by simp
theorem bytes_eqd (a b : ByteArray) [Decidable (a = b)] : (a.toList == b.toList) = decide (a = b) := by
  rw [Bool.eq_iff_iff, bytes_eq, decide_eq_true_iff]
theorem bytes_inj (a b : ByteArray) : (a.toList = b.toList) = (a = b) := by
  apply propext; rw [← bytes_eq]; simp
/-- bytes as a string -/
def bytesL (es : List (List AV)) : List UInt8 := (bytesOfA es).getD []
theorem bytesOfA_ok {es : List (List AV)} (h : OkR [.int .u8] es) : bytesOfA es = some (bytesL es) ∧ es = (bytesL es).map (fun b => [.lit (.int .u8 b.toNat)]) := by
  obtain ⟨hb, h⟩ := h
  clear hb
  induction es with
  | nil => exact ⟨rfl, rfl⟩
  | cons r es ih =>
    obtain ⟨h1, h2⟩ := ih fun r' hr => h r' (List.mem_cons_of_mem _ hr)
    obtain ⟨x, r', rfl, hx, hr⟩ := (h r (by simp)).cons_inv
    have := hr.nil_inv; subst this
    obtain ⟨n, rfl, hn⟩ := hx.int_inv
    have hn' : 0 ≤ n ∧ n ≤ 255 := by simp [IntKind.wrap, IntKind.bits, IntKind.signed] at hn; omega
    have e : bytesOfA ([.lit (.int .u8 n)] :: es) = some (UInt8.ofNat n.toNat :: bytesL es) := by simp only [bytesOfA, byteOf, h1]
    refine ⟨by rw [bytesL, e]; rfl, ?_⟩
    rw [bytesL, e]
    simp only [Option.getD_some, List.map_cons, ← h2]
    congr 4
    simp [UInt8.toNat_ofNat']; omega
theorem bytesL_inj {es fs : List (List AV)} (h : OkR [.int .u8] es) (h' : OkR [.int .u8] fs) : (ByteArray.mk (bytesL es).toArray = ByteArray.mk (bytesL fs).toArray) = (es = fs) := by
  apply propext
  constructor
  · intro e
    have e1 : (bytesL es).toArray = (bytesL fs).toArray := congrArg ByteArray.data e
    have e2 : bytesL es = bytesL fs := by simpa using e1
    rw [(bytesOfA_ok h).2, (bytesOfA_ok h').2, e2]
  · rintro rfl; rfl
/-! 'clean' at a value that is known -/
theorem c1_lit {k : Nat} {v : Value} : clean1 k (.lit v) = .lit v := rfl
theorem c1_sh {k : Nat} {es : List (List AV)} : clean1 k (.sl .sh es) = .sl .sh es := rfl
theorem c1_ex {k : Nat} {es : List (List AV)} : clean1 k (.sl .ex es) = .sl .ex es := rfl
theorem c1_ow {k k' j e : Nat} {es : List (List AV)} : clean1 k (.sl (.ow k' j e) es) = if k' = k then .sl .sh es else .sl (.ow k' j e) es := rfl
theorem c1_loc {k k' o : Nat} : clean1 k (.loc k' o) = if k' = k then .junk else .loc k' o := rfl
theorem c1_mrow {k k' n s : Nat} : clean1 k (.mrow k' n s) = if k' = k then .junk else .mrow k' n s := rfl
theorem c1_eptr {k : Nat} {l : List AV} : clean1 k (.eptr l) = .eptr l := rfl
theorem c1_junk {k : Nat} : clean1 k .junk = .junk := rfl
theorem cl_lit {k : Nat} {v : Value} : clean k (.lit v) = .lit v := rfl
theorem cl_sh {k : Nat} {es : List (List AV)} : clean k (.sl .sh es) = .sl .sh es := rfl
theorem cl_ex {k : Nat} {es : List (List AV)} : clean k (.sl .ex es) = .sl .ex es := rfl
theorem cl_ow {k k' j e : Nat} {es : List (List AV)} : clean k (.sl (.ow k' j e) es) = if k' = k then .sl .sh es else .sl (.ow k' j e) es := rfl
theorem cl_loc {k k' o : Nat} : clean k (.loc k' o) = if k' = k then .junk else .loc k' o := rfl
theorem cl_mrow {k k' n s : Nat} : clean k (.mrow k' n s) = if k' = k then .junk else .mrow k' n s := rfl
theorem cl_eptr {k : Nat} {l : List AV} : clean k (.eptr l) = .eptr l := rfl
theorem cl_junk {k : Nat} : clean k .junk = .junk := rfl
theorem cl_agg {k : Nat} {l : List AV} : clean k (.agg l) = .agg (l.map (clean1 k)) := rfl
theorem cl_fn {k f : Nat} {l : List AV} : clean k (.fn f l) = .fn f (l.map (clean1 k)) := rfl
theorem cl_cell {k : Nat} {l : List AV} : clean k (.cell l) = .cell (l.map (clean1 k)) := rfl
theorem cl_row {k n s : Nat} {l : List AV} : clean k (.row n s l) = .row n s (l.map (clean1 k)) := rfl
theorem cl_tup {k : Nat} {l : List AV} : clean k (.tup l) = .tup (l.map (cleanA k)) := rfl
theorem ca_lit {k : Nat} {v : Value} : cleanA k (.lit v) = .lit v := rfl
theorem ca_sh {k : Nat} {es : List (List AV)} : cleanA k (.sl .sh es) = .sl .sh es := rfl
theorem ca_ex {k : Nat} {es : List (List AV)} : cleanA k (.sl .ex es) = .sl .ex es := rfl
theorem ca_ow {k k' j e : Nat} {es : List (List AV)} : cleanA k (.sl (.ow k' j e) es) = if k' = k then .sl .sh es else .sl (.ow k' j e) es := rfl
theorem ca_agg {k : Nat} {l : List AV} : cleanA k (.agg l) = .agg (l.map (clean1 k)) := rfl
/-! a row that is filled place by place -/
def filled (z : List AV) (es : List (List AV)) (i : Nat) : List AV := ((es.take i).map (·.map ex1)).flatten ++ (List.replicate (es.length - i) z).flatten
theorem filled_zero (z : List AV) (es : List (List AV)) : filled z es 0 = (List.replicate es.length z).flatten := by simp [filled]
theorem flat_len {s : Nat} : ∀ {es : List (List AV)}, (∀ r ∈ es, r.length = s) → es.flatten.length = es.length * s
  | [], _ => by simp
  | r :: es, h => by
    rw [List.flatten_cons, List.length_append, h r (by simp), flat_len (fun r' hr => h r' (List.mem_cons_of_mem _ hr)), List.length_cons, Nat.add_mul]; omega
theorem filled_length {z : List AV} {es : List (List AV)} {i s : Nat} (hi : i ≤ es.length) (hz : z.length = s) (he : ∀ r ∈ es, r.length = s) : (filled z es i).length = es.length * s := by
  unfold filled
  rw [List.length_append, flat_len (s := s) (fun r hr => by simp only [List.mem_map] at hr; obtain ⟨r', h, rfl⟩ := hr; simpa using he r' (List.mem_of_mem_take h)), flat_len (s := s) (fun r hr => by rw [(List.mem_replicate.1 hr).2]; exact hz)]
  simp only [List.length_map, List.length_take, List.length_replicate]
  rw [Nat.min_eq_left hi, ← Nat.add_mul]; congr 1; omega
theorem filled_set {z x : List AV} {es : List (List AV)} {i s : Nat} (hi : es[i]? = some x) (hz : z.length = s) (he : ∀ r ∈ es, r.length = s) : setCells (filled z es i) (i * s) (x.map ex1) = filled z es (i + 1) := by
  obtain ⟨hlt, hx⟩ := List.getElem?_eq_some_iff.1 hi
  have hxl : x.length = s := by rw [← hx]; exact he _ (List.getElem_mem hlt)
  have h1 : (((es.take i).map (·.map ex1)).flatten).length = i * s := by
    rw [flat_len (s := s) (fun r hr => by simp only [List.mem_map] at hr; obtain ⟨r', h, rfl⟩ := hr; simpa using he r' (List.mem_of_mem_take h))]
    simp only [List.length_map, List.length_take]; rw [Nat.min_eq_left (by omega)]
  unfold setCells filled
  rw [List.take_append_of_le_length (by omega), List.take_of_length_le (by omega), List.length_map, hxl, List.drop_append, List.drop_of_length_le (by omega), h1, List.nil_append]
  rw [show es.length - i = (es.length - (i + 1)) + 1 by omega, List.replicate_succ, List.flatten_cons, show i * s + s - i * s = s by omega]
  rw [List.drop_append, List.drop_of_length_le (by omega), hz, Nat.sub_self, List.drop_zero, List.nil_append]
  rw [List.take_add_one, hi]
  simp
theorem filled_end (z : List AV) (es : List (List AV)) : filled z es es.length = (es.map (·.map ex1)).flatten := by simp [filled]
theorem filled_clean {z : List AV} {es : List (List AV)} {lay : List Lay} (k i : Nat) (hz : z.map (clean1 k) = z) (he : ∀ r ∈ es, OkL lay r) : (filled z es i).map (clean1 k) = filled z es i := by
  unfold filled
  rw [List.map_append, List.map_flatten, List.map_flatten, List.map_replicate, hz, List.map_map]
  congr 2
  exact List.map_congr_left (fun r hr => (he r (List.mem_of_mem_take hr)).ex_clean k)
theorem filled_plain {es : List (List AV)} {lay : List Lay} (he : OkR lay es) : plainL ((es.map (·.map ex1)).flatten) = some es.flatten := by
  obtain ⟨hb, h⟩ := he
  clear hb
  induction es with
  | nil => rfl
  | cons r es ih =>
    rw [List.map_cons, List.flatten_cons, List.flatten_cons]
    exact plainL_append (h r (by simp)).ex_plain (ih fun r' hr => h r' (List.mem_cons_of_mem _ hr))
theorem chop_flat {s : Nat} : ∀ {es : List (List AV)}, (∀ r ∈ es, r.length = s) → chop s es.length es.flatten = es
  | [], _ => rfl
  | r :: es, h => by
    have hr := h r (by simp)
    simp only [List.length_cons, chop, List.flatten_cons]
    rw [List.take_append_of_le_length (by omega), List.take_of_length_le (by omega), List.drop_append, List.drop_of_length_le (by omega), hr, Nat.sub_self, List.drop_zero, List.nil_append, chop_flat (fun r' hr => h r' (List.mem_cons_of_mem _ hr))]
end Go.Proofs.YtcddclkccpfdkaaDoor.EV
