/- Stepping through code by rewriting: what is behind stays closed until it is reached. -/
import Derived.Test.YtcddclkccpfdkaaDoorEv16
set_option linter.unusedSimpArgs false
set_option linter.unusedVariables false
namespace Go.Proofs.YtcddclkccpfdkaaDoor.EV
open Go.RowKit
variable {P : Program} {call : FuncId → List AV → Option AV} {m : Nat} {E : Env}

/-- holds a continuation fixed: rewriting does not go into an argument on which another one's type hangs -/
structure Tag {α : Type} (F : α → Prop) : Type where
def Ends {α : Type} (o : Option α) (F : α → Prop) (_t : Tag F := ⟨⟩) : Prop := ∃ r, o = some r ∧ F r
theorem ends_some {α : Type} {x : α} {F : α → Prop} : Ends (some x) F = F x := by simp [Ends]
/-- an environment is handed on only once it is worked out -/
theorem ends_env {s : List AV} {l : Nat → Nat → Option Nat} {F : Env → Prop} : Ends (some { s := s, live := l }) F = F { s := s, live := l } := by simp [Ends]
theorem ends_bool {b : Bool} {F : Bool → Prop} : Ends (some b) F = F b := by simp [Ends]
theorem ends_av {b : AV} {F : AV → Prop} : Ends (some b) F = F b := by simp [Ends]
theorem ends_avs {b : List AV} {F : List AV → Prop} : Ends (some b) F = F b := by simp [Ends]
theorem ends_none {α : Type} {F : α → Prop} : Ends (none : Option α) F = False := by simp [Ends]
theorem ends_bind {α β : Type} {o : Option α} {f : α → Option β} {F : β → Prop} : Ends (o.bind f) F = Ends o (fun x => Ends (f x) F) := by
  cases o <;> simp [Ends]
theorem ends_map {α β : Type} {o : Option α} {f : α → β} {F : β → Prop} : Ends (o.map f) F = Ends o (fun x => F (f x)) := by
  cases o <;> simp [Ends]
theorem ends_ite {α : Type} {p : Prop} [Decidable p] {a b : Option α} {F : α → Prop} : Ends (if p then a else b) F = if p then Ends a F else Ends b F := by split <;> rfl
theorem ends_ext {α : Type} {o : Option α} {F G : α → Prop} (h : ∀ r, F r = G r) : Ends o F = Ends o G := by
  have : F = G := funext h
  subst this; rfl
theorem ends_eq {α : Type} {o : Option α} {d : α} (h : Ends o (fun x => x = d)) : o = some d := by
  obtain ⟨r, h1, rfl⟩ := h; exact h1
theorem Ends.mono {α : Type} {o : Option α} {F G : α → Prop} (h : Ends o F) (hg : ∀ x, F x → G x) : Ends o G := let ⟨r, h1, h2⟩ := h; ⟨r, h1, hg r h2⟩

/-- a fork: only its test is looked into -/
structure TagP (A B : Prop) : Type where
def Br (t : Bool) (A B : Prop) (_t : TagP A B := ⟨⟩) : Prop := if t = true then A else B
theorem br_true {A B : Prop} : Br true A B = A := by simp [Br]
theorem br_false {A B : Prop} : Br false A B = B := by simp [Br]
theorem br_dec {p : Prop} [Decidable p] {A B : Prop} : Br (decide p) A B = ((p → A) ∧ (¬ p → B)) := by by_cases h : p <;> simp [Br, h]
theorem br_beq_true {b : Bool} {A B : Prop} : Br (b == true) A B = Br b A B := by simp [Br]
theorem br_beq_false {b : Bool} {A B : Prop} : Br (b == false) A B = Br b B A := by cases b <;> simp [Br]
theorem br_or {a b : Bool} {A B : Prop} : Br (a || b) A B = (((a || b) = true → A) ∧ ((a || b) = false → B)) := by cases a <;> cases b <;> simp [Br]
theorem br_and {a b : Bool} {A B : Prop} : Br (a && b) A B = (((a && b) = true → A) ∧ ((a && b) = false → B)) := by cases a <;> cases b <;> simp [Br]
theorem br_not {b : Bool} {A B : Prop} : Br (!b) A B = Br b B A := by cases b <;> simp [Br]

theorem ev_skip {F : Ex × Env → Prop} : Ends (evCode P call m .skip E) F = F (.normal, E) := by simp [evCode, ends_some]
theorem ev_ret {F : Ex × Env → Prop} : Ends (evCode P call m .ret E) F = F (.ret, E) := by simp [evCode, ends_some]
theorem ev_exit {F : Ex × Env → Prop} {id : Nat} : Ends (evCode P call m (.exit id) E) F = F (.exit id, E) := by simp [evCode, ends_some]
theorem ev_region {F : Ex × Env → Prop} {id : Nat} {ops : Array Oper} : Ends (evCode P call m (.region id ops false) E) F = Ends (evOps P call ops ops.toList E) (fun E => F (.normal, E)) := by simp only [evCode, ends_map]
theorem ev_drawn {F : Ex × Env → Prop} {id : Nat} {ops : Array Oper} (h : drawnA P ops = true) : Ends (evCode P call m (.region id ops true) E) F = Ends (evOpsD P call ops ops.toList E) (fun E => F (.normal, E)) := by simp only [evCode, h, if_true, ends_map]
theorem ev_seq {F : Ex × Env → Prop} {a b : Code} : Ends (evCode P call m (.seq a b) E) F = Ends (evCode P call m a E) (fun r => match r.1 with | .normal => Ends (evCode P call m b r.2) F | .ret => F r | .exit _ => F r) := by
  simp only [evCode, ends_bind]
  refine ends_ext fun r => ?_
  obtain ⟨x, E'⟩ := r
  cases x <;> simp [ends_some]
def condA : AV → Option Bool
  | .lit (.bool t) => some t
  | _ => none
theorem ev_cond {F : Ex × Env → Prop} {c : Operand} {a b : Code} : Ends (evCode P call m (.cond c a b) E) F = Ends (condA (E.get c)) (fun t => Br t (Ends (evCode P call m a E) F) (Ends (evCode P call m b E) F)) := by
  simp only [evCode, Br]
  generalize E.get c = x
  cases x with
  | lit v => cases v <;> simp [condA, ends_some, ends_none, ends_ite]
  | _ => simp [condA, ends_none]
theorem ev_block {F : Ex × Env → Prop} {id : Nat} {a : Code} : Ends (evCode P call m (.block id a) E) F = Ends (evCode P call m a E) (fun r => match r.1 with | .exit id' => if id' = id then F (.normal, r.2) else F r | .normal => F r | .ret => F r) := by
  simp only [evCode, ends_map]
  refine ends_ext fun r => ?_
  obtain ⟨x, E'⟩ := r
  cases x <;> simp
  split <;> rfl
theorem ev_loop {F : Ex × Env → Prop} {a : Code} : Ends (evCode P call m (.loop a) E) F = Ends (evLoop (evCode P call m a) m E) F := by simp only [evCode]
theorem ev_round {F : Ex × Env → Prop} {a : Code} {n : Nat} : Ends (evLoop (evCode P call m a) (n + 1) E) F = Ends (evCode P call m a E) (fun r => match r.1 with | .normal => Ends (evLoop (evCode P call m a) n r.2) F | .ret => F r | .exit _ => F r) := by
  simp only [evLoop, ends_bind]
  refine ends_ext fun r => ?_
  obtain ⟨x, E'⟩ := r
  cases x <;> simp [ends_some]
theorem ev_turn {F : Ex × Env → Prop} {a a' : Code} {n : Nat} (h : a = a') : Ends (evLoop (evCode P call m a) (n + 1) E) F = Ends (evCode P call m a' E) (fun r => match r.1 with | .normal => Ends (evLoop (evCode P call m a) n r.2) F | .ret => F r | .exit _ => F r) := by
  subst h; exact ev_round
theorem ev_nil {F : Env → Prop} {ops : Array Oper} : Ends (evOps P call ops [] E) F = F E := by simp [evOps, ends_some]
theorem ev_op {F : Env → Prop} {ops : Array Oper} {o : Oper} {rest : List Oper} (h : o.guard = none) : Ends (evOps P call ops (o :: rest) E) F = Ends (evStep P call E o) (fun E => Ends (evOps P call ops rest E) F) := by
  simp only [evOps, wantA, h, if_true, ends_bind]
theorem ev_opg {F : Env → Prop} {ops : Array Oper} {o : Oper} {rest : List Oper} : Ends (evOps P call ops (o :: rest) E) F = Ends (wantA ops E o) (fun t => Br t (Ends (evStep P call E o) (fun E => Ends (evOps P call ops rest E) F)) (Ends (some (E.put o.dst .undef)) (fun E => Ends (evOps P call ops rest E) F))) := by
  simp only [evOps, Br]
  cases wantA ops E o with
  | none => simp [ends_none]
  | some t => cases t <;> simp [ends_some, ends_bind]
theorem ev_nilD {F : Env → Prop} {ops : Array Oper} : Ends (evOpsD P call ops [] E) F = F E := by simp [evOpsD, ends_some]
theorem ev_opD {F : Env → Prop} {ops : Array Oper} {o : Oper} {rest : List Oper} : Ends (evOpsD P call ops (o :: rest) E) F = Ends (stepD P call ops E o) (fun E => Ends (evOpsD P call ops rest E) F) := by
  simp only [evOpsD, ends_bind]
theorem ev_body {F : AV → Prop} {fn : Func} {c : Code} {args : List AV} (h : fn.body = some c) : Ends (evBody P call m fn args) F = Ends (evCode P call m c (entry fn args)) (fun r => Ends (evEnd P fn.results (some r)) F) := by
  unfold evBody
  simp only [h]
  cases hc : evCode P call m c (entry fn args) with
  | none => simp [Ends, evEnd]
  | some r => simp [Ends]
theorem ev_end {F : AV → Prop} {rs : Array ResultVar} {x : Ex} (h : x = .normal ∨ x = .ret) : Ends (evEnd P rs (some (x, E))) F = Ends ((resL P E rs.toList).bind (fin E)) F := by
  rcases h with rfl | rfl <;> rfl
theorem nc_lit {v : Value} : notCell (.lit v) = true := rfl
theorem nc_sl {o : Own} {es : List (List AV)} : notCell (.sl o es) = true := rfl
theorem nc_agg {l : List AV} : notCell (.agg l) = true := rfl
theorem nc_eptr {l : List AV} : notCell (.eptr l) = true := rfl
theorem nc_loc {k o : Nat} : notCell (.loc k o) = true := rfl
theorem nc_fn {f : Nat} {l : List AV} : notCell (.fn f l) = true := rfl
theorem nc_tup {l : List AV} : notCell (.tup l) = true := rfl
theorem nc_junk : notCell .junk = true := rfl
theorem nc_cell {l : List AV} : notCell (.cell l) = false := rfl
theorem nc_mrow {k n s : Nat} : notCell (.mrow k n s) = true := rfl

/-! the drawn regions of a code -/
def drawnsOf : Code → List (Array Oper)
  | .region _ ops true => [ops]
  | .seq a b => drawnsOf a ++ drawnsOf b
  | .cond _ a b => drawnsOf a ++ drawnsOf b
  | .block _ a => drawnsOf a
  | .loop a => drawnsOf a
  | _ => []
def drawnIn (fn : Func) (i : Nat) : Array Oper := match fn.body with
  | some c => (drawnsOf c).getD i #[]
  | none => #[]
theorem binA_lss (t : TypeId) (a b : Int) : binA P .lss t (.lit (.int .i64 a)) (.lit (.int .i64 b)) = some (.lit (.bool (decide (a < b)))) := by
  simp [binA, binI]
theorem binA_add (t : TypeId) (a b : Int) : binA P .add t (.lit (.int .i64 a)) (.lit (.int .i64 b)) = some (.lit (.int .i64 (IntKind.i64.wrap (a + b)))) := by
  simp [binA, binI]
theorem binA_eql (k : IntKind) (t : TypeId) (a b : Int) : binA P .eql t (.lit (.int k a)) (.lit (.int k b)) = some (.lit (.bool (decide (a = b)))) := by
  simp [binA, binI]; exact (Bool.beq_eq_decide_eq a b)
theorem binA_neq (k : IntKind) (t : TypeId) (a b : Int) : binA P .neq t (.lit (.int k a)) (.lit (.int k b)) = some (.lit (.bool (!decide (a = b)))) := by
  simp only [binA, binI, if_true, Option.map_some, bne]
  rw [Bool.beq_eq_decide_eq]
theorem binA_seql (t : TypeId) (a b : ByteArray) [Decidable (a = b)] : binA P .eql t (.lit (.string a)) (.lit (.string b)) = some (.lit (.bool (decide (a = b)))) := by
  simp only [binA, binS, Option.map_some]
  congr 3
  by_cases h : a = b
  · subst h; simp
  · have : ¬ (a.toList == b.toList) = true := fun h' => h ((bytes_eq a b).1 h')
    simp [h, this]
theorem binA_sneq (t : TypeId) (a b : ByteArray) [Decidable (a = b)] : binA P .neq t (.lit (.string a)) (.lit (.string b)) = some (.lit (.bool (!decide (a = b)))) := by
  simp only [binA, binS, Option.map_some]
  congr 3
  by_cases h : a = b
  · subst h; simp
  · have : ¬ (a.toList == b.toList) = true := fun h' => h ((bytes_eq a b).1 h')
    simp [h, this]
theorem binA_bneq {t : TypeId} (h : P.underlying t = some .bool) (a b : Bool) : binA P .neq t (.lit (.bool a)) (.lit (.bool b)) = some (.lit (.bool (!decide (a = b)))) := by
  simp only [binA, h]; cases a <;> cases b <;> rfl
theorem binA_beql {t : TypeId} (h : P.underlying t = some .bool) (a b : Bool) : binA P .eql t (.lit (.bool a)) (.lit (.bool b)) = some (.lit (.bool (decide (a = b)))) := by
  simp only [binA, h]; cases a <;> cases b <;> rfl
theorem wrap_small {i : Nat} (h : i < 9223372036854775807) : IntKind.i64.wrap ((i : Int) + 1) = ((i + 1 : Nat) : Int) := by rw [IntKind.wrap_i64]; omega
theorem natA_int (i : Nat) : natA (.lit (.int .i64 (i : Int))) = some i := by simp [natA]
theorem st_op {o : Oper} (h : (match o.op with | .move _ | .assign _ | .pick _ _ _ | .nilCheck _ | .binOp _ _ _ _ _ | .unOp _ _ _ | .fieldAddr _ _ _ | .field _ _ _ | .indexAddr _ _ _ | .index _ _ _ => true | _ => false) = true) {F : Env → Prop} : Ends (evStep P call E o) F = Ends ((evPure P E.get o.op).map (E.put o.dst)) F := by
  obtain ⟨dst, op, type, pos, after, guard⟩ := o
  cases op <;> first | (cases h; done) | (simp only [evStep]; split <;> simp_all [ends_some, ends_none, evRead])
theorem st_load {d : Option Nat} {t ty : TypeId} {a : Operand} {p : String} {af : Array Edge} {g : Option (Nat × Bool)} {F : Env → Prop} : Ends (evStep P call E { dst := d, op := .load t a, type := ty, pos := p, after := af, guard := g }) F = Ends ((evRead P E (.load t a)).map (E.put d)) F := by
  simp only [evStep, evPure]
  split <;> simp_all [ends_some, ends_none]
theorem get8 {α : Type} (a b c d e f g h : α) (l : List α) (n : Nat) (z : α) : (a :: b :: c :: d :: e :: f :: g :: h :: l).getD (n + 8) z = l.getD n z := rfl
theorem set8 {α : Type} (a b c d e f g h : α) (l : List α) (n : Nat) (z : α) : (a :: b :: c :: d :: e :: f :: g :: h :: l).set (n + 8) z = a :: b :: c :: d :: e :: f :: g :: h :: l.set n z := rfl
end Go.Proofs.YtcddclkccpfdkaaDoor.EV
