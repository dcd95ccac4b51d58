/- The abstract evaluator: values without memory, operations, regions, code, functions (definitions alone). -/
import Derived.WalkKit
import Derived.Orders
set_option linter.unusedSimpArgs false
set_option linter.unusedVariables false
namespace Go.Proofs.YtcddclkccpfdkaaDoor.EV

/-- Whose row a slice is: shared, exact (cap = len), or a row of the call's own (made at slot k, place j, element type e). -/
inductive Own where
  | sh | ex
  | ow (k j : Nat) (e : TypeId)

inductive AV where
  | lit (v : Value)
  | agg (l : List AV)
  | tup (l : List AV)
  | sl (o : Own) (es : List (List AV))
  | cell (cs : List AV)
  | loc (k off : Nat)
  | eptr (cs : List AV)
  | fn (f : Nat) (caps : List AV)
  | row (n s : Nat) (cs : List AV)
  | mrow (k n s : Nat)
  | junk

abbrev AV.int (n : Int) : AV := .lit (.int .i64 n)
abbrev AV.byte (n : Int) : AV := .lit (.int .u8 n)
abbrev AV.bool (b : Bool) : AV := .lit (.bool b)
abbrev AV.str (s : ByteArray) : AV := .lit (.string s)
abbrev AV.undef : AV := .lit Go.undef

structure Env where
  s : List AV
  live : Nat → Nat → Option Nat

/-! ### what the program's tables say -/
def sizeA (P : Program) (t : TypeId) : Option Nat := (P.info? t).map (·.size)
def isAggA (P : Program) (t : TypeId) : Option Bool :=
  match P.underlying t with
  | some (.struct _) | some (.array _ _) => some true
  | some _ => some false
  | none => none
def elemA (P : Program) (t : TypeId) : Option TypeId :=
  match P.underlying t with
  | some (.slice e) => some e
  | _ => none
/-- a field: its type and its offset -/
def fieldA (P : Program) (t : TypeId) (f : Nat) : Option (TypeId × Nat) :=
  match P.underlying t with
  | some (.struct fs) => (fs[f]?).map fun x => (x.type, x.offset)
  | _ => none
def arrA (P : Program) (t : TypeId) : Option (Nat × TypeId) :=
  match P.underlying t with
  | some (.array n e) => some (n, e)
  | _ => none
def ofConst : Value → AV
  | .slice none 0 0 => .sl .ex []
  | v => .lit v
def zeroA (P : Program) (t : TypeId) : Option (List AV) := ((P.info? t).bind (·.zero)).map fun z => z.cells.toList.map ofConst
/-- how many cells the zero value has -/
def zlenA (P : Program) (t : TypeId) : Option Nat := ((P.info? t).bind (·.zero)).map fun z => z.cells.size
def bytesA (P : Program) (t : TypeId) : Option Nat := (P.info? t).map (·.bytes)

/-! ### values -/
def AV.cells : AV → List AV
  | .agg l => l
  | v => [v]
/-- as it is seen as an operand -/
def view (t : Nat) : AV → AV
  | .cell _ => .loc t 0
  | .row n s _ => .mrow t n s
  | v => v
/-- what lies in a slot's own block -/
def cellOf : AV → Option (List AV)
  | .cell cs => some cs
  | .row _ _ cs => some cs
  | _ => none
def setCellOf (cs : List AV) : AV → AV
  | .row n s _ => .row n s cs
  | _ => .cell cs
def Env.get (E : Env) : Operand → AV
  | .tmp t => view t (E.s.getD t .undef)
  | .const v => ofConst v
  | .global _ => .junk
  | .func f => .fn f []
def Env.cellAt (E : Env) (k : Nat) : Option (List AV) :=
  cellOf (E.s.getD k .undef)
/-- one cell of one value -/
def AV.one : AV → Bool
  | .lit v => v.oneCell'
  | .sl _ _ | .loc _ _ | .eptr _ => true
  | _ => false
/-- a cell that may be captured -/
def isC0 : AV → Bool
  | .agg _ | .tup _ | .cell _ | .row _ _ _ | .fn _ _ => false
  | _ => true
/-- the owner's mark away; what may not be kept: none -/
def plain1 : AV → Option AV
  | .lit v => if v.oneCell' then some (.lit v) else none
  | .sl _ es => some (.sl .sh es)
  | _ => none
def plainL : List AV → Option (List AV)
  | [] => some []
  | x :: l => match plain1 x, plainL l with
    | some y, some l' => some (y :: l')
    | _, _ => none
def share : Own → Own
  | .ow _ _ _ => .sh
  | o => o
/-- a value handed to a call -/
def snap1 (E : Env) : AV → Option AV
  | .lit v => some (.lit v)
  | .sl _ es => some (.sl .sh es)
  | .loc k off => match E.cellAt k with
    | some cs => if off ≤ cs.length then (plainL (cs.drop off)).map .eptr else none
    | none => none
  | .eptr cs => some (.eptr cs)
  | _ => none
def snapL (E : Env) : List AV → Option (List AV)
  | [] => some []
  | x :: l => match snap1 E x, snapL E l with
    | some y, some l' => some (y :: l')
    | _, _ => none
def snap (E : Env) : AV → Option AV
  | .agg l => (plainL l).map .agg
  | .fn f caps => (snapL E caps).map (.fn f)
  | v => snap1 E v
def snaps (E : Env) : List AV → Option (List AV)
  | [] => some []
  | x :: l => match snap E x, snaps E l with
    | some y, some l' => some (y :: l')
    | _, _ => none

/-- slot k is made anew: what was owned or pointed at there -/
def clean1 (k : Nat) : AV → AV
  | .sl (.ow k' j e) es => if k' = k then .sl .sh es else .sl (.ow k' j e) es
  | .loc k' off => if k' = k then .junk else .loc k' off
  | .mrow k' n s => if k' = k then .junk else .mrow k' n s
  | v => v
def cleanA (k : Nat) : AV → AV
  | .agg l => .agg (l.map (clean1 k))
  | .fn f l => .fn f (l.map (clean1 k))
  | v => clean1 k v
def clean (k : Nat) : AV → AV
  | .tup l => .tup (l.map (cleanA k))
  | .cell l => .cell (l.map (clean1 k))
  | .row n s l => .row n s (l.map (clean1 k))
  | v => cleanA k v
def Env.clean (E : Env) (k : Nat) : Env := { s := (E.s.map (EV.clean k)).set k .junk, live := fun k' j => if k' = k then none else E.live k' j }
def Env.put (E : Env) (d : Option Nat) (v : AV) : Env := match d with
  | some d => { E with s := E.s.set d v }
  | none => E


/-! ### operations that leave the memory alone -/
def binI (op : BinOp) (k : IntKind) (a b : Int) : Option Value :=
  match op with
  | .add => some (.int k (k.wrap (a + b)))
  | .sub => some (.int k (k.wrap (a - b)))
  | .mul => some (.int k (k.wrap (a * b)))
  | .quo => if b = 0 then none else some (.int k (k.wrap (a.tdiv b)))
  | .rem => if b = 0 then none else some (.int k (a.tmod b))
  | .eql => some (.bool (a == b))
  | .neq => some (.bool (a != b))
  | .lss => some (.bool (a < b))
  | .leq => some (.bool (a ≤ b))
  | .gtr => some (.bool (a > b))
  | .geq => some (.bool (a ≥ b))
  | _ => none
def binS (op : BinOp) (a b : ByteArray) : Option Value :=
  match op with
  | .add => if a.size + b.size ≤ 9223372036854775807 then some (.string (a ++ b)) else none
  | .eql => some (.bool (a.toList == b.toList))
  | .neq => some (.bool !(a.toList == b.toList))
  | .lss => some (.bool (Op.bytesLess a.toList b.toList))
  | .leq => some (.bool (Op.bytesLess a.toList b.toList || a.toList == b.toList))
  | .gtr => some (.bool !(Op.bytesLess a.toList b.toList || a.toList == b.toList))
  | .geq => some (.bool !(Op.bytesLess a.toList b.toList))
  | _ => none
def partA (P : Program) (t : TypeId) (cs : List AV) (off : Nat) : Option AV :=
  match isAggA P t, sizeA P t with
  | some true, some n => if off + n ≤ cs.length then some (.agg ((cs.drop off).take n)) else none
  | some false, _ => match cs[off]? with
    | some x => if x.one then some x else none
    | none => none
  | _, _ => none
mutual
def eqA (P : Program) : Nat → TypeId → AV → AV → Option Bool
  | 0, _, _, _ => none
  | d + 1, t, x, y =>
    match P.underlying t, x, y with
    | some .bool, .lit (.bool a), .lit (.bool b) => some (a == b)
    | some (.int _), .lit (.int k a), .lit (.int k' b) => if k = k' then some (a == b) else none
    | some .string, .lit (.string a), .lit (.string b) => some (a.toList == b.toList)
    | some (.struct fs), .agg xs, .agg ys => if P.stoodInHeld t then none else eqF P d fs.toList xs ys
    | _, _, _ => none
def eqF (P : Program) : Nat → List Field → List AV → List AV → Option Bool
  | _, [], _, _ => some true
  | d, f :: fs, xs, ys =>
    if f.name = "_" then eqF P d fs xs ys else
    match partA P f.type xs f.offset, partA P f.type ys f.offset with
    | some x, some y => match eqA P d f.type x y with
      | some true => eqF P d fs xs ys
      | some false => some false
      | none => none
    | _, _ => none
end
def binA (P : Program) (op : BinOp) (t : TypeId) (x y : AV) : Option AV :=
  match x, y with
  | .lit (.int k a), .lit (.int k' b) => if k = k' then (binI op k a b).map .lit else none
  | .lit (.string a), .lit (.string b) => (binS op a b).map .lit
  | .lit (.bool a), .lit (.bool b) => match P.underlying t, op with
    | some .bool, .eql => some (.bool (a == b))
    | some .bool, .neq => some (.bool !(a == b))
    | _, _ => none
  | .agg xs, .agg ys => if P.eqGuardType P.depth t then none else
      (match op with
      | .eql => (eqA P 10 t (.agg xs) (.agg ys)).map fun b => .bool b
      | .neq => (eqA P 10 t (.agg xs) (.agg ys)).map fun b => .bool !b
      | _ => none)
  | _, _ => none
def unA (op : UnOp) (x : AV) : Option AV :=
  match op, x with
  | .not, .lit (.bool b) => some (.bool !b)
  | .neg, .lit (.int k n) => some (.lit (.int k (k.wrap (0 - n))))
  | _, _ => none
def byteOf : AV → Option UInt8
  | .lit (.int .u8 n) => some (UInt8.ofNat n.toNat)
  | _ => none
def bytesOfA : List (List AV) → Option (List UInt8)
  | [] => some []
  | [x] :: l => match byteOf x, bytesOfA l with
    | some b, some r => some (b :: r)
    | _, _ => none
  | _ :: _ => none
def convA (P : Program) (src dst : TypeId) (x : AV) : Option AV :=
  match P.underlying src, P.underlying dst, x with
  | some _, some (.int k), .lit (.int _ n) => some (.lit (.int k (k.wrap n)))
  | some _, some .string, .lit (.string s) => some (.lit (.string s))
  | some (.slice e), some .string, .sl _ es => match P.underlying e with
    | some (.int .u8) => (bytesOfA es).map fun l => .lit (.string ⟨l.toArray⟩)
    | _ => none
  | _, _, _ => none
/-- a number as a bound or an index -/
def natA : AV → Option Nat
  | .lit (.int _ n) => if 0 ≤ n then some n.toNat else none
  | _ => none
def sized (n : Nat) (es : List (List AV)) : Bool := es.all fun c => decide (c.length = n)
def cutOwn (o : Own) (l h n : Nat) : Own :=
  match o with
  | .sh => .sh
  | .ex => if h = n then .ex else .sh
  | .ow k j e => if l = 0 ∧ h = n then .ow k j e else .sh
def cutA (P : Program) (t : TypeId) (x : AV) (l : Nat) (h : Option Nat) : Option AV :=
  match P.underlying t, x with
  | some .string, .lit (.string s) =>
    if l ≤ h.getD s.size ∧ h.getD s.size ≤ s.size then some (.lit (.string (s.extract l (h.getD s.size)))) else none
  | some (.slice e), .sl o es =>
    match sizeA P e with
    | some n => if l ≤ h.getD es.length ∧ h.getD es.length ≤ es.length ∧ sized n es = true then some (.sl (cutOwn o l (h.getD es.length) es.length) ((es.take (h.getD es.length)).drop l)) else none
    | none => none
  | _, _ => none
def sliceA (P : Program) (t : TypeId) (x : AV) (lo hi mx : Option AV) : Option AV :=
  match mx with
  | some _ => none
  | none => match lo, hi with
    | none, none => cutA P t x 0 none
    | some l, none => (natA l).bind fun l => cutA P t x l none
    | none, some h => (natA h).bind fun h => cutA P t x 0 (some h)
    | some l, some h => (natA l).bind fun l => (natA h).bind fun h => cutA P t x l (some h)
def ptrAdd (x : AV) (n : Nat) : Option AV :=
  match x with
  | .loc k off => some (.loc k (off + n))
  | .eptr cs => if n ≤ cs.length then some (.eptr (cs.drop n)) else none
  | _ => none
def indexAddrA (P : Program) (t : TypeId) (x i : AV) : Option AV :=
  match natA i with
  | none => none
  | some i =>
    match P.underlying t, x with
    | some (.slice e), .sl _ es => match es[i]?, sizeA P e with
      | some c, some n => if c.length = n ∧ 0 < n then some (.eptr c) else none
      | _, _ => none
    | some (.slice e), .mrow k n s => if i < n ∧ sizeA P e = some s then some (.loc k (i * s)) else none
    | some (.array len e), x => match sizeA P e with
      | some n => if i < len then ptrAdd x (i * n) else none
      | none => none
    | _, _ => none
def indexA (P : Program) (t : TypeId) (x i : AV) : Option AV :=
  match natA i with
  | none => none
  | some i =>
    match P.underlying t, x with
    | some .string, .lit (.string s) => if h : i < s.size then some (.lit (.int .u8 (s[i]'h).toNat)) else none
    | some (.array len e), .agg cs => match sizeA P e with
      | some n => if i < len then partA P e cs (i * n) else none
      | none => none
    | _, _ => none
def setCells (cs : List AV) (off : Nat) (news : List AV) : List AV := cs.take off ++ news ++ cs.drop (off + news.length)
def fillA (place : Nat → Option (Nat × Nat)) (cs : List AV) : List (Nat × AV) → Option (List AV)
  | [] => some cs
  | (i, v) :: rest =>
    match place i with
    | none => none
    | some (off, size) => if v.cells.length = size ∧ off + size ≤ cs.length ∧ v.cells.all AV.one then fillA place (setCells cs off v.cells) rest else none
def placesA (P : Program) (t : TypeId) : Option (List (Nat × Nat)) :=
  match P.underlying t with
  | some (.struct fs) => fs.toList.mapM (fun f => (P.info? f.type).map fun i => (f.offset, i.size))
  | _ => none
def buildA (P : Program) (t : TypeId) (parts : List (Nat × AV)) : Option AV :=
  match placesA P t, zeroA P t with
  | some ps, some z => (fillA (fun i => ps[i]?) z parts).map .agg
  | _, _ => none
def lenA (P : Program) (g : Operand → AV) (c : Call) : Option AV :=
  match c.args.toList, c.argTypes.toList with
  | [x], [t] => match P.underlying t, g x with
    | some .string, .lit (.string s) => some (.int s.size)
    | some (.slice _), .sl _ es => some (.int es.length)
    | some (.slice _), .mrow _ n _ => some (.int n)
    | _, _ => none
  | _, _ => none
/-- the operations that leave memory alone and look at none -/
def evPure (P : Program) (g : Operand → AV) : Op → Option AV
  | .move x | .assign x => some (g x)
  | .pick c a b => match g c with
    | .lit (.bool t) => some (if t then g a else g b)
    | _ => none
  | .build t parts => buildA P t (parts.toList.map fun p => (p.1, g p.2))
  | .nilCheck x => match g x with
    | .loc k off => some (.loc k off)
    | .eptr cs => some (.eptr cs)
    | _ => none
  | .binOp op t x y _ => binA P op t (g x) (g y)
  | .unOp op _ x => unA op (g x)
  | .makeFunc (.func f) first caps => if first.isEmpty = true ∧ (caps.toList.map g).all isC0 = true then some (.fn f (caps.toList.map g)) else none
  | .slice t x lo hi mx => sliceA P t (g x) (lo.map g) (hi.map g) (mx.map g)
  | .fieldAddr t x f => match fieldA P t f with
    | some (ft, off) => match sizeA P ft with
      | some n => if n = 0 then none else ptrAdd (g x) off
      | none => none
    | none => none
  | .field t x f => match fieldA P t f, g x with
    | some (ft, off), .agg cs => partA P ft cs off
    | _, _ => none
  | .indexAddr t x i => indexAddrA P t (g x) (g i)
  | .index t x i => indexA P t (g x) (g i)
  | .extract t i => match g t with
    | .tup l => l[i]?
    | _ => none
  | _ => none
/-- .. and the conversions: bytes to a string read the slice's cells -/
def evRead (P : Program) (E : Env) : Op → Option AV
  | .convert src dst x => convA P src dst (E.get x)
  | .load t a => match E.get a with
    | .loc k off => match E.cellAt k, isAggA P t, sizeA P t with
      | some cs, some true, some n => if off + n ≤ cs.length then some (.agg ((cs.drop off).take n)) else none
      | some cs, some false, _ => cs[off]?
      | _, _, _ => none
    | .eptr cs => match isAggA P t, sizeA P t with
      | some true, some n => if n ≤ cs.length then some (.agg (cs.take n)) else none
      | some false, _ => cs[0]?
      | _, _ => none
    | _ => none
  | _ => none
def chunk1 (P : Program) (e : TypeId) (parts : List (Nat × AV)) : Nat → Option (List (List AV))
  | i => match parts, sizeA P e with
    | [], _ => some []
    | (j, v) :: rest, some n => if j = i ∧ v.cells.length = n then
        match plainL v.cells, chunk1 P e rest (i + 1) with
        | some c, some r => some (c :: r)
        | _, _ => none
      else none
    | _, none => none
/-- most cells of a slice literal -/
def LIT : Nat := 16777216
/-- most bytes that an append reaches here -/
def LIM : Nat := 140737488355328
/-- what a call's answer is called at slot k: its rows get the slot's name -/
def home1 (k : Nat) : AV → AV
  | .sl (.ow q j e) es => if q = 0 then .sl (.ow k j e) es else .sl .sh es
  | v => v
def homeA (k : Nat) : AV → AV
  | .agg l => .agg (l.map (home1 k))
  | .fn f l => .fn f (l.map (home1 k))
  | v => home1 k v
def home (k : Nat) : AV → AV
  | .tup l => .tup (l.map (homeA k))
  | v => homeA k v
def owned1 : AV → List (Nat × Nat)
  | .sl (.ow q j _) es => if q = 0 then [(j, es.length)] else []
  | _ => []
def ownedA : AV → List (Nat × Nat)
  | .agg l => l.flatMap owned1
  | v => owned1 v
def owned : AV → List (Nat × Nat)
  | .tup l => l.flatMap ownedA
  | v => ownedA v
def lookN (l : List (Nat × Nat)) (j : Nat) : Option Nat := (l.find? (·.1 == j)).map (·.2)
def Env.made (E : Env) (d : Option Nat) (v : AV) : Env :=
  match d with
  | none => E
  | some k =>
    let E := E.clean k
    { s := E.s.set k (home k v), live := fun k' j => if k' = k then lookN (owned v) j else E.live k' j }
def appendStep (P : Program) (E : Env) (d : Nat) (t : TypeId) (ax ay : AV) : Option Env :=
  match elemA P t, ax, ay with
  | some e, .sl ox xs, .sl _ ys =>
    match sizeA P e, bytesA P e with
    | some n, some by_ =>
      if 0 < n ∧ (xs.length + ys.length) * by_ ≤ LIM ∧ xs.length + ys.length ≤ maxLen ∧ sized n xs = true ∧ sized n ys = true ∧ zlenA P e = some n then
        match ys with
        | [] => some (E.put (some d) (.sl ox xs))
        | _ :: _ =>
          match ox with
          | .ex => some (E.made (some d) (.sl (.ow 0 0 e) (xs ++ ys)))
          | .ow k j e' => if e' = e ∧ E.live k j = some xs.length then
              some { s := E.s.set d (.sl (.ow k j e) (xs ++ ys)), live := fun k' j' => if k' = k ∧ j' = j then some (xs.length + ys.length) else E.live k' j' } else none
          | .sh => none
      else none
    | _, _ => none
  | _, _, _ => none
/-- is it a function with a body, called by entering it? -/
def entersA (P : Program) (f : FuncId) : Bool :=
  match P.funcs[f]? with
  | some fn => !(fn.name == "runtime.NumGoroutine") && fn.body.isSome
  | none => false
def callStep (P : Program) (call : FuncId → List AV → Option AV) (E : Env) (dst : Option Nat) (c : Call) : Option Env :=
  match c.callee with
  | .builtin .len => (lenA P E.get c).map fun v => E.put dst v
  | .builtin .append => match c.args.toList, c.argTypes.toList, dst with
    | [x, y], [t, t'], some d => if t' = t then appendStep P E d t (E.get x) (E.get y) else none
    | _, _, _ => none
  | .value f =>
    match E.get f with
    | .fn g caps => match snaps E (c.args.toList.map E.get), snapL E caps with
      | some xs, some cs => if entersA P g = true then (call g (xs ++ cs)).map fun v => E.made dst v else none
      | _, _ => none
    | _ => none
  | _ => none
/-- one operation: the frame behind it -/
def evStep (P : Program) (call : FuncId → List AV → Option AV) (E : Env) (o : Oper) : Option Env :=
  match o.op with
  | .alloc t => match o.dst, zeroA P t with
    | some k, some z => if z.all AV.one then some ((E.clean k).put (some k) (.cell z)) else none
    | _, _ => none
  | .box _ x => match o.dst with
    | some k => if (E.get x).cells.all AV.one then some ((E.clean k).put (some k) (clean k (.cell (E.get x).cells))) else none
    | none => none
  | .store t a x => match E.get a, sizeA P t with
    | .loc k off, some n => match E.cellAt k with
      | some cs => if (E.get x).cells.length = n ∧ off + n ≤ cs.length ∧ (E.get x).cells.all AV.one ∧ o.dst = none then
          some (E.put (some k) (setCellOf (setCells cs off (E.get x).cells) (E.s.getD k .undef))) else none
      | none => none
    | _, _ => none
  | .buildSlice t len parts => match o.dst, elemA P t with
    | some k, some e => match chunk1 P e (parts.toList.map fun p => (p.1, E.get p.2)) 0, sizeA P e with
      | some es, some n => if es.length = len ∧ len * n ≤ LIT ∧ (zeroA P e).isSome = true then some (E.put (some k) (.sl .ex es)) else none
      | _, _ => none
    | _, _ => none
  | .makeSlice t l c => match o.dst, elemA P t, E.get l, E.get c with
    | some k, some e, .lit (.int _ n), .lit (.int _ n') => match zeroA P e, sizeA P e, bytesA P e, zlenA P e with
      | some z, some s, some by_, some zl => if 0 ≤ n ∧ n' = n ∧ z.all AV.one = true ∧ z.length = s ∧ zl = s ∧ n.toNat * by_ ≤ LIM ∧ n.toNat ≤ maxLen then
          some ((E.clean k).put (some k) (.row n.toNat s (List.replicate n.toNat z).flatten)) else none
      | _, _, _, _ => none
    | _, _, _, _ => none
  | .call c => callStep P call E o.dst c
  | op => match evPure P E.get op with
    | some v => some (E.put o.dst v)
    | none => match evRead P E op with
      | some v => some (E.put o.dst v)
      | none => none
/-- what is known of a test's answer: nothing; no truth value; a truth value -/
inductive Tr where
  | unknown | no
  | is (b : Bool)
def trOf : AV → Tr
  | .lit (.bool b) => .is b
  | .junk => .unknown
  | _ => .no
def Env.tr (E : Env) (t : Nat) : Tr := match E.s[t]? with
  | some x => trOf x
  | none => .no
/-- is the operation carried out? -/
def wantA (ops : Array Oper) (E : Env) (o : Oper) : Option Bool :=
  match o.guard with
  | none => some true
  | some (j, b) => match (ops[j]?).bind (·.dst) with
    | none => some false
    | some d => match E.tr d with
      | .unknown => none
      | .no => some false
      | .is c => some (c == b)
def evOps (P : Program) (call : FuncId → List AV → Option AV) (ops : Array Oper) : List Oper → Env → Option Env
  | [], E => some E
  | o :: rest, E => match wantA ops E o with
    | some t => if t = true then (evStep P call E o).bind (evOps P call ops rest) else evOps P call ops rest (E.put o.dst .undef)
    | none => none
/-! ### regions whose order is drawn -/
def weak1 : AV → AV
  | .sl (.ow _ _ _) es => .sl .sh es
  | v => v
def weakA : AV → AV
  | .agg l => .agg (l.map weak1)
  | .fn f l => .fn f (l.map weak1)
  | v => weak1 v
/-- what a call hands back, its rows shared -/
def weak : AV → AV
  | .tup l => .tup (l.map weakA)
  | v => weakA v
/-- operations that write memory, or whose memory is written on: never put beside another one -/
def loudA (o : Oper) : Bool :=
  match o.op with
  | .alloc _ | .box _ _ | .store _ _ _ | .makeSlice _ _ _ => true
  | .call c => match c.callee with
    | .builtin .append => true
    | _ => false
  | _ => false
/-- what an operation that writes no memory hands back -/
def rdOp (P : Program) (call : FuncId → List AV → Option AV) (E : Env) (o : Oper) : Option AV :=
  match o.op with
  | .alloc _ | .box _ _ | .store _ _ _ | .makeSlice _ _ _ => none
  | .buildSlice t len parts => match o.dst, elemA P t with
    | some _, some e => match chunk1 P e (parts.toList.map fun p => (p.1, E.get p.2)) 0, sizeA P e with
      | some es, some n => if es.length = len ∧ len * n ≤ LIT ∧ (zeroA P e).isSome = true then some (.sl .ex es) else none
      | _, _ => none
    | _, _ => none
  | .call c => match c.callee with
    | .builtin .len => lenA P E.get c
    | .value f => match E.get f with
      | .fn g caps => match snaps E (c.args.toList.map E.get), snapL E caps with
        | some xs, some cs => if entersA P g = true then (call g (xs ++ cs)).map weak else none
        | _, _ => none
      | _ => none
    | _ => none
  | op => match evPure P E.get op with
    | some v => some v
    | none => evRead P E op
def notCell : AV → Bool
  | .cell _ | .row _ _ _ => false
  | _ => true
def freeA (E : Env) (d : Option Nat) (v : AV) : Bool :=
  match d with
  | none => true
  | some d => notCell (E.s.getD d .undef) && notCell v
def stepD (P : Program) (call : FuncId → List AV → Option AV) (ops : Array Oper) (E : Env) (o : Oper) : Option Env :=
  match wantA ops E o with
  | none => none
  | some true => if loudA o then evStep P call E o else match rdOp P call E o with
    | some v => if freeA E o.dst v then some (E.put o.dst v) else none
    | none => none
  | some false => if freeA E o.dst .undef then some (E.put o.dst .undef) else none
def evOpsD (P : Program) (call : FuncId → List AV → Option AV) (ops : Array Oper) : List Oper → Env → Option Env
  | [], E => some E
  | o :: rest, E => (stepD P call ops E o).bind (evOpsD P call ops rest)
def apartA (ops : Array Oper) (x y : Oper) : Bool := !loudA x && !loudA y && x.apart ops y
def freeOps (ops : Array Oper) (listed : Array Bool) (i : Nat) : Bool :=
  match ops[i]? with
  | none => false
  | some oi => (List.range ops.size).all fun j => j == i || listed.getD j true || match ops[j]? with
      | some oj => oj.after.any (fun e => Region.binds .any e && e.on == i) || apartA ops oi oj
      | none => true
def lexA (ops : Array Oper) : Nat → Nat → Array Bool → Bool
  | 0, _, listed => (Region.ready .any ops listed).isEmpty
  | fuel + 1, k, listed => (Region.ready .any ops listed).contains k && freeOps ops listed k && lexA ops fuel (k + 1) (listed.setIfInBounds k true)
/-- the text's order stands for all -/
def drawnA (P : Program) (ops : Array Oper) : Bool := P.follows .mixedOrders && lexA ops ops.size 0 (Array.replicate ops.size false)
inductive Ex where
  | normal | ret
  | exit (id : Nat)
/-- code; m: rounds of a loop -/
def evLoop (body : Env → Option (Ex × Env)) : Nat → Env → Option (Ex × Env)
  | 0, _ => none
  | m + 1, E => (body E).bind fun r => match r.1 with
    | .normal => evLoop body m r.2
    | _ => some r
def evCode (P : Program) (call : FuncId → List AV → Option AV) (m : Nat) : Code → Env → Option (Ex × Env)
  | .skip, E => some (.normal, E)
  | .region _ ops false, E => (evOps P call ops ops.toList E).map fun E => (.normal, E)
  | .region _ ops true, E => if drawnA P ops then (evOpsD P call ops ops.toList E).map fun E => (.normal, E) else none
  | .seq a b, E => (evCode P call m a E).bind fun r => match r.1 with
    | .normal => evCode P call m b r.2
    | _ => some r
  | .cond c a b, E => match E.get c with
    | .lit (.bool t) => if t then evCode P call m a E else evCode P call m b E
    | _ => none
  | .block id a, E => (evCode P call m a E).map fun r => match r.1 with
    | .exit id' => if id' = id then (.normal, r.2) else r
    | _ => r
  | .loop a, E => evLoop (evCode P call m a) m E
  | .exit id, E => some (.exit id, E)
  | .ret, E => some (.ret, E)
  | _, _ => none

/-! ### functions -/
def resV (P : Program) (E : Env) : ResultVar → Option AV
  | .tmp t => some (view t (E.s.getD t .undef))
  | .cell ad t => evRead P E (.load t (.tmp ad))
def resL (P : Program) (E : Env) : List ResultVar → Option (List AV)
  | [] => some []
  | r :: l => match resV P E r, resL P E l with
    | some x, some m => some (x :: m)
    | _, _ => none
/-- a row of the call's own, cut into its elements -/
def chop (s : Nat) : Nat → List AV → List (List AV)
  | 0, _ => []
  | n + 1, l => l.take s :: chop s n (l.drop s)
def fin1 (E : Env) (used : List (Nat × Nat)) (pos : Nat) : AV → Option AV
  | .lit v => some (.lit v)
  | .sl .sh es => some (.sl .sh es)
  | .sl .ex es => some (.sl .ex es)
  | .sl (.ow k j e) es => if E.live k j = some es.length ∧ used.contains (k, j) = false then some (.sl (.ow 0 pos e) es) else some (.sl .sh es)
  | .mrow k n s => match (E.cellAt k).bind plainL with
    | some cs => if cs.length = n * s then some (.sl .ex (chop s n cs)) else none
    | none => none
  | _ => none
def toks1 : AV → List (Nat × Nat)
  | .sl (.ow k j _) _ => [(k, j)]
  | _ => []
def finL (E : Env) : List (Nat × Nat) → Nat → List AV → Option (List AV)
  | _, _, [] => some []
  | used, pos, x :: l => match fin1 E used pos x, finL E (toks1 x ++ used) (pos + 1) l with
    | some y, some m => some (y :: m)
    | _, _ => none
def finA (E : Env) (used : List (Nat × Nat)) (pos : Nat) : AV → Option AV
  | .agg l => (finL E used pos l).map .agg
  | v => fin1 E used pos v
def finC (E : Env) : List (Nat × Nat) → Nat → List AV → Option (List AV)
  | _, _, [] => some []
  | used, pos, x :: l => match finA E used pos x, finC E (x.cells.flatMap toks1 ++ used) (pos + x.cells.length) l with
    | some y, some m => some (y :: m)
    | _, _ => none
def fin (E : Env) : List AV → Option AV
  | [x] => finA E [] 0 x
  | l => (finC E [] 0 l).map .tup
def entry (fn : Func) (args : List AV) : Env := { s := args ++ List.replicate (fn.ntmps - args.length) .undef, live := fun _ _ => none }
def evEnd (P : Program) (rs : Array ResultVar) : Option (Ex × Env) → Option AV
  | some (.normal, E) => (resL P E rs.toList).bind (fin E)
  | some (.ret, E) => (resL P E rs.toList).bind (fin E)
  | _ => none
def evBody (P : Program) (call : FuncId → List AV → Option AV) (m : Nat) (fn : Func) (args : List AV) : Option AV :=
  match fn.body with
  | some c => evEnd P fn.results (evCode P call m c (entry fn args))
  | none => none
def evN (P : Program) (prims : FuncId → Option (List AV → Option AV)) : Nat → FuncId → List AV → Option AV
  | 0, _, _ => none
  | n + 1, f, args => match prims f with
    | some p => p args
    | none => match P.funcs[f]? with
      | some fn => evBody P (evN P prims n) n fn args
      | none => none
end Go.Proofs.YtcddclkccpfdkaaDoor.EV
