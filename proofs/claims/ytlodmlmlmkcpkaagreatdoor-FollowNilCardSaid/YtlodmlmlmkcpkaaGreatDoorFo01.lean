/- Joined: CnA. -/
import Derived.Calls
import Derived.Orders
/- The canonical semantics of the core code: a deterministic, executable interpreter over a heap of its own. Definitions alone. -/
set_option linter.unusedVariables false
namespace Go.Cn

/-! ### 1. A trie by numbers -/
inductive Tr (α : Type) where
  | leaf
  | node (o : Option α) (l r : Tr α)

def Tr.get {α : Type} : Tr α → Nat → Option α
  | .leaf, _ => none
  | .node o l r, n => if n = 0 then o else if n % 2 = 1 then l.get (n / 2) else r.get (n / 2 - 1)

def Tr.set {α : Type} (a : α) : (fuel n : Nat) → Tr α → Tr α
  | 0, _, t => t
  | f + 1, n, .leaf =>
    if n = 0 then .node (some a) .leaf .leaf
    else if n % 2 = 1 then .node none (Tr.set a f (n / 2) .leaf) .leaf
    else .node none .leaf (Tr.set a f (n / 2 - 1) .leaf)
  | f + 1, n, .node o l r =>
    if n = 0 then .node (some a) l r
    else if n % 2 = 1 then .node o (Tr.set a f (n / 2) l) r
    else .node o l (Tr.set a f (n / 2 - 1) r)

/-! ### 2. The heap -/
/-- The record of a range over a function. -/
structure Lp where
  state : LoopState
  pending : Option Code
  fn : FuncId
  tm : List Value
  params : List Tmp
  assign : Code
  body : Code

inductive Ob where
  /-- cells, their element's type, the group of blocks that may share memory (none: they may not be written) -/
  | cells (cs : List Value) (elem : TypeId) (grp : Option Nat)
  | map (es : List MapEntry) (clock : Nat)
  | iter (m : Option Nat) (since : Nat) (seen : List Nat) (stepped : Nat)
  | loop (l : Lp)

def Ob.isOth : Ob → Bool
  | .cells _ _ _ => false
  | _ => true

structure Hp where
  obs : Tr Ob
  gs : Tr (List Nat)
  next : Nat

def Hp.ob (h : Hp) (b : Nat) : Option Ob := h.obs.get b
def Hp.setOb (h : Hp) (b : Nat) (o : Ob) : Hp := { h with obs := Tr.set o (b + 1) b h.obs }
def Hp.setGs (h : Hp) (g : Nat) (l : List Nat) : Hp := { h with gs := Tr.set l (g + 1) g h.gs }

/-- Is a block of a group alive? -/
def Hp.live (h : Hp) (b : Nat) : Option Nat → Bool
  | none => true
  | some g => match h.gs.get g with
    | none => b == g
    | some l => l.contains b

/-- n cells from a place on. -/
def Hp.cellsAt (h : Hp) (b o n : Nat) : Option (List Value) :=
  match h.ob b with
  | some (.cells cs _ g) => if h.live b g && decide (o + n ≤ cs.length) then some ((cs.drop o).take n) else none
  | _ => none

/-- A store into a block of a group: the other blocks of the group are not read any more. -/
def Hp.only (h : Hp) (b g : Nat) : Hp :=
  match h.gs.get g with
  | none => h
  | some _ => h.setGs g [b]

def splice (cs : List Value) (o : Nat) (vs : List Value) : List Value := cs.take o ++ vs ++ cs.drop (o + vs.length)

def isCell : Value → Bool
  | .agg _ | .tuple _ => false
  | _ => true

def Hp.store (h : Hp) (b o : Nat) (vs : List Value) : Option Hp :=
  match h.ob b with
  | some (.cells cs e (some g)) =>
    if h.live b (some g) && decide (o + vs.length ≤ cs.length) && vs.all isCell then some ((h.only b g).setOb b (.cells (splice cs o vs) e (some g))) else none
  | _ => none

/-- A new object that is no row of cells. -/
def Hp.newOb (h : Hp) (o : Ob) : Hp := { h with obs := Tr.set o (h.next + 1) h.next h.obs, next := h.next + 1 }

def Hp.alloc (h : Hp) (cs : List Value) (e : TypeId) : Hp := { h with obs := Tr.set (.cells cs e (some h.next)) (h.next + 1) h.next h.obs, next := h.next + 1 }

/-- The blocks of a group that stay behind an append to a slice of block b. -/
def Hp.below (h : Hp) (b g : Nat) : List Nat :=
  match h.gs.get g with
  | none => [b]
  | some l => l.dropWhile (· != b)

/-- append where the capacity is not known: a new block of the group of b (o: where the slice begins, e: where it ends). -/
def Hp.extend (h : Hp) (b o e : Nat) (new : List Value) : Option Hp :=
  match h.ob b with
  | some (.cells cs t (some g)) =>
    if h.live b (some g) && decide (o ≤ e) && decide (e ≤ cs.length) && new.all isCell then
      let h1 : Hp := if e = cs.length then h.setGs g (h.next :: h.below b g) else (h.setGs g [h.next, b]).setOb b (.cells (cs.take e) t (some g))
      some { h1 with obs := Tr.set (.cells ((cs.drop o).take (e - o) ++ new) t (some g)) (h.next + 1) h.next h1.obs, next := h.next + 1 }
    else none
  | _ => none

/-! ### 3. Values -/
/-- What is not known (any more). -/
def unk : Value := .tuple #[.tuple #[]]
def isUnk : Value → Bool
  | .tuple vs => vs.size == 1
  | _ => false

/-- A value without a place in it. -/
def plainV : (fuel : Nat) → Value → Bool
  | _, .bool _ | _, .int _ _ | _, .float _ _ | _, .complex _ _ _ | _, .string _ | _, .nilFunc | _, .nilIface | _, .pointer none | _, .map none | _, .slice none 0 0 => true
  | n + 1, .agg cs => cs.toList.all (plainV n)
  | n + 1, .tuple cs => !(cs.size == 1) && cs.toList.all (plainV n)
  | n + 1, .iface _ v => plainV n v
  | _, _ => false

def ev (tm : List Value) : Operand → Value
  | .tmp t => tm.getD t undef
  | .const v => if plainV 100 v then v else unk
  | .global _ => unk
  | .func f => .func (.func f) #[] #[]

def put (tm : List Value) (dst : Option Tmp) (v : Value) : List Value :=
  match dst with
  | some d => tm.set d v
  | none => tm

def addrOf : Value → Option (Nat × Nat)
  | .pointer (some ⟨b, o, none⟩) => some (b, o)
  | _ => none

def ptr (b o : Nat) : Value := .pointer (some ⟨b, o, none⟩)

section
variable (P : Program)

def size? (t : TypeId) : Option Nat := (P.info? t).map (·.size)
def zero? (t : TypeId) : Option Value := (P.info? t).bind (·.zero)
def agg? (t : TypeId) : Option Bool :=
  match P.underlying t with
  | some (.struct _) | some (.array _ _) => some true
  | some _ => some false
  | none => none

/-- A part of a value that lies in cells. -/
def part? (t : TypeId) (cs : Array Value) (off : Nat) : Option Value :=
  match agg? P t with
  | some true => (size? P t).map fun n => .agg (cs.extract off (off + n))
  | some false => cs[off]?
  | none => none

def asPtr : Value → Bool
  | .pointer _ => true
  | _ => false

/-- == of two values of a type. -/
def ceq : (depth : Nat) → TypeId → Value → Value → Option Bool
  | 0, _, _, _ => none
  | d + 1, t, x, y =>
    match P.underlying t, x, y with
    | some .bool, .bool a, .bool b => some (a == b)
    | some (.int _), .int k a, .int k' b => if k = k' then some (a == b) else none
    | some .string, .string a, .string b => some (a == b)
    | some (.pointer _), .pointer none, .pointer b => some b.isNone
    | some (.pointer _), .pointer (some _), .pointer none => some false
    | some (.interface _), .nilIface, .nilIface => some true
    | some (.interface _), .nilIface, .iface _ _ => some false
    | some (.interface _), .iface _ _, .nilIface => some false
    | some (.struct fs), .agg xs, .agg ys =>
      if P.stoodInHeld t then none else
      fs.toList.foldr (fun f acc =>
        if f.name ≠ "_" then
          match part? P f.type xs f.offset, part? P f.type ys f.offset with
          | some a, some b => match ceq d f.type a b with
            | some true => acc
            | some false => some false
            | none => none
          | _, _ => none
        else acc) (some true)
    | some (.array len elem), .agg xs, .agg ys =>
      match size? P elem with
      | some n => (List.range len).foldr (fun i acc =>
          match part? P elem xs (i * n), part? P elem ys (i * n) with
          | some a, some b => match ceq d elem a b with
            | some true => acc
            | some false => some false
            | none => none
          | _, _ => none) (some true)
      | none => none
    | some (.slice _), .slice none _ _, .slice b _ _ => some b.isNone
    | some (.slice _), .slice (some _) _ _, .slice none _ _ => some false
    | some (.map _ _), .map none, .map b => some b.isNone
    | some (.map _ _), .map (some _), .map none => some false
    | some (.func _ _ _), .nilFunc, .nilFunc => some true
    | some (.func _ _ _), .nilFunc, .func _ _ _ => some false
    | some (.func _ _ _), .func _ _ _, .nilFunc => some false
    | some (.pointer el), .pointer (some a), .pointer (some b) => if a.block = b.block then (match size? P el with
      | some 0 => none
      | some (_ + 1) => some (a.off == b.off)
      | none => none) else none
    | _, _, _ => none

def eqFree (t : TypeId) : Bool := !P.eqGuardType P.depth t
def noStood (t : TypeId) : Bool := !P.stoodInHeld t

/-- Is == at these operands one of those that the model answers plainly? -/
def eqPlain (t : TypeId) (x y : Operand) (a b : Value) : Bool :=
  match a, b with
  | .nilIface, .nilIface => (match x with | .const _ => true | _ => false) || (match y with | .const _ => true | _ => false)
  | .agg _, .agg _ => eqFree P t
  | _, _ => true

def shift (op : BinOp) (k : IntKind) (a b : Int) : Option Value :=
  if b < 0 then none else
  match op with
  | .shl => some (.int k (k.wrap (a * 2 ^ min b.toNat k.bits)))
  | .shr => some (.int k (a.fdiv (2 ^ min b.toNat k.bits)))
  | _ => none

def intOp (op : BinOp) (k : IntKind) (a b : Int) : Option Value :=
  match op with
  | .add => some (.int k (k.wrap (a + b)))
  | .sub => some (.int k (k.wrap (a - b)))
  | .mul => some (.int k (k.wrap (a * b)))
  | .quo => if b = 0 then none else some (.int k (k.wrap (a.tdiv b)))
  | .rem => if b = 0 then none else some (.int k (a.tmod b))
  | .and => some (.int k (k.wrap (BitVec.ofInt k.bits a &&& BitVec.ofInt k.bits b).toNat))
  | .or => some (.int k (k.wrap (BitVec.ofInt k.bits a ||| BitVec.ofInt k.bits b).toNat))
  | .xor => some (.int k (k.wrap (BitVec.ofInt k.bits a ^^^ BitVec.ofInt k.bits b).toNat))
  | .andNot => some (.int k (k.wrap (BitVec.ofInt k.bits a &&& ~~~BitVec.ofInt k.bits b).toNat))
  | .eql => some (.bool (a == b))
  | .neq => some (.bool (a != b))
  | .lss => some (.bool (a < b))
  | .leq => some (.bool (a ≤ b))
  | .gtr => some (.bool (a > b))
  | .geq => some (.bool (a ≥ b))
  | _ => none

def strOp (op : BinOp) (x y : ByteArray) : Option Value :=
  match op with
  | .add => if ((x.size + y.size : Nat) : Int) > IntKind.i64.max then none else some (.string (x ++ y))
  | .eql => some (.bool (x.toList == y.toList))
  | .neq => some (.bool !(x.toList == y.toList))
  | .lss => some (.bool (Op.bytesLess x.toList y.toList))
  | .leq => some (.bool (Op.bytesLess x.toList y.toList || x.toList == y.toList))
  | .gtr => some (.bool !(Op.bytesLess x.toList y.toList || x.toList == y.toList))
  | .geq => some (.bool !(Op.bytesLess x.toList y.toList))
  | _ => none

def cbin (op : BinOp) (t : TypeId) (x y : Operand) (a b : Value) : Option Value :=
  match a, b with
  | .int k m, .int k' n =>
    match op with
    | .shl | .shr => shift op k m n
    | _ => if k = k' then intOp op k m n else none
  | .string s, .string u => strOp op s u
  | .float _ _, _ | .complex _ _ _, _ => none
  | a, b =>
    match op with
    | .eql => if eqPlain P t x y a b then (ceq P Op.maxDepth t a b).map .bool else none
    | .neq => if eqPlain P t x y a b then (ceq P Op.maxDepth t a b).map fun r => .bool !r else none
    | _ => none

def cun (op : UnOp) (x : Value) : Option Value :=
  match op, x with
  | .neg, .int k n => some (.int k (k.wrap (0 - n)))
  | .xor, .int k n => some (.int k (k.wrap (BitVec.ofInt k.bits (if k.signed then -1 else k.max) ^^^ BitVec.ofInt k.bits n).toNat))
  | .not, .bool b => some (.bool !b)
  | _, _ => none

def bound (x : Option Value) (dflt most : Nat) : Option Nat :=
  match x with
  | none => some dflt
  | some (.int _ i) => if 0 ≤ i ∧ i ≤ (most : Int) then some i.toNat else none
  | some _ => none

/-- The three bounds of a slice expression. -/
def bounds (len cap : Nat) (lo hi mx : Option Value) : Option (Nat × Nat × Nat) :=
  match bound mx cap cap with
  | none => none
  | some m =>
    match hi, mx with
    | none, some _ => none
    | _, _ =>
      match bound hi len (if mx.isSome then m else cap) with
      | none => none
      | some h => match bound lo 0 h with
        | none => none
        | some l => some (l, h, m)

def cslice (t : TypeId) (x : Value) (lo hi mx : Option Value) : Option Value :=
  match P.underlying t, x with
  | some .string, .string s =>
    match mx with
    | some _ => none
    | none => match bounds s.size s.size lo hi none with
      | some (l, h, _) => some (.string (s.extract l h))
      | none => none
  | some (.slice elem), .slice none len cap =>
    match bounds len cap lo hi mx, size? P elem with
    | some (l, h, m), some _ => some (.slice none (h - l) (m - l))
    | _, _ => none
  | some (.slice elem), .slice (some ⟨b, o, sp⟩) len cap =>
    match bounds len cap lo hi mx, size? P elem with
    | some (l, h, m), some n =>
      if mx.isSome then some (.slice (some ⟨b, o + l * n, none⟩) (h - l) (m - l))
      else if sp = none ∨ sp = some n then some (.slice (some ⟨b, o + l * n, sp⟩) (h - l) (m - l)) else none
    | _, _ => none
  | some (.array len elem), .pointer (some ⟨b, o, none⟩) =>
    match bounds len len lo hi mx, size? P elem with
    | some (l, h, m), some n => some (.slice (some ⟨b, o + l * n, none⟩) (h - l) (m - l))
    | _, _ => none
  | _, _ => none

def cfieldAddr (s : TypeId) (x : Value) (f : Nat) : Option Value :=
  match P.underlying s, x with
  | some (.struct fs), .pointer (some ⟨b, o, none⟩) =>
    match fs[f]? with
    | some fd => match size? P fd.type with
      | some n => if n = 0 then none else some (ptr b (o + fd.offset))
      | none => none
    | none => none
  | _, _ => none

def cindexAddr (t : TypeId) (x ix : Value) : Option Value :=
  match ix with
  | .int _ i =>
    match P.underlying t, x with
    | some (.array len elem), .pointer (some ⟨b, o, none⟩) | some (.slice elem), .slice (some ⟨b, o, _⟩) len _ =>
      if 0 ≤ i ∧ i < (len : Int) then (size? P elem).map fun n => ptr b (o + i.toNat * n) else none
    | _, _ => none
  | _ => none

def cfield (t : TypeId) (x : Value) (f : Nat) : Option Value :=
  match P.underlying t, x with
  | some (.struct fs), .agg cs =>
    match fs[f]? with
    | some fd => part? P fd.type cs fd.offset
    | none => none
  | _, _ => none

def cindex (t : TypeId) (x ix : Value) : Option Value :=
  match ix with
  | .int _ i =>
    match P.underlying t, x with
    | some (.array len elem), .agg cs =>
      if 0 ≤ i ∧ i < (len : Int) then match size? P elem with
        | some n => part? P elem cs (i.toNat * n)
        | none => none
      else none
    | some .string, .string s => if 0 ≤ i then (s[i.toNat]?).map fun b => .int .u8 b.toNat else none
    | _, _ => none
  | _ => none

/-- The cells of an aggregate whose parts are given. -/
def fillL (place : Nat → Option (Nat × Nat)) (cells : List Value) : List (Nat × Value) → Option (List Value)
  | [] => some cells
  | (i, v) :: rest =>
    match place i with
    | none => none
    | some (off, size) =>
      if isUnk v || v.cells.size ≠ size || off + v.cells.size > cells.length then none
      else fillL place (splice cells off v.cells.toList) rest

def cbuild (t : TypeId) (parts : List (Nat × Value)) : Option Value :=
  match zero? P t with
  | none => none
  | some z =>
    if !plainV 100 z then none else
    match P.underlying t with
    | some (.struct fs) =>
      match fs.toList.mapM fun f => (size? P f.type).map fun n => (f.offset, n) with
      | some places => (fillL (fun i => places[i]?) z.cells.toList parts).map fun l => .agg l.toArray
      | none => none
    | some (.array _ elem) =>
      match size? P elem with
      | some n => (fillL (fun i => some (i * n, n)) z.cells.toList parts).map fun l => .agg l.toArray
      | none => none
    | _ => none

def clen (t : TypeId) (x : Value) : Option Value :=
  match P.underlying t, x with
  | some .string, .string s => some (.int .i64 s.size)
  | some (.array n _), _ => some (.int .i64 n)
  | some (.slice _), .slice _ n _ => some (.int .i64 n)
  | some (.map _ _), .map none => some (.int .i64 0)
  | some (.pointer arr), _ => match P.underlying arr with
    | some (.array n _) => some (.int .i64 n)
    | _ => none
  | _, _ => none

/-- The capacity of a slice, where it is known. -/
def ccap (t : TypeId) (x : Value) : Option Value :=
  match P.underlying t, x with
  | some (.slice _), .slice none 0 0 => some (.int .i64 (.ofNat 0))
  | some (.slice _), .slice (some ⟨_, _, none⟩) _ c => some (.int .i64 (.ofNat c))
  | _, _ => none

def cmax (x y : Value) : Option Value :=
  match x, y with
  | .int k a, .int k' b => if k = k' then some (.int k (if a ≥ b then a else b)) else none
  | _, _ => none

def cmin (x y : Value) : Option Value :=
  match x, y with
  | .int k a, .int k' b => if k = k' then some (.int k (if a ≤ b then a else b)) else none
  | _, _ => none

def cconv (src dst : TypeId) (x : Value) : Option Value :=
  match P.underlying src, P.underlying dst, x with
  | some _, some (.int k), .int _ n => some (.int k (k.wrap n))
  | some _, some .string, .string s => some (.string s)
  | _, _, _ => none

def isYield : Fn → Bool
  | .yield _ => true
  | _ => false

/-- The operations that look at their operands alone. -/
def pop (tm : List Value) (op : Op) : Option Value :=
  match op with
  | .move x | .assign x => some (ev tm x)
  | .pick c a b => match ev tm c with
    | .bool true => some (ev tm a)
    | .bool false => some (ev tm b)
    | _ => none
  | .nilCheck x => match ev tm x with
    | .pointer (some a) => some (.pointer (some a))
    | .iface t v => some (.iface t v)
    | .func (.func f) a b => some (.func (.func f) a b)
    | _ => none
  | .binOp o t x y _ => cbin P o t x y (ev tm x) (ev tm y)
  | .unOp o _ x => cun o (ev tm x)
  | .convert s d x => cconv P s d (ev tm x)
  | .makeInterface t x => match P.underlying t with
    | some (.interface _) | none => none
    | some _ => some (.iface t (ev tm x))
  | .makeFunc fn first captured => if isYield fn then none else some (.func fn (first.map (ev tm)) (captured.map (ev tm)))
  | .slice t x lo hi mx => cslice P t (ev tm x) (lo.map (ev tm)) (hi.map (ev tm)) (mx.map (ev tm))
  | .fieldAddr s x f => cfieldAddr P s (ev tm x) f
  | .field t x f => cfield P t (ev tm x) f
  | .indexAddr t x ix => cindexAddr P t (ev tm x) (ev tm ix)
  | .index t x ix => cindex P t (ev tm x) (ev tm ix)
  | .build t parts => cbuild P t (parts.toList.map fun (i, x) => (i, ev tm x))
  | .extract x i => match ev tm x with
    | .tuple vs => if vs.size = 1 then (match vs[0]? with
      | some (Value.bool b) => if i = 0 then some (.bool b) else none
      | _ => none) else vs[i]?
    | _ => none
  | .call { callee := .builtin .len, args, argTypes } =>
    match argTypes.toList, args.toList with
    | t :: _, x :: _ => clen P t (ev tm x)
    | _, _ => none
  | .call { callee := .builtin .cap, args, argTypes } =>
    match argTypes.toList, args.toList with
    | t :: _, x :: _ => ccap P t (ev tm x)
    | _, _ => none
  | .call { callee := .builtin .max, args, .. } =>
    match args.toList with
    | [x, y] => cmax (ev tm x) (ev tm y)
    | _ => none
  | .call { callee := .builtin .min, args, .. } =>
    match args.toList with
    | [x, y] => cmin (ev tm x) (ev tm y)
    | _ => none
  | .sliceToArrayPointer arr x =>
    match P.underlying arr, ev tm x with
    | some (.array n _), .slice (some ⟨b, o, _⟩) l _ => if n ≤ l ∧ 0 < n then some (ptr b o) else none
    | _, _ => none
  | .typeAssert x _ asserted ok =>
    match P.underlying asserted, ev tm x with
    | some (.interface _), _ => none
    | some _, .iface t v => if t = asserted then some (if ok then .tuple #[v, .bool true] else v) else none
    | _, _ => none
  | _ => none

/-- The bytes that cells hold. -/
def bytesOf : List Value → Option (List UInt8)
  | [] => some []
  | .int .u8 n :: l => (bytesOf l).map (UInt8.ofNat n.toNat :: ·)
  | _ => none

def toVal (t : TypeId) (cs : List Value) : Option Value :=
  match agg? P t with
  | some true => some (.agg cs.toArray)
  | some false => cs.head?
  | none => none

def cload (t : TypeId) (a : Value) (h : Hp) : Option Value :=
  match a with
  | .pointer (some ⟨b, o, none⟩) =>
    match agg? P t, size? P t with
    | some true, some n => (h.cellsAt b o n).map fun cs => .agg cs.toArray
    | some false, some _ => match h.cellsAt b o 1 with
      | some [v] => some v
      | _ => none
    | _, _ => none
  | _ => none

/-! ### Maps -/
/-- Is this a key that the model takes, and compares without a choice? -/
def keyOk (t : TypeId) (k : Value) : Bool :=
  match P.underlying t with
  | some (.int _) | some .string | some .bool | some (.pointer _) => true
  | some (.array n e) => match P.underlying e, size? P e, k with
    | some (.int _), some 1, .agg cs => cs.size == n
    | _, _, _ => false
  | _ => false

def findEq (t : TypeId) (k : Value) : List MapEntry → Nat → Option (Option (Nat × Value))
  | [], _ => some none
  | e :: es, i =>
    match ceq P Op.maxDepth t k e.key with
    | some true => some (some (i, e.val))
    | some false => findEq t k es (i + 1)
    | none => none

def findK (t : TypeId) (k : Value) (es : List MapEntry) : Option (Option (Nat × Value)) :=
  match P.underlying t with
  | some (.array _ _) => if noStood P t && eqFree P t then findEq P t k es 0 else none
  | some (.pointer _) => findEq P t k es 0
  | some d => Instr.findNow d k es 0
  | none => none

def lenOfMap (ts : Array TypeId) : Bool :=
  match ts.toList with
  | t :: _ => match P.underlying t with
    | some (.map _ _) => true
    | _ => false
  | _ => false

def mapOf (h : Hp) (m : Value) : Option (List MapEntry) :=
  match m with
  | .map none => some []
  | .map (some b) => match h.ob b with
    | some (.map es _) => some es
    | _ => none
  | _ => none

def clookup (t : TypeId) (x ix : Value) (ok : Bool) (h : Hp) : Option Value :=
  match P.underlying t with
  | some (.map kt et) =>
    if !keyOk P kt ix then none else
    match mapOf h x with
    | none => none
    | some es =>
      match findK P kt ix es with
      | some (some (_, v)) => some (if ok then .tuple #[v, .bool true] else v)
      | some none => match zero? P et with
        | some z => if plainV 100 z then some (if ok then .tuple #[z, .bool false] else z) else none
        | none => none
      | none => none
  | _ => none

def centry (it : Value) (h : Hp) : Option Value :=
  match it with
  | .pointer (some ⟨b, 0, none⟩) => match h.ob b with
    | some (.iter (some m) _ seen stepped) =>
      match seen.getLast?, h.ob m with
      | some stamp, some (.map es clock) =>
        if clock ≠ stepped then none else (es.find? fun e => e.born == stamp).map fun e => .tuple #[e.key, e.val]
      | _, _ => none
    | _ => none
  | _ => none

/-- The operations that read the heap. -/
def rop (tm : List Value) (op : Op) (h : Hp) : Option Value :=
  match op with
  | .load t a => cload P t (ev tm a) h
  | .lookup t x ix ok => clookup P t (ev tm x) (ev tm ix) ok h
  | .entry it => centry (ev tm it) h
  | .call { callee := .builtin .len, args, argTypes } =>
    if lenOfMap P argTypes then
      match args.toList with
      | x :: _ => (mapOf h (ev tm x)).map fun es => .int .i64 es.length
      | _ => none
    else none
  | .convert src dst x =>
    match P.underlying src, P.underlying dst, ev tm x with
    | some (.slice e), some .string, .slice none _ _ => match P.underlying e with
      | some (.int .u8) => some (.string .empty)
      | _ => none
    | some (.slice e), some .string, .slice (some ⟨b, o, _⟩) n _ => match P.underlying e with
      | some (.int .u8) => match h.cellsAt b o n with
        | some cs => (bytesOf cs).map fun l => .string ⟨l.toArray⟩
        | none => none
      | _ => none
    | _, _, _ => none
  | _ => none

def zeroCells (z : List Value) (n : Nat) : List Value := (List.replicate n z).flatten

/-- How many bytes a slice may take. -/
def roomy (need bytes : Nat) : Bool := decide ((2 * need + 1024) * bytes ≤ 2 ^ 47)

def dataOf (size : Nat) (x : Value) (h : Hp) : Option (Nat × List Value) :=
  match x with
  | .slice none n _ => if n = 0 then some (0, []) else none
  | .slice (some ⟨b, o, _⟩) n _ => if n = 0 then some (0, []) else (h.cellsAt b o (n * size)).map fun cs => (n, cs)
  | .string s => if size = 1 then some (s.size, s.data.toList.map fun b => .int .u8 b.toNat) else none
  | _ => none

def slen : Value → Nat
  | .slice _ l _ => l
  | _ => 0

/-- append(s, x...). -/
def cappend (t xt : TypeId) (s x : Value) (h : Hp) : Option (Value × Hp) :=
  match P.underlying t with
  | some (.slice elem) =>
    match P.info? elem, P.underlying xt with
    | some i, some (.int _) => none
    | some i, some _ =>
      match dataOf i.size x h with
      | none => none
      | some (n, new) =>
        if n = 0 then match s with
          | .slice a l c => if l ≤ c then some (.slice a l c, h) else none
          | _ => none
        else if !decide (i.zero.map (fun z => z.cells.size) = some i.size) || !roomy (slen s + n) i.bytes || i.size = 0 || i.bytes = 0 then none else
        match s with
        | .slice none 0 0 => some (.slice (some ⟨h.next, 0, some i.size⟩) n n, h.alloc new elem)
        | .slice (some ⟨b, o, sp⟩) l c =>
          if l + n ≤ c then (h.store b (o + l * i.size) new).map fun h' => (.slice (some ⟨b, o, sp⟩) (l + n) c, h')
          else match sp with
            | none => if l = 0 then some (.slice (some ⟨h.next, 0, some i.size⟩) n n, h.alloc new elem) else
              (h.cellsAt b o (l * i.size)).map fun old => (.slice (some ⟨h.next, 0, some i.size⟩) (l + n) (l + n), h.alloc (old ++ new) elem)
            | some k => if k = i.size then (h.extend b o (o + l * i.size) new).map fun h' => (.slice (some ⟨h.next, 0, some i.size⟩) (l + n) (l + n), h') else none
        | _ => none
    | _, _ => none
  | _ => none

def ccopy (t : TypeId) (d x : Value) (h : Hp) : Option (Value × Hp) :=
  match P.underlying t with
  | some (.slice elem) =>
    match size? P elem, d with
    | some size, .slice a l _ =>
      match dataOf size x h with
      | none => none
      | some (n, new) =>
        let m := min n l
        if m = 0 then some (.int .i64 0, h) else
        match a with
        | some ⟨b, o, _⟩ => (h.store b o (new.take (m * size))).map fun h' => (.int .i64 m, h')
        | _ => none
    | _, _ => none
  | _ => none

def cclear (t : TypeId) (x : Value) (h : Hp) : Option (Value × Hp) :=
  match P.underlying t, x with
  | some (.slice _), .slice none _ _ => some (.tuple #[], h)
  | some (.slice elem), .slice (some ⟨b, o, _⟩) n _ =>
    if n = 0 then some (.tuple #[], h) else
    match zero? P elem with
    | some z => if plainV 100 z then (h.store b o (zeroCells z.cells.toList n)).map fun h' => (.tuple #[], h') else none
    | none => none
  | _, _ => none

def cmakeSlice (t : TypeId) (l c : Value) (h : Hp) : Option (Value × Hp) :=
  match P.underlying t, l, c with
  | some (.slice elem), .int _ len, .int _ cap =>
    match P.info? elem with
    | some i =>
      if 0 ≤ len ∧ len ≤ cap ∧ i.bytes * cap ≤ 2 ^ 47 ∧ cap ≤ IntKind.i64.max then
        match i.zero with
        | some z => if z.cells.size = i.size && !(i.size = 0) && plainV 100 z then some (.slice (some ⟨h.next, 0, none⟩) len.toNat cap.toNat, h.alloc (zeroCells z.cells.toList cap.toNat) elem) else none
        | none => none
      else none
    | none => none
  | _, _, _ => none

def setVal (es : List MapEntry) (i : Nat) (k x : Value) : List MapEntry := es.modify i fun e => { e with key := k, val := x }
def setKey (es : List MapEntry) (i : Nat) (k : Value) : List MapEntry := es.modify i fun e => { e with key := k }

def keyStays (es : List MapEntry) (i : Nat) (k : Value) : Bool :=
  match es[i]? with
  | some e => Instr.sameBits 10000 e.key k
  | none => false

def cmapUpdate (t : TypeId) (m k x : Value) (h : Hp) : Option Hp :=
  match P.underlying t, m with
  | some (.map kt _), .map (some b) =>
    if !keyOk P kt k then none else
    match h.ob b with
    | some (.map es clock) =>
      match findK P kt k es with
      | some (some (i, _)) => if keyStays es i k then some (h.setOb b (.map (setVal es i k x) clock)) else none
      | some none => some (h.setOb b (.map (es ++ [⟨k, x, clock⟩]) (clock + 1)))
      | none => none
    | _ => none
  | _, _ => none

def cmapEntry (t : TypeId) (m k : Value) (h : Hp) : Option (Value × Hp) :=
  match P.underlying t, m with
  | some (.map kt et), .map (some b) =>
    if !keyOk P kt k then none else
    match h.ob b with
    | some (.map es clock) =>
      match findK P kt k es with
      | some (some (i, v)) => if !keyStays es i k then none else match es[i]? with
        | some e => some (.tuple #[v, .int .i64 e.born], h.setOb b (.map (setKey es i k) clock))
        | none => none
      | some none => match zero? P et with
        | some z => if plainV 100 z then some (.tuple #[z, .int .i64 clock], h.setOb b (.map (es ++ [⟨k, z, clock⟩]) (clock + 1))) else none
        | none => none
      | none => none
    | _ => none
  | _, _ => none

def centryStore (m stamp x : Value) (h : Hp) : Option Hp :=
  match m, stamp with
  | .map (some b), .int _ born =>
    match h.ob b with
    | some (.map es clock) => (es.findIdx? fun e => (e.born : Int) == born).map fun i => h.setOb b (.map (es.modify i fun e => { e with val := x }) clock)
    | _ => none
  | _, _ => none

def cdelete (t : TypeId) (m k : Value) (h : Hp) : Option (Value × Hp) :=
  match P.underlying t, m with
  | some (.map kt _), .map none => if keyOk P kt k then some (.tuple #[], h) else none
  | some (.map kt _), .map (some b) =>
    if !keyOk P kt k then none else
    match h.ob b with
    | some (.map es clock) =>
      match findK P kt k es with
      | some (some (i, _)) => some (.tuple #[], h.setOb b (.map (es.eraseIdx i) clock))
      | some none => some (.tuple #[], h)
      | none => none
    | _ => none
  | _, _ => none

def crange (t : TypeId) (x : Value) (h : Hp) : Option (Value × Hp) :=
  match P.underlying t, x with
  | some (.map _ _), .map none => some (ptr h.next 0, h.newOb (.iter none 0 [] 0))
  | some (.map _ _), .map (some b) => match h.ob b with
    | some (.map _ clock) => some (ptr h.next 0, h.newOb (.iter (some b) clock [] clock))
    | _ => none
  | _, _ => none

/-- What a step over a map may come to. -/
def cnext (it : Value) (h : Hp) : Option (List (Value × Hp)) :=
  match it with
  | .pointer (some ⟨b, 0, none⟩) => match h.ob b with
    | some (.iter none _ _ _) => some [(.tuple #[.bool false], h)]
    | some (.iter (some m) since seen last) =>
      match h.ob m with
      | some (.map es clock) =>
        if !seen.isEmpty && !es.isEmpty && es.all (fun e => decide (e.born ≥ last)) then none else
        let left := es.filter fun e => !seen.contains e.born
        let old := left.filter fun e => decide (e.born < since)
        let new := left.filter fun e => decide (e.born ≥ since)
        some ((if old.isEmpty then [(.tuple #[.bool false], h)] else []) ++
          (old ++ new).map fun e => (.tuple #[.bool true, e.key, e.val], h.setOb b (.iter (some m) since (seen ++ [e.born]) clock)))
      | _ => none
    | _ => none
  | _ => none

/-- The operations that change the heap in a way that is drawn. -/
def aop (tm : List Value) (op : Op) (h : Hp) : Option (List (Value × Hp)) :=
  match op with
  | .next it false => cnext (ev tm it) h
  | _ => none

/-- The object that is made: cells, or an empty map. -/
def obOf (c : Option (List Value × TypeId)) (id : Nat) : Ob :=
  match c with
  | some (cs, e) => .cells cs e (some id)
  | none => .map [] 0

/-- The operations that make new memory of what their operands say: its cells, their type, and the value by the new block's number. -/
def mkOf (tm : List Value) (op : Op) : Option (Option (List Value × TypeId) × (Nat → Value)) :=
  match op with
  | .box e x => if isUnk (ev tm x) then none else some (some ((ev tm x).cells.toList, e), fun id => ptr id 0)
  | .buildSlice t len parts =>
    match P.underlying t with
    | some (.slice e) =>
      match P.info? e with
      | some i => match i.zero with
        | some z =>
          if len * i.size > 2 ^ 24 || z.cells.size ≠ i.size || i.size = 0 || !plainV 100 z then none else
          (fillL (fun j => some (j * i.size, i.size)) (zeroCells z.cells.toList len) (parts.toList.map fun (j, x) => (j, ev tm x))).map fun cs => (some (cs, e), fun id => .slice (some ⟨id, 0, none⟩) len len)
        | none => none
      | none => none
    | _ => none
  | .makeMap _ none => some (none, fun id => .map (some id))
  | _ => none

def mkop (tm : List Value) (op : Op) (h : Hp) : Option (Value × Hp) := (mkOf P tm op).map fun m => (m.2 h.next, h.newOb (obOf m.1 h.next))

/-- The operations that change the heap. -/
def eop (tm : List Value) (op : Op) (h : Hp) : Option (Value × Hp) :=
  match op with
  | .alloc e => match zero? P e with
    | some z => if plainV 100 z then some (ptr h.next 0, h.alloc z.cells.toList e) else none
    | none => none
  | .store t a x =>
    match ev tm a, size? P t with
    | .pointer (some ⟨b, o, none⟩), some n => if (ev tm x).cells.size = n then (h.store b o (ev tm x).cells.toList).map fun h' => (undef, h') else none
    | _, _ => none
  | .makeSlice t l c => cmakeSlice P t (ev tm l) (ev tm c) h
  | .makeMap t r => match r with
    | none => some (.map (some h.next), h.newOb (.map [] 0))
    | some x => match P.underlying t, ev tm x with
      | some (.map _ _), .int _ _ => some (.map (some h.next), h.newOb (.map [] 0))
      | _, _ => none
  | .mapUpdate t m k x | .insert t m k x => (cmapUpdate P t (ev tm m) (ev tm k) (ev tm x) h).map fun h' => (undef, h')
  | .mapEntry t m k => cmapEntry P t (ev tm m) (ev tm k) h
  | .entryStore _ m s x => (centryStore (ev tm m) (ev tm s) (ev tm x) h).map fun h' => (undef, h')
  | .range t x => crange P t (ev tm x) h
  | .call { callee := .builtin .delete, args, argTypes } =>
    match argTypes.toList, args.toList with
    | t :: _, [m, k] => cdelete P t (ev tm m) (ev tm k) h
    | _, _ => none
  | .convert src dst x =>
    match P.underlying src, P.underlying dst, ev tm x with
    | some .string, some (.slice e), .string s => match P.underlying e with
      | some (.int .u8) => some (.slice (some ⟨h.next, 0, some 1⟩) s.size s.size, h.alloc (s.data.toList.map fun b => .int .u8 b.toNat) e)
      | _ => none
    | _, _, _ => none
  | .call { callee := .builtin .append, args, argTypes } =>
    match argTypes.toList, args.toList with
    | [t, xt], [s, x] => cappend P t xt (ev tm s) (ev tm x) h
    | _, _ => none
  | .call { callee := .builtin .copy, args, argTypes } =>
    match argTypes.toList, args.toList with
    | t :: _, [d, x] => ccopy P t (ev tm d) (ev tm x) h
    | _, _ => none
  | .call { callee := .builtin .clear, args, argTypes } =>
    match argTypes.toList, args.toList with
    | t :: _, [x] => cclear P t (ev tm x) h
    | _, _ => none
  | _ => none

inductive Kind where
  | pure | read | eff | call | alt | mk
  deriving DecidableEq


def kind (op : Op) : Kind :=
  match op with
  | .load _ _ | .lookup _ _ _ _ | .entry _ => .read
  | .box _ _ | .buildSlice _ _ _ | .makeMap _ none => .mk
  | .alloc _ | .store _ _ _ | .makeSlice _ _ _ | .makeMap _ _ | .mapUpdate _ _ _ _ | .insert _ _ _ _ | .mapEntry _ _ _ | .entryStore _ _ _ _ | .range _ _ => .eff
  | .next _ _ => .alt
  | .convert src dst _ =>
    match P.underlying src, P.underlying dst with
    | some .string, some (.slice _) => .eff
    | some (.slice _), some .string => .read
    | _, _ => .pure
  | .call { callee := .builtin .append, .. } | .call { callee := .builtin .copy, .. } | .call { callee := .builtin .clear, .. } | .call { callee := .builtin .delete, .. } => .eff
  | .call { callee := .builtin .len, argTypes, .. } => if lenOfMap P argTypes then .read else .pure
  | .call { callee := .builtin _, .. } => .pure
  | .call _ => .call
  | _ => .pure

/-- The method of an interface's value: where it is found without a look at the memory. -/
def methodOf (t : TypeId) (name : String) : Option FuncId :=
  match P.info? t with
  | some i => match i.methods.find? (·.name == name) with
    | some m => if !m.path.isEmpty then none else
      match m.func, P.underlying t with
      | some (f, true), some (.pointer _) => some f
      | some (_, false), some (.pointer _) => none
      | some (f, false), some _ => some f
      | _, _ => none
    | none => none
  | none => none

/-- A function and its arguments. (Numbers behind the last function's: the rounds of a range over a function.) -/
def callee (tm : List Value) (op : Op) : Option (FuncId × List Value) :=
  match op with
  | .call { callee := .value f, args, .. } =>
    match ev tm f with
    | .func (.func g) first captured => if g < P.funcs.size then some (g, first.toList ++ args.toList.map (ev tm) ++ captured.toList) else none
    | .func (.yield l) first captured => if first.size = 0 ∧ captured.size = 0 then some (P.funcs.size + l, args.toList.map (ev tm)) else none
    | _ => none
  | .call { callee := .invoke r name, args, .. } =>
    match ev tm r with
    | .iface t v => match methodOf P t name with
      | some g => if g < P.funcs.size && !isUnk v then some (g, v :: args.toList.map (ev tm)) else none
      | none => none
    | _ => none
  | _ => none

/-! ### 4. Regions -/
/-- What a guard's value says: none: not known. -/
def wantsV (v : Value) (want : Bool) : Option Bool :=
  match v with
  | .bool b => some (b == want)
  | .tuple vs => if vs.size = 0 then some false else none
  | _ => none

def wants (ops : List Oper) (tm : List Value) (o : Oper) : Option Bool :=
  match o.guard with
  | none => some true
  | some (j, want) =>
    match (ops[j]?).bind (·.dst) with
    | some d => wantsV (tm.getD d undef) want
    | none => some false

/-- What a run ends in: a proposition (reasoning) or a Bool (evaluation). -/
structure Al (R : Type) where
  bot : R
  chk : Value → Option Value → R → R
  lp : (Nat → R) → R
  all : List R → R

def opt {R α : Type} (bot : R) (o : Option α) (k : α → R) : R :=
  match o with
  | some v => k v
  | none => bot

/-- Reasoning. -/
def alP : Al Prop := ⟨False, fun v o r => o = some v ∧ r, fun f => ∃ n, f n, fun l => ∀ r ∈ l, r⟩

def sameV : (fuel : Nat) → Value → Value → Bool
  | _, .bool a, .bool b => a == b
  | _, .int j a, .int k b => j == k && a == b
  | _, .string a, .string b => a.data.toList == b.data.toList
  | _, .pointer a, .pointer b => a == b
  | _, .slice a n c, .slice b m d => a == b && n == m && c == d
  | _, .map a, .map b => a == b
  | _, .nilIface, .nilIface => true
  | _, .nilFunc, .nilFunc => true
  | n + 1, .iface t v, .iface u w => t == u && sameV n v w
  | n + 1, .agg a, .agg b => a.size == b.size && (a.toList.zip b.toList).all fun (x, y) => sameV n x y
  | n + 1, .func f a b, .func g c d => decide (f = g) && (a.size == c.size && (a.toList.zip c.toList).all fun (x, y) => sameV n x y) && (b.size == d.size && (b.toList.zip d.toList).all fun (x, y) => sameV n x y)
  | _, _, _ => false

/-- Evaluation, with so many rounds of a loop at most. -/
def alB (fuel : Nat) : Al Bool := ⟨false, fun v o r => o.any (sameV 100 v) && r, fun f => f fuel, fun l => l.all id⟩

section
variable {R : Type} (A : Al R) (callF : FuncId → List Value → Hp → (Value → Hp → R) → R)

/-- One operation. -/
def stepX (ops : List Oper) (o : Oper) (tm : List Value) (h : Hp) (k : Value → Hp → R) : R :=
  match wants ops tm o with
  | none => A.bot
  | some w =>
    match kind P o.op with
    | .pure => opt A.bot (if w then pop P tm o.op else some undef) fun v => k v h
    | .read => opt A.bot (if w then rop P tm o.op h else some undef) fun v => k v h
    | .eff => opt A.bot (if w then eop P tm o.op h else some (undef, h)) fun r => k r.1 r.2
    | .call => if w then opt A.bot (callee P tm o.op) fun fa => callF fa.1 fa.2 h k else k undef h
    | .alt => if w then opt A.bot (aop tm o.op h) fun l => A.all (l.map fun r => k r.1 r.2) else k undef h
    | .mk => opt A.bot (if w then mkop P tm o.op h else some (undef, h)) fun r => k r.1 r.2

/-- The operations of a region in the text's order. -/
def xOps (ops : List Oper) : List Oper → List Value → Hp → (List Value → Hp → R) → R
  | [], tm, h, k => k tm h
  | o :: rest, tm, h, k => stepX P A callF ops o tm h fun v h' => xOps ops rest (put tm o.dst v) h' k

/-! ### 5. Regions that draw their order -/
def isAlloc : Op → Bool
  | .alloc _ => true
  | _ => false

def isEff (op : Op) : Bool := !isAlloc op && (kind P op == .eff || kind P op == .call || kind P op == .alt)

/-- 2 ^ t, of powers that Lean evaluates. -/
def pw2 (t : Nat) : Nat := 2 ^ (t % 128) * (2 ^ 128) ^ (t / 128)
theorem pw2_eq (t : Nat) : pw2 t = 2 ^ t := by
  unfold pw2
  rw [← Nat.pow_mul, ← Nat.pow_add]
  congr 1
  omega
def bitsOf (l : List Nat) : Nat := l.foldl (fun s t => s ||| pw2 t) 0

/-- What the order of a region hangs on, of one operation: the operations that it names as ahead of it; all that are surely ahead of it; the slot that it writes; the slots that it looks at; does it change the heap? (Sets of numbers as bits.) -/
structure Inf where
  em : Nat
  am : Nat
  dm : Nat
  lm : Nat
  eff : Bool

def infOf (ops : List Oper) (acc : List Inf) (o : Oper) : Inf where
  em := bitsOf ((o.after.toList.filter (Region.binds .any)).map (·.on))
  am := (o.after.toList.filter (Region.binds .any)).foldl (fun s e => s ||| 2 ^ e.on ||| ((acc[e.on]?).map (·.am)).getD 0) 0
  dm := bitsOf o.dst.toList
  lm := bitsOf (Oper.looksAt ops.toArray o)
  eff := isEff P o.op

def infosFrom (ops : List Oper) : List Oper → List Inf → List Inf
  | [], acc => acc
  | o :: rest, acc => infosFrom ops rest (acc ++ [infOf P ops acc o])

def infos (ops : List Oper) : List Inf := infosFrom P ops ops []

/-- An order in which what changes the heap comes as late as may be. -/
def greedy (fs : List Inf) : (fuel : Nat) → (rem : List Nat) → (done : Nat) → List Nat
  | 0, _, _ => []
  | n + 1, rem, done =>
    match rem.find? fun i => (fs[i]?).any fun f => !f.eff && (f.em &&& done) == f.em with
    | some i => i :: greedy fs n (rem.erase i) (done ||| 2 ^ i)
    | none => match rem.find? fun i => (fs[i]?).any fun f => (f.em &&& done) == f.em with
      | some i => i :: greedy fs n (rem.erase i) (done ||| 2 ^ i)
      | none => []

def clash (f g : Inf) : Bool := !((f.dm &&& (g.lm ||| g.dm)) == 0) || !((g.dm &&& f.lm) == 0)

/-- May the order be taken? done: the operations ahead, effs: those among them that change the heap. -/
def orderOk (fs : List Inf) : List Nat → (done : List Nat) → (doneM effs : Nat) → Bool
  | [], _, doneM, _ => doneM == 2 ^ fs.length - 1
  | i :: rest, done, doneM, effs =>
    match fs[i]? with
    | none => false
    | some f =>
      !doneM.testBit i && (f.em &&& doneM) == f.em && (effs &&& f.am) == effs &&
      (done.all fun j => match fs[j]? with
        | some g => !clash g f || f.am.testBit j
        | none => false) &&
      orderOk fs rest (i :: done) (doneM ||| 2 ^ i) (if f.eff then effs ||| 2 ^ i else effs)

/-- The places of a region's variables are made ahead of all else. -/
def preAlloc : List Oper → Hp → Option (List (Option Value) × Hp)
  | [], h => some ([], h)
  | o :: rest, h =>
    match o.op with
    | .alloc e => match zero? P e with
      | some z => if plainV 100 z then match preAlloc rest (h.alloc z.cells.toList e) with
          | some (l, h') => some (some (ptr h.next 0) :: l, h')
          | none => none
        else none
      | none => none
    | _ => match preAlloc rest h with
      | some (l, h') => some (none :: l, h')
      | none => none

/-- What a read that has been done still owes: it must read the same behind every change that does not come surely behind it. -/
structure Owed where
  idx : Nat
  op : Op
  tm : List Value
  v : Value

def payAll (am : Nat) (h : Hp) (owed : List Owed) (r : R) : R :=
  owed.foldr (fun d r => if am.testBit d.idx then r else A.chk d.v (rop P d.tm d.op h) r) r

/-- The operations of a region that draws its order, in an order that serves; pre: the places made ahead; owed: the reads done. -/
def xDraw (ops : List Oper) (fs : List Inf) (pre : List (Option Value)) : List Nat → (tm : List Value) → (owed : List Owed) → Hp → (List Value → Hp → R) → R
  | [], tm, _, h, k => k tm h
  | i :: rest, tm, owed, h, k =>
    match ops[i]?, fs[i]? with
    | some o, some f =>
      match wants ops tm o with
      | none => A.bot
      | some w =>
        match pre.getD i none with
        | some v => xDraw ops fs pre rest (put tm o.dst (if w then v else undef)) owed h k
        | none =>
          match kind P o.op with
          | .pure => opt A.bot (if w then pop P tm o.op else some undef) fun v => xDraw ops fs pre rest (put tm o.dst v) owed h k
          | .read => opt A.bot (if w then rop P tm o.op h else some undef) fun v => xDraw ops fs pre rest (put tm o.dst v) (if w then ⟨i, o.op, tm, v⟩ :: owed else owed) h k
          | .eff => opt A.bot (if w then eop P tm o.op h else some (undef, h)) fun r => payAll P A f.am r.2 owed (xDraw ops fs pre rest (put tm o.dst r.1) owed r.2 k)
          | .call =>
            if w then opt A.bot (callee P tm o.op) fun fa => callF fa.1 fa.2 h fun v h' => payAll P A f.am h' owed (xDraw ops fs pre rest (put tm o.dst v) owed h' k)
            else payAll P A f.am h owed (xDraw ops fs pre rest (put tm o.dst undef) owed h k)
          | .alt =>
            if w then opt A.bot (aop tm o.op h) fun l => A.all (l.map fun r => payAll P A f.am r.2 owed (xDraw ops fs pre rest (put tm o.dst r.1) owed r.2 k))
            else payAll P A f.am h owed (xDraw ops fs pre rest (put tm o.dst undef) owed h k)
          | .mk => opt A.bot (if w then mkop P tm o.op h else some (undef, h)) fun r => xDraw ops fs pre rest (put tm o.dst r.1) owed r.2 k
    | _, _ => A.bot

/-- A region that draws its order. -/
def xRegion (ops : List Oper) (tm : List Value) (h : Hp) (k : List Value → Hp → R) : R :=
  if orderOk (infos P ops) (greedy (infos P ops) ops.length (List.range ops.length) 0) [] 0 0 then
    opt A.bot (preAlloc P ops h) fun r => xDraw P A callF ops (infos P ops) r.1 (greedy (infos P ops) ops.length (List.range ops.length) 0) tm [] r.2 k
  else A.bot

/-! ### 6. Code and functions -/
/-- The slots that code writes. -/
def wr : Code → List Tmp
  | .region _ ops _ => ops.toList.filterMap (·.dst)
  | .seq a b => wr a ++ wr b
  | .cond _ a b => wr a ++ wr b
  | .block _ c => wr c
  | .loop c => wr c
  | .scope c => wr c
  | _ => []

/-- The first region's number: the loop's name. -/
def firstRegion : Code → Option Nat
  | .region id _ _ => some id
  | .seq a b => (firstRegion a).or (firstRegion b)
  | .cond _ a b => (firstRegion a).or (firstRegion b)
  | .block _ c => firstRegion c
  | .loop c => firstRegion c
  | .scope c => firstRegion c
  | .rangeFunc _ _ a b => (firstRegion a).or (firstRegion b)
  | _ => none

def forget (ws kp : List Tmp) (tm : List Value) : List Value := ws.foldl (fun tm t => if kp.contains t then tm else tm.set t unk) tm
def setKeep : List Tmp → List Value → (i : Nat) → List Value → List Value
  | [], _, _, tm => tm
  | t :: ts, vals, i, tm => setKeep ts vals (i + 1) (tm.set t (vals.getD i undef))

def loopX (bot : R) (body : (Exit → List Value → Hp → R) → List Value → Hp → R) (kp : List Tmp) (k : Exit → List Value → Hp → R) : Nat → List Value → Hp → R
  | 0, _, _ => bot
  | n + 1, vals, h => body (fun e tm h' => match e with
      | .normal => loopX bot body kp k n (kp.map fun t => tm.getD t undef) h'
      | e => k e tm h') vals h

/-- A loop that carries all slots on. -/
def loopW (bot : R) (body : (Exit → List Value → Hp → R) → List Value → Hp → R) (k : Exit → List Value → Hp → R) : Nat → List Value → Hp → R
  | 0, _, _ => bot
  | n + 1, tm, h => body (fun e tm h' => match e with
      | .normal => loopW bot body k n tm h'
      | e => k e tm h') tm h

/-- The word for it among annotations. -/
def keepAll : List Tmp → Bool
  | [t] => t == 999999999
  | _ => false

/-- Where code goes on behind other code. -/
def joinId (b : Code) : Nat := 1000000 + (firstRegion b).getD 0
/-- The state with which code goes on behind other code: as it is, or with some of the slots that were written alone. -/
def joinT (kp : List Tmp) (a : Code) (tm tm' : List Value) : List Value :=
  match kp with
  | [] => tm'
  | kp => setKeep kp (kp.map fun t => tm'.getD t undef) 0 (forget (wr a) kp tm)

/-- Whose code runs: the function; the range over a function in whose round it does. -/
structure Cx where
  me : FuncId
  ro : Option Nat

def loopAt (h : Hp) (l : Nat) : Option Lp :=
  match h.ob l with
  | some (.loop r) => some r
  | _ => none

def Cx.ok (cx : Cx) (h : Hp) : Bool :=
  match cx.ro with
  | none => true
  | some l => (loopAt h l).isSome

/-- Behind a range over a function: the jump that a round left. -/
def leaveX (bot : R) (l : Nat) (tm : List Value) (k : Exit → List Value → Hp → R) (h : Hp) : R :=
  match loopAt h l with
  | some r => if r.state = .busy then bot else
    match r.pending with
    | none => k .normal tm (h.setOb l (.loop { r with state := .exhausted }))
    | some .ret => k .ret tm (h.setOb l (.loop { r with state := .exhausted }))
    | some (.exit id) => k (.exit id) tm (h.setOb l (.loop { r with state := .exhausted }))
    | _ => bot
  | none => bot

/-- ann: of each loop, the slots that it carries on from round to round; of each joint, those that go on. -/
def xC (cx : Cx) (ann : Nat → List Tmp) : Code → (Exit → List Value → Hp → R) → List Value → Hp → R
  | .skip, k, tm, h => k .normal tm h
  | .region _ ops false, k, tm, h => xOps P A callF ops.toList ops.toList tm h fun tm h => k .normal tm h
  | .region _ ops true, k, tm, h => xRegion P A callF ops.toList tm h fun tm h => k .normal tm h
  | .seq a b, k, tm, h => xC cx ann a (fun e tm' h => match e with
      | .normal => xC cx ann b k (joinT (ann (joinId b)) a tm tm') h
      | e => k e tm' h) tm h
  | .cond c a b, k, tm, h =>
    match ev tm c with
    | .bool t => if t then xC cx ann a k tm h else xC cx ann b k tm h
    | _ => A.bot
  | .block id c, k, tm, h => xC cx ann c (fun e tm h => match e with
      | .exit i => if i = id then k .normal tm h else k (.exit i) tm h
      | e => k e tm h) tm h
  | .loop c, k, tm, h =>
    let kp := ann ((firstRegion c).getD 0)
    let tm0 := forget (wr c) kp tm
    if keepAll kp then A.lp fun n => loopW A.bot (fun k tm h => xC cx ann c k tm h) k n tm h else
    A.lp fun n => loopX A.bot (fun k vals h => xC cx ann c k (setKeep kp vals 0 tm0) h) kp k n (kp.map fun t => tm.getD t undef) h
  | .exit id, k, tm, h => k (.exit id) tm h
  | .ret, k, tm, h => k .ret tm h
  | .label _, k, tm, h => k .normal tm h
  | .scope c, k, tm, h => xC cx ann c (fun e tm h => match e with
      | .goto _ => A.bot
      | e => k e tm h) tm h
  | .rangeFunc g ps asg body, k, tm, h =>
    if cx.ok h then
      match ev tm g with
      | .func (.func f) first captured =>
        if f < P.funcs.size then
          callF f (first.toList ++ [.func (.yield h.next) #[] #[]] ++ captured.toList) (h.newOb (.loop ⟨.ready, none, cx.me, tm, ps.toList, asg, body⟩)) fun _ h' => leaveX A.bot h.next tm k h'
        else A.bot
      | _ => A.bot
    else A.bot
  | _, _, _, _ => A.bot

def setArgs : List Tmp → List Value → List Value → List Value
  | t :: ts, v :: vs, tm => setArgs ts vs (tm.set t v)
  | _, _, tm => tm

/-- A round's end. -/
def endX (bot : R) (l : Nat) (k : Value → Hp → R) (e : Exit) (h : Hp) : R :=
  match loopAt h l with
  | some r => match e with
    | .normal => k (.bool true) (h.setOb l (.loop { r with state := .ready, pending := none }))
    | .ret => k (.bool false) (h.setOb l (.loop { r with state := .done, pending := some .ret }))
    | .exit id => k (.bool false) (h.setOb l (.loop { r with state := .done, pending := some (.exit id) }))
    | _ => bot
  | none => bot

/-- A round of a range over a function. -/
def roundX (ann : FuncId → Nat → List Tmp) (l : Nat) (args : List Value) (h : Hp) (k : Value → Hp → R) : R :=
  match loopAt h l with
  | some r =>
    if r.params.length = args.length then
      xC P A callF ⟨r.fn, some l⟩ (ann r.fn) r.assign (fun e tm h => match e with
        | .normal => match loopAt h l with
          | some r' => if r'.state = .ready then xC P A callF ⟨r.fn, some l⟩ (ann r.fn) r.body (fun e _ h => endX A.bot l k e h) tm (h.setOb l (.loop { r' with state := .busy })) else A.bot
          | none => A.bot
        | _ => A.bot) (setArgs r.params args r.tm) h
    else A.bot
  | none => A.bot

/-- A function's results. -/
def resultsOf (fn : Func) (tm : List Value) (h : Hp) : Option Value :=
  match fn.results.toList.mapM fun
    | .tmp t => some (tm.getD t undef)
    | .cell a t => cload P t (tm.getD a undef) h with
  | some [v] => some v
  | some vs => some (.tuple vs.toArray)
  | none => none

def bodyX (f : FuncId) (ann : Nat → List Tmp) (fn : Func) (c : Code) (args : List Value) (h : Hp) (k : Value → Hp → R) : R :=
  xC P A callF ⟨f, none⟩ ann c (fun e tm h' => match e with
    | .normal | .ret => opt A.bot (resultsOf P fn tm h') fun v => k v h'
    | _ => A.bot) (args ++ List.replicate (fn.ntmps - args.length) undef) h
end

/-- May a call enter this function? -/
def mayCall (fn : Func) : Bool := !(fn.name == "runtime.NumGoroutine")

def xF {R : Type} (A : Al R) (ann : FuncId → Nat → List Tmp) : Nat → FuncId → List Value → Hp → (Value → Hp → R) → R
  | 0, _, _, _, _ => A.bot
  | n + 1, f, args, h, k =>
    match P.funcs[f]? with
    | some fn =>
      match fn.body with
      | some c => if mayCall fn then bodyX P A (xF A ann n) f (ann f) fn c args h k else A.bot
      | none => A.bot
    | none => roundX P A (xF A ann n) ann (f - P.funcs.size) args h k

def Hp.empty : Hp := ⟨.leaf, .leaf, 0⟩
end
end Go.Cn
