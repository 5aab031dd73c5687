/- The symbolic run of a region: values of known shape, conditions as propositions, guarded operations merged where they are picked. -/
import Derived.Test.YtfkhjbfddeahaaaCnW
set_option linter.unusedVariables false
set_option linter.unusedSimpArgs false
namespace Go.Cn

/-- Under which guards a slot was written. -/
abbrev Ch := List (Nat × Bool)
abbrev SS := List (Ch × Value)
def SS.at (S : SS) (t : Nat) : Ch × Value := S.getD t ([], undef)
def SS.vals (S : SS) : List Value := S.map (·.2)
def SS.put (S : SS) (d : Option Tmp) (x : Ch × Value) : SS :=
  match d with
  | some d => S.set d x
  | none => S

def dstOf (L : List Oper) (j : Nat) : Option Tmp := (L[j]?).bind (·.dst)
def boolOf : Value → Bool
  | .bool b => b
  | _ => false
def isBool : Value → Bool
  | .bool _ => true
  | _ => false
def bOf (L : List Oper) (S : SS) (j : Nat) : Bool :=
  match dstOf L j with
  | some d => boolOf (S.at d).2
  | none => false
def eqw (b : Bool) : Bool → Bool
  | true => b
  | false => notB b
def wOf (L : List Oper) (S : SS) : Ch → Bool
  | [] => true
  | (j, w) :: r => match r with
    | [] => eqw (bOf L S j) w
    | _ => andB (eqw (bOf L S j) w) (wOf L S r)
def under (L : List Oper) (S : SS) (ci : Ch) (c : Prop) : Prop :=
  match ci with
  | [] => c
  | ci => wOf L S ci = true → c
def fin (L : List Oper) (S : SS) (x : Ch × Value) : Value :=
  match x.1 with
  | [] => x.2
  | ch => sel (wOf L S ch) x.2 undef
def real (L : List Oper) (S : SS) : List Value := S.map (fin L S)

def okSlot (S : SS) (ci : Ch) : Operand → Bool
  | .tmp t => (S.at t).1.isSuffixOf ci
  | _ => true
def okArm (L : List Oper) (S : SS) (ci : Ch) (c : Operand) (want : Bool) (x : Operand) : Bool :=
  okSlot S ci x || match c, x with
    | .tmp dc, .tmp t => match (S.at t).1 with
      | (j, w) :: r => w == want && decide (dstOf L j = some dc) && r.isSuffixOf ci
      | [] => false
    | _, _ => false

def mergeV (b : Bool) (x y : Value) : Option Value :=
  match x, y with
  | .bool p, .bool q => some (.bool (sel b p q))
  | .int k m, .int k' n => if k = k' then some (.int k (sel b m n)) else none
  | .string s, .string u => some (.string (sel b s u))
  | .pointer p, .pointer q => some (.pointer (sel b p q))
  | .slice p l c, .slice q m d => some (.slice (sel b p q) (sel b l m) (sel b c d))
  | _, _ => none

/-- The guards of an operation. -/
def chainOf (L : List Oper) (S : SS) (done : List Nat) (o : Oper) : Option Ch :=
  match o.guard with
  | none => some []
  | some (j, w) =>
    if done.contains j then
      match dstOf L j with
      | some d => if decide (d < S.length) && isBool (S.at d).2 then some ((j, w) :: (S.at d).1) else none
      | none => none
    else none

/-- It writes no slot that an operation ahead of it wrote. -/
def newDst (L : List Oper) (done : List Nat) (o : Oper) : Bool :=
  match o.dst with
  | none => true
  | some d => done.all fun j => decide (dstOf L j ≠ some d)

section
variable (P : Program)

/-- The types of the cells of a type. -/
def cellTypes : (fuel : Nat) → TypeId → Option (List TypeId)
  | 0, _ => none
  | n + 1, t =>
    match P.underlying t with
    | some (.struct fs) => (fs.toList.mapM fun f => cellTypes n f.type).map List.flatten
    | some (.array len e) => (cellTypes n e).map fun l => (List.replicate len l).flatten
    | some _ => some [t]
    | none => none

/-- There is a value of a type such that. -/
def exCell (t : TypeId) (f : Value → Prop) : Prop :=
  match P.underlying t with
  | some .bool => ∃ b : Bool, f (.bool b)
  | some (.int k) => ∃ n : Int, f (.int k n)
  | some .string => ∃ s : ByteArray, f (.string s)
  | some (.slice _) => ∃ (a : Option Addr) (l c : Nat), f (.slice a l c)
  | some (.pointer _) => ∃ a : Option Addr, f (.pointer a)
  | _ => ∃ v : Value, f v

def exCells : List TypeId → (List Value → Prop) → Prop
  | [], f => f []
  | t :: ts, f => exCell P t fun v => exCells ts fun vs => f (v :: vs)

/-- A value of a type, and its cells. -/
def exVal (t : TypeId) (f : Value → List Value → Prop) : Prop :=
  match agg? P t with
  | some true => match cellTypes P 20 t with
    | some ts => exCells P ts fun vs => f (.agg vs.toArray) vs
    | none => False
  | some false => exCell P t fun v => f v [v]
  | none => False

/-- What a function answers. -/
def exRes (ts : List TypeId) (f : Value → Prop) : Prop :=
  let rec go : List TypeId → (List Value → Prop) → Prop
    | [], g => g []
    | t :: ts, g => exVal P t fun v _ => go ts fun vs => g (v :: vs)
  match ts with
  | [t] => exVal P t fun v _ => f v
  | ts => go ts fun vs => f (.tuple vs.toArray)

def allCell (t : TypeId) (f : Value → Prop) : Prop :=
  match P.underlying t with
  | some .bool => ∀ b : Bool, f (.bool b)
  | some (.int k) => ∀ n : Int, f (.int k n)
  | some .string => ∀ s : ByteArray, f (.string s)
  | some (.slice _) => ∀ (a : Option Addr) (l c : Nat), f (.slice a l c)
  | some (.pointer _) => ∀ a : Option Addr, f (.pointer a)
  | _ => ∀ v, f v

def allCells : List TypeId → (List Value → Prop) → Prop
  | [], f => f []
  | t :: ts, f => allCell P t fun v => allCells ts fun vs => f (v :: vs)

def allVal (t : TypeId) (f : Value → Prop) : Prop :=
  match agg? P t with
  | some true => match cellTypes P 20 t with
    | some ts => allCells P ts fun vs => f (.agg vs.toArray)
    | none => True
  | some false => allCell P t f
  | none => True

/-- Of all that a function may answer. -/
def allRes (ts : List TypeId) (f : Value → Prop) : Prop :=
  let rec go : List TypeId → (List Value → Prop) → Prop
    | [], g => g []
    | t :: ts, g => allVal P t fun v => go ts fun vs => g (v :: vs)
  match ts with
  | [t] => allVal P t f
  | ts => go ts fun vs => f (.tuple vs.toArray)

def resTypes (f : FuncId) : List TypeId :=
  match P.funcs[f]? with
  | some fn => fn.resultTypes.toList
  | none => []

/-- Reads done: which, and that it reads the same. -/
abbrev Rd := List (Nat × (Hp → Prop))
/-- Behind a change: what does not surely come behind the reads asks that they read the same. -/
def payV (am : Nat) : Rd → Hp → Prop → Prop
  | [], _, X => X
  | (i, p) :: rest, h, X => match am.testBit i with
    | true => payV am rest h X
    | false => p h ∧ payV am rest h X

/-- A string of the bytes of a slice. -/
def readStr (a : Option Addr) (l : Nat) (h : Hp) (s : ByteArray) : Prop :=
  (a = none ∧ s = .empty) ∨ (a.isSome = true ∧ ∃ cs, h.cellsAt (blk a) (off a) l = some cs ∧ bytesOf cs = some s.data.toList)

/-- A read. -/
def vread (tm : List Value) (op : Op) (h : Hp) (u : Prop → Prop) (k : Value → (Hp → Prop) → Prop) : Prop :=
  match op with
  | .load t x =>
    match ev tm x, size? P t with
    | .pointer a, some n => exVal P t fun v cs => if cs.length = n then u (plainA a = true ∧ h.cellsAt (blk a) (off a) n = some cs) ∧ k v (fun h' => u (plainA a = true ∧ h'.cellsAt (blk a) (off a) n = some cs)) else False
    | _, _ => False
  | .convert src dst x =>
    match P.underlying src, P.underlying dst, ev tm x with
    | some (.slice e), some .string, .slice a l _ => match P.underlying e with
      | some (.int .u8) => ∃ s : ByteArray, u (readStr a l h s) ∧ k (.string s) (fun h' => u (readStr a l h' s))
      | _ => False
    | _, _, _ => False
  | op => ∃ s : ByteArray, u (rop P tm op h = some (.string s)) ∧ k (.string s) (fun h' => u (rop P tm op h' = some (.string s)))

def byteCells (s : ByteArray) : List Value := s.data.toList.map fun b => .int .u8 b.toNat

/-- A change. -/
def veff (tm : List Value) (op : Op) (h : Hp) (k : Value → Hp → Prop) : Prop :=
  match op with
  | .store t a x =>
    match ev tm a, size? P t with
    | .pointer a, some n => if (ev tm x).cells.size = n then plainA a = true ∧ ∃ h', h.store (blk a) (off a) (ev tm x).cells.toList = some h' ∧ k undef h' else False
    | _, _ => False
  | .buildSlice t len parts =>
    match P.underlying t with
    | some (.slice e) =>
      match size? P e, zero? P e with
      | some n, some z =>
        if len * n > 2 ^ 24 || z.cells.size ≠ n || n = 0 || !plainV 100 z then False else
        opt False (fillL (fun j => some (j * n, n)) (zeroCells z.cells.toList len) (parts.toList.map fun (j, x) => (j, ev tm x))) fun cs => ∀ h' : Hp, h' = h.alloc cs e → k (.slice (some ⟨h.next, 0, none⟩) len len) h'
      | _, _ => False
    | _ => False
  | .makeSlice t l c => ∃ (a : Option Addr) (m n : Nat) (h' : Hp), cmakeSlice P t (ev tm l) (ev tm c) h = some (.slice a m n, h') ∧ k (.slice a m n) h'
  | .call { callee := .builtin .append, args, argTypes } =>
    match argTypes.toList, args.toList with
    | [t, xt], [s, x] => ∃ (a : Option Addr) (m n : Nat) (h' : Hp), cappend P t xt (ev tm s) (ev tm x) h = some (.slice a m n, h') ∧ k (.slice a m n) h'
    | _, _ => False
  | .call { callee := .builtin .copy, args, argTypes } =>
    match argTypes.toList, args.toList with
    | t :: _, [d, x] => ∃ (n : Int) (h' : Hp), ccopy P t (ev tm d) (ev tm x) h = some (.int .i64 n, h') ∧ k (.int .i64 n) h'
    | _, _ => False
  | .call { callee := .builtin .clear, args, argTypes } =>
    match argTypes.toList, args.toList with
    | t :: _, [x] => ∃ h' : Hp, cclear P t (ev tm x) h = some (.tuple #[], h') ∧ k (.tuple #[]) h'
    | _, _ => False
  | .convert src dst x =>
    match P.underlying src, P.underlying dst, ev tm x with
    | some .string, some (.slice e), .string s => match P.underlying e with
      | some (.int .u8) => ∀ h' : Hp, h' = h.alloc (byteCells s) e → k (.slice (some ⟨h.next, 0, some 1⟩) (lenS s) (lenS s)) h'
      | _ => False
    | _, _, _ => False
  | op => opt False (eop P tm op h) fun r => ∀ h' : Hp, h' = r.2 → k r.1 h'

/-- The type of what a change that may stand under a guard makes. -/
def effT : Op → Option TypeId
  | .buildSlice t _ _ => some t
  | .makeSlice t _ _ => some t
  | .call { callee := .builtin .append, args := _, argTypes } => argTypes.toList.head?
  | .convert _ dst _ => some dst
  | _ => none

variable (C : FuncId → List Value → Hp → (Value → Hp → Prop) → Prop) (pf : FuncId → Bool)

/-- The symbolic run of a region. C: what a call comes to; pf: the functions that leave the heap as it is (asked of guarded calls alone). -/
def vOps (L : List Oper) (fs : List Inf) (pre : List (Option Value)) : List Nat → (done : List Nat) → (rd : Rd) → SS → Hp → (List Value → Hp → Prop) → Prop
  | [], _, _, S, h, K => K (real L S) h
  | i :: rest, done, rd, S, h, K =>
    match L[i]?, fs[i]? with
    | some o, some f =>
      match chainOf L S done o, newDst L done o with
      | some ci, true =>
        match pre.getD i none with
        | some v => vOps L fs pre rest (i :: done) rd (S.put o.dst (ci, v)) h K
        | none =>
          match kind P o.op with
          | .pure =>
            match o.op with
            | .pick c a b =>
              match ev S.vals c, okSlot S ci c && okArm L S ci c true a && okArm L S ci c false b with
              | .bool t, true => opt False (mergeV t (ev S.vals a) (ev S.vals b)) fun v => vOps L fs pre rest (i :: done) rd (S.put o.dst (ci, v)) h K
              | _, _ => False
            | op =>
              match vpop P S.vals op, op.operands.toList.all (okSlot S ci) with
              | some (v, none), true => vOps L fs pre rest (i :: done) rd (S.put o.dst (ci, v)) h K
              | some (v, some c), true => under L S ci c ∧ vOps L fs pre rest (i :: done) rd (S.put o.dst (ci, v)) h K
              | _, _ => False
          | .read =>
            match o.op.operands.toList.all (okSlot S ci) with
            | true => vread P S.vals o.op h (under L S ci) fun v p => vOps L fs pre rest (i :: done) ((i, p) :: rd) (S.put o.dst (ci, v)) h K
            | false => False
          | .eff =>
            match ci, o.op.operands.toList.all (okSlot S ci) with
            | [], true => veff P S.vals o.op h fun v h' => payV f.am rd h' (vOps L fs pre rest (i :: done) rd (S.put o.dst (ci, v)) h' K)
            | _ :: _, true => match effT o.op with
              | some t => ∃ Q : Value → Hp → Prop, (wOf L S ci = true → veff P S.vals o.op h fun v h' => exRes P [t] fun v' => v = v' ∧ Q v' h') ∧
                  (wOf L S ci = false → exRes P [t] fun v' => Q v' h) ∧
                  allRes P [t] fun v' => ∀ h' : Hp, Q v' h' → payV f.am rd h' (vOps L fs pre rest (i :: done) rd (S.put o.dst (ci, v')) h' K)
              | none => False
            | _, _ => False
          | .call =>
            match callee S.vals o.op, o.op.operands.toList.all (okSlot S ci) with
            | some fa, true =>
              match ci with
              | [] => C fa.1 fa.2 h fun v h' => exRes P (resTypes P fa.1) fun v' => v = v' ∧ payV f.am rd h' (vOps L fs pre rest (i :: done) rd (S.put o.dst (ci, v')) h' K)
              | _ => match pf fa.1 with
                | true => exRes P (resTypes P fa.1) fun v' => (wOf L S ci = true → C fa.1 fa.2 h fun v h' => v = v' ∧ h' = h) ∧ payV f.am rd h (vOps L fs pre rest (i :: done) rd (S.put o.dst (ci, v')) h K)
                | false => ∃ Q : Value → Hp → Prop, (wOf L S ci = true → C fa.1 fa.2 h fun v h' => exRes P (resTypes P fa.1) fun v' => v = v' ∧ Q v' h') ∧
                    (wOf L S ci = false → exRes P (resTypes P fa.1) fun v' => Q v' h) ∧
                    allRes P (resTypes P fa.1) fun v' => ∀ h' : Hp, Q v' h' → payV f.am rd h' (vOps L fs pre rest (i :: done) rd (S.put o.dst (ci, v')) h' K)
            | _, _ => False
      | _, _ => False
    | _, _ => False
end
end Go.Cn
