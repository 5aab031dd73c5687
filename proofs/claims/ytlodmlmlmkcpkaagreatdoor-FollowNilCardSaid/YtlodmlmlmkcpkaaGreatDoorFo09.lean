/- Joined: CnV, CnW, CnX, CnY, CnZ, CoA, CoB. -/
import Derived.Test.YtlodmlmlmkcpkaaGreatDoorFo08
import Derived.ProofKit
import Derived.OpenShut
import Derived.Below
/- The canonical semantics and the rows of a seat: what a law's run leaves, in the rows' words. -/
set_option linter.unusedVariables false
namespace Go.Cn
open Go.RowKit

theorem Ext.toBelow {base : Nat} {σ σ' : Sg} {h h' : Hp} {w w' : World} (he : Ext base σ h w σ' h' w') : Below base w w' := ⟨he.os, he.tape, he.output, he.size, he.below⟩

/-- A law without arguments, evaluated. -/
theorem closed_calls {P : Program} (hm : P.follows .mixedOrders = true) {m n : Nat} {ann : FuncId → Nat → List Tmp} {f : FuncId} (hlt : f < P.funcs.size)
    (hx : xF P (alB m) ann n f [] Hp.empty (fun v _ => match v with | .bool b => b | _ => false) = true) (w : World) :
    Calls P f #[] w fun e w' => e = .returned (.bool true) ∧ Below w.heap.size w w' := by
  refine (((xF_ok hm n f [] Hp.empty _ hx).func hlt).2 w.heap.size (fun _ => none) w #[] (HR_empty _ w (Nat.le_refl _)) (LRel.nil _)).mono ?_
  rintro e w' ⟨v, v', h', σ', rfl, hv, hr, _, he⟩
  cases v with
  | bool b =>
    have e : b = true := hv
    subst e
    exact ⟨by rw [hr.bool_inv], he.toBelow⟩
  | _ => exact absurd hv (by simp)

section
variable {H : Type} {enc : TypeId × Value → H} {P : Program}
open Go.ChangeShapes Go.WideShapes Go.ChangeAt Go.RowKit

/-- 'post_of_same' where nothing is known of the new blocks. -/
theorem post_of_below {f : Func} {s : ChangeSpec} {apart fresh handsOn again : Bool} {W W' : World} {args : Array Value} {v : Value} {ds gs : List (DataW H)} {before pa pv : List MemPlace}
    (hW : DataW.Whole enc P f.params.toList s.vars apart W args.toList ds gs before)
    (hres : ∀ (b : Nat) (sp : Nat → Bool) (hd : Bool), DataW.TrodAll enc P W' b sp hd f.resultTypes.toList (v.resultList f.resultTypes.size) (s.fn H (ds ++ gs)).results [])
    (hargs : ∀ sp : Nat → Bool, (∀ p ∈ before, sp p.block = true) → DataW.TrodAll enc P W' 0 sp true f.params.toList args.toList (s.fn H (ds ++ gs)).args pa)
    (hvars : ∀ sp : Nat → Bool, (∀ p ∈ before, sp p.block = true) → DataW.TrodVars enc P W' sp s.vars (s.fn H (ds ++ gs)).vars pv)
    (hps : before = pa ++ pv) (hb : Below W.heap.size W W')
    (hok : ∀ (j : Nat) (t : TypeId) (r : Value), f.resultTypes[j]? = some t → (v.resultList f.resultTypes.size)[j]? = some r → Value.okWide P W' .any 0 t r) :
    s.post enc P f apart fresh handsOn again W args v W' := by
  have hold : ∀ p ∈ before, (fun b => decide (b < W.heap.size)) p.block = true := fun p hp => by simpa using hW.lt p hp
  have hlt := fun p hp => hW.lt p hp
  refine ⟨ds, gs, before, [], pa, pv, hW, hres _ _ _, hargs _ hold, hvars _ hold, World.keptBut_mono (fun p hp => ⟨hp, ?_⟩) (hb.frame (· ∈ before)), fun _ => ?_⟩
  · rw [hps, List.mem_append] at hp
    exact Or.inr hp
  · obtain ⟨_, _, _, _, _, hz, hn⟩ := hW
    refine ⟨hok, _, _, ([] ++ pa) ++ pv, ⟨[] ++ pa, pv, trodAll_append (hargs _ (fun _ _ => rfl)) (hres _ _ _), hvars _ (fun _ _ => rfl), rfl, ?_, ?_⟩, ?_⟩
    · intro b off hp
      have hp' : MemPlace.cell b off ∈ before := by rw [hps]; simpa using hp
      rw [hb.frozen (p := ⟨b, off, none⟩) (hlt _ hp')]
      exact hz b off hp'
    · intro ha
      have := hn ha
      rw [hps] at this
      simpa using this
    · intro p hp _
      rw [hps]
      simpa using hp
end
end Go.Cn

/- Conditions for a symbolic run: what an operation answers where its operands are known in shape, and on which condition. -/
set_option linter.unusedVariables false
set_option linter.unusedSimpArgs false
namespace Go.Cn

def blk : Option Addr → Nat
  | some a => a.block
  | none => 0
def off : Option Addr → Nat
  | some a => a.off
  | none => 0
/-- A plain place. -/
def plainA : Option Addr → Bool
  | some ⟨_, _, none⟩ => true
  | _ => false
def spotOk (n : Nat) : Option Addr → Prop
  | none => True
  | some a => a.spot = none ∨ a.spot = some n
def cutA (l : Int) (n : Nat) (a : Option Addr) : Option Addr := a.map fun a => ⟨a.block, a.off + l.toNat * n, a.spot⟩
def cutE (l : Int) (n : Nat) (a : Option Addr) : Option Addr := a.map fun a => ⟨a.block, a.off + l.toNat * n, none⟩
/-- A letter of a string. -/
def byteAt (s : ByteArray) (i : Int) : Int := ((s[i.toNat]?).getD 0).toNat

/-! Leaves: what stays as it is written in a symbolic run. -/
def addW (k : IntKind) (a b : Int) : Int := k.wrap (a + b)
def subW (k : IntKind) (a b : Int) : Int := k.wrap (a - b)
def mulW (k : IntKind) (a b : Int) : Int := k.wrap (a * b)
def quoW (k : IntKind) (a b : Int) : Int := k.wrap (a.tdiv b)
def remW (a b : Int) : Int := a.tmod b
def andW (k : IntKind) (a b : Int) : Int := k.wrap (BitVec.ofInt k.bits a &&& BitVec.ofInt k.bits b).toNat
def orW (k : IntKind) (a b : Int) : Int := k.wrap (BitVec.ofInt k.bits a ||| BitVec.ofInt k.bits b).toNat
def xorW (k : IntKind) (a b : Int) : Int := k.wrap (BitVec.ofInt k.bits a ^^^ BitVec.ofInt k.bits b).toNat
def andNotW (k : IntKind) (a b : Int) : Int := k.wrap (BitVec.ofInt k.bits a &&& ~~~BitVec.ofInt k.bits b).toNat
def shlW (k : IntKind) (a b : Int) : Int := k.wrap (a * 2 ^ min b.toNat k.bits)
def shrW (k : IntKind) (a b : Int) : Int := a.fdiv (2 ^ min b.toNat k.bits)
def negW (k : IntKind) (a : Int) : Int := k.wrap (0 - a)
def comW (k : IntKind) (a : Int) : Int := k.wrap (BitVec.ofInt k.bits (if k.signed then -1 else k.max) ^^^ BitVec.ofInt k.bits a).toNat
def toW (k : IntKind) (a : Int) : Int := k.wrap a
def eqI (a b : Int) : Bool := a == b
def neI (a b : Int) : Bool := a != b
def ltI (a b : Int) : Bool := a < b
def leI (a b : Int) : Bool := a ≤ b
def gtI (a b : Int) : Bool := a > b
def geI (a b : Int) : Bool := a ≥ b
def natI (n : Nat) : Int := n
def eqB (a b : Bool) : Bool := a == b
def notB (a : Bool) : Bool := !a
def andB (a b : Bool) : Bool := a && b
def sel {α : Type} (b : Bool) (x y : α) : α := bif b then x else y
def strEq (s u : ByteArray) : Bool := s.toList == u.toList
def strSame (s u : ByteArray) : Bool := s == u
def strLt (s u : ByteArray) : Bool := Op.bytesLess s.toList u.toList
def strLe (s u : ByteArray) : Bool := Op.bytesLess s.toList u.toList || s.toList == u.toList
def strCat (s u : ByteArray) : ByteArray := s ++ u
def strSub (s : ByteArray) (l h : Int) : ByteArray := s.extract l.toNat h.toNat
def catOk (s u : ByteArray) : Prop := ((s.size + u.size : Nat) : Int) ≤ IntKind.i64.max
def subOk (s : ByteArray) (l h : Int) : Prop := 0 ≤ l ∧ l ≤ h ∧ h ≤ s.size
def lenS (s : ByteArray) : Nat := s.size
def plusN (o n : Nat) : Nat := o + n
def plusI (o : Nat) (i : Int) (n : Nat) : Nat := o + i.toNat * n
def inR (i : Int) (n : Nat) : Prop := 0 ≤ i ∧ i < (n : Int)
def nonneg (i : Int) : Prop := 0 ≤ i
def leN (n m : Nat) : Prop := n ≤ m
/-- A whole number of a row. -/
def nthI (cs : Array Value) (i : Int) : Int :=
  match cs[i.toNat]? with
  | some (.int _ n) => n
  | _ => 0
def isNth (k : IntKind) (cs : Array Value) (i : Int) : Prop := cs[i.toNat]? = some (.int k (nthI cs i))
def nonzero (i : Int) : Prop := i ≠ 0
def diffN (h l : Int) : Nat := h.toNat - l.toNat
/-- The bounds of a slice of a slice. -/
def cutOk (l h m cap : Int) : Prop := 0 ≤ l ∧ l ≤ h ∧ h ≤ m ∧ m ≤ cap
def maxI (a b : Int) : Int := if a ≥ b then a else b
def minI (a b : Int) : Int := if a ≤ b then a else b

/-- Two rows of whole numbers: the same? -/
def rowEq : List Value → List Value → Bool
  | [], [] => true
  | .int _ a :: xs, .int _ b :: ys => eqI a b && rowEq xs ys
  | _, _ => false
def allInt (k : IntKind) : List Value → Bool
  | [] => true
  | .int k' _ :: xs => k == k' && allInt k xs
  | _ => false

section
variable (P : Program)

def isN (a : Option Addr) : Bool := a.isNone

/-- Two long rows of whole numbers. -/
def rowK (d len : Nat) (elem : TypeId) (xs ys : Array Value) : Bool :=
  match P.underlying elem, size? P elem, d with
  | some (.int k), some 1, _ + 1 => Nat.ble 9 len && (allInt k xs.toList && (allInt k ys.toList && (Nat.beq xs.toList.length len && Nat.beq ys.toList.length len)))
  | _, _, _ => false

/-- == as a Bool. -/
def vceq : (depth : Nat) → TypeId → Value → Value → Option Bool
  | 0, _, _, _ => none
  | d + 1, t, x, y =>
    match P.underlying t, x, y with
    | some .bool, .bool a, .bool b => some (eqB a b)
    | some (.int _), .int k a, .int k' b => if k = k' then some (eqI a b) else none
    | some .string, .string a, .string b => some (strSame a b)
    | some (.slice _), .slice a _ _, .slice none _ _ => some (isN a)
    | some (.pointer _), .pointer a, .pointer none => some (isN a)
    | some (.struct fs), .agg xs, .agg ys =>
      if noStood P t = false then none else
      fs.toList.foldr (fun f acc =>
        if f.name ≠ "_" then
          match part? P f.type xs f.offset, part? P f.type ys f.offset with
          | some a, some b => match vceq d f.type a b, acc with
            | some r, some s => some (andB r s)
            | _, _ => none
          | _, _ => none
        else acc) (some true)
    | some (.array len elem), .agg xs, .agg ys =>
      match rowK P d len elem xs ys with
      | true => some (rowEq xs.toList ys.toList)
      | false =>
      match size? P elem with
      | some n => (List.range len).foldr (fun i acc =>
          match part? P elem xs (i * n), part? P elem ys (i * n) with
          | some a, some b => match vceq d elem a b, acc with
            | some r, some s => some (andB r s)
            | _, _ => none
          | _, _ => none) (some true)
      | none => none
    | _, _, _ => ceq P (d + 1) t x y

def boundI (x : Option Value) (dflt : Int) : Option Int :=
  match x with
  | none => some dflt
  | some (.int _ i) => some i
  | some _ => none

/-- A condition, or none. -/
def cnd : Option Prop → Prop
  | none => True
  | some p => p

/-- A slice of a slice. -/
def vslice (elem : TypeId) (a : Option Addr) (len cap : Nat) (lo hi mx : Option Value) : Option (Value × Option Prop) :=
  match size? P elem, boundI lo 0, boundI hi (natI len), boundI mx (natI cap) with
  | some n, some l, some h, some m =>
    match mx, hi with
    | none, _ => some (.slice (cutA l n a) (diffN h l) (diffN m l), some (cutOk l h m (natI cap) ∧ spotOk n a))
    | some _, some _ => some (.slice (cutE l n a) (diffN h l) (diffN m l), some (cutOk l h m (natI cap)))
    | some _, none => none
  | _, _, _, _ => none

/-- A slice of an array. -/
def varr (elem : TypeId) (len : Nat) (a : Option Addr) (lo hi : Option Value) : Option (Value × Option Prop) :=
  match size? P elem, boundI lo 0, boundI hi (natI len) with
  | some n, some l, some h => some (.slice (cutE l n a) (diffN h l) (diffN (natI len) l), some (cutOk l h (natI len) (natI len) ∧ plainA a = true))
  | _, _, _ => none

/-- A part of a string. -/
def vsub (s : ByteArray) (lo hi : Option Value) : Option (Value × Option Prop) :=
  match boundI lo 0, boundI hi (natI (lenS s)) with
  | some l, some h => some (.string (strSub s l h), some (subOk s l h))
  | _, _ => none

def vint (op : BinOp) (k : IntKind) (a b : Int) : Option (Value × Option Prop) :=
  match op with
  | .add => some (.int k (addW k a b), none)
  | .sub => some (.int k (subW k a b), none)
  | .mul => some (.int k (mulW k a b), none)
  | .quo => some (.int k (quoW k a b), some (nonzero b))
  | .rem => some (.int k (remW a b), some (nonzero b))
  | .and => some (.int k (andW k a b), none)
  | .or => some (.int k (orW k a b), none)
  | .xor => some (.int k (xorW k a b), none)
  | .andNot => some (.int k (andNotW k a b), none)
  | .eql => some (.bool (eqI a b), none)
  | .neq => some (.bool (neI a b), none)
  | .lss => some (.bool (ltI a b), none)
  | .leq => some (.bool (leI a b), none)
  | .gtr => some (.bool (gtI a b), none)
  | .geq => some (.bool (geI a b), none)
  | _ => none

def vstr (op : BinOp) (s u : ByteArray) : Option (Value × Option Prop) :=
  match op with
  | .add => some (.string (strCat s u), some (catOk s u))
  | .eql => some (.bool (strEq s u), none)
  | .neq => some (.bool (notB (strEq s u)), none)
  | .lss => some (.bool (strLt s u), none)
  | .leq => some (.bool (strLe s u), none)
  | .gtr => some (.bool (notB (strLe s u)), none)
  | .geq => some (.bool (notB (strLt s u)), none)
  | _ => none

def vbin (op : BinOp) (t : TypeId) (x y : Operand) (a b : Value) : Option (Value × Option Prop) :=
  match a, b with
  | .int k m, .int k' n =>
    match op with
    | .shl => some (.int k (shlW k m n), some (nonneg n))
    | .shr => some (.int k (shrW k m n), some (nonneg n))
    | _ => if k = k' then vint op k m n else none
  | .string s, .string u => vstr op s u
  | .float _ _, _ | .complex _ _ _, _ => none
  | a, b =>
    match op with
    | .eql => if eqPlain P t x y a b then (vceq P Op.maxDepth t a b).map fun r => (.bool r, none) else none
    | .neq => if eqPlain P t x y a b then (vceq P Op.maxDepth t a b).map fun r => (.bool (notB r), none) else none
    | _ => none

/-- Is an operand the nil of an interface type? -/
def nilOp (t : TypeId) : Operand → Bool
  | .const .nilIface => match P.underlying t with
    | some (.interface _) => true
    | _ => false
  | _ => false
def isNilI : Value → Bool
  | .nilIface => true
  | _ => false
def isIfc : Value → Prop
  | .nilIface => True
  | .iface _ _ => True
  | _ => False
/-- A comparison of an interface's value with nil. -/
def vnil (op : BinOp) (a : Value) : Option (Value × Option Prop) :=
  match op with
  | .eql => some (.bool (isNilI a), some (isIfc a))
  | .neq => some (.bool (notB (isNilI a)), some (isIfc a))
  | _ => none

/-- An operation that looks at its operands alone: its value, and on which condition. -/
def vpop (tm : List Value) (op : Op) : Option (Value × Option Prop) :=
  match op with
  | .nilCheck x => match ev tm x with
    | .pointer a => some (.pointer a, some (a.isSome = true))
    | .iface t v => some (.iface t v, none)
    | .func (.func f) a b => some (.func (.func f) a b, none)
    | _ => none
  | .binOp o t x y _ => match nilOp P t y with
    | true => vnil o (ev tm x)
    | false => vbin P o t x y (ev tm x) (ev tm y)
  | .unOp o _ x =>
    match o, ev tm x with
    | .neg, .int k n => some (.int k (negW k n), none)
    | .xor, .int k n => some (.int k (comW k n), none)
    | .not, .bool b => some (.bool (notB b), none)
    | _, _ => none
  | .convert s d x =>
    match P.underlying s, P.underlying d, ev tm x with
    | some _, some (.int k), .int _ n => some (.int k (toW k n), none)
    | some _, some .string, .string u => some (.string u, none)
    | _, _, _ => none
  | .slice t x lo hi mx =>
    match P.underlying t, ev tm x, mx with
    | some .string, .string s, none => vsub s (lo.map (ev tm)) (hi.map (ev tm))
    | some (.slice elem), .slice a len cap, _ => vslice P elem a len cap (lo.map (ev tm)) (hi.map (ev tm)) (mx.map (ev tm))
    | some (.array len elem), .pointer a, none => varr P elem len a (lo.map (ev tm)) (hi.map (ev tm))
    | _, _, _ => none
  | .fieldAddr s x f =>
    match P.underlying s, ev tm x with
    | some (.struct fs), .pointer a =>
      match fs[f]? with
      | some fd => match size? P fd.type with
        | some n => if n = 0 then none else some (ptr (blk a) (plusN (off a) fd.offset), some (plainA a = true))
        | none => none
      | none => none
    | _, _ => none
  | .indexAddr t x ix =>
    match ev tm ix with
    | .int _ i =>
      match P.underlying t, ev tm x with
      | some (.array len elem), .pointer a => (size? P elem).map fun n => (ptr (blk a) (plusI (off a) i n), some (plainA a = true ∧ inR i len))
      | some (.slice elem), .slice a len _ => (size? P elem).map fun n => (ptr (blk a) (plusI (off a) i n), some (a.isSome = true ∧ inR i len))
      | _, _ => none
    | _ => none
  | .index t x ix =>
    match ev tm ix, P.underlying t, ev tm x with
    | .int _ i, some .string, .string s => some (.int .u8 (byteAt s i), some (inR i (lenS s)))
    | .int _ i, some (.array len elem), .agg cs =>
      match P.underlying elem, agg? P elem, size? P elem with
      | some (.int k), some false, some 1 => some (.int k (nthI cs i), some (inR i len ∧ isNth k cs i))
      | _, _, _ => none
    | _, _, _ => none
  | .call { callee := .builtin .len, args, argTypes } =>
    match argTypes.toList, args.toList with
    | t :: _, x :: _ =>
      match P.underlying t, ev tm x with
      | some .string, .string s => some (.int .i64 (natI (lenS s)), none)
      | some (.slice _), .slice _ n _ => some (.int .i64 (natI n), none)
      | _, _ => (clen P t (ev tm x)).map fun v => (v, none)
    | _, _ => none
  | .call { callee := .builtin .max, args, .. } =>
    match args.toList with
    | [x, y] => match ev tm x, ev tm y with
      | .int k a, .int k' b => if k = k' then some (.int k (maxI a b), none) else none
      | _, _ => none
    | _ => none
  | .call { callee := .builtin .min, args, .. } =>
    match args.toList with
    | [x, y] => match ev tm x, ev tm y with
      | .int k a, .int k' b => if k = k' then some (.int k (minI a b), none) else none
      | _, _ => none
    | _ => none
  | .sliceToArrayPointer arr x =>
    match P.underlying arr, ev tm x with
    | some (.array n _), .slice a l _ => if n = 0 then none else some (ptr (blk a) (off a), some (a.isSome = true ∧ leN n l))
    | _, _ => none
  | .pick _ _ _ => none
  | op => (pop P tm op).map fun v => (v, none)
end

section
variable {P : Program}

theorem plainA_inv {a : Option Addr} (h : plainA a = true) : a = some ⟨blk a, off a, none⟩ := by
  match a, h with
  | some ⟨b, o, none⟩, _ => rfl

theorem isSome_inv {a : Option Addr} (h : a.isSome = true) : ∃ s, a = some ⟨blk a, off a, s⟩ := by
  match a, h with
  | some ⟨b, o, s⟩, _ => exact ⟨s, rfl⟩

theorem row_fold {k : IntKind} {elem : TypeId} (hu : P.underlying elem = some (.int k)) {d : Nat} {X Y : Array Value} : ∀ (xs ys : List Value) (o : Nat), allInt k xs = true → allInt k ys = true → xs.length = ys.length →
    (∀ j, xs[j]? = if j < xs.length then X[o + j]? else none) → (∀ j, ys[j]? = if j < xs.length then Y[o + j]? else none) →
    (List.range' o xs.length).foldr (fun i acc => match part? P elem X (i * 1), part? P elem Y (i * 1) with
      | some a, some b => match ceq P (d + 1) elem a b with
        | some true => acc
        | some false => some false
        | none => none
      | _, _ => none) (some true) = some (rowEq xs ys)
  | [], [], o, _, _, _, _, _ => rfl
  | [], _ :: _, o, _, _, hl, _, _ => by simp at hl
  | x :: xs, [], o, _, _, hl, _, _ => by simp at hl
  | x :: xs, y :: ys, o, hx, hy, hl, gx, gy => by
    have ha : agg? P elem = some false := by unfold agg?; rw [hu]
    cases x with
    | int k1 a =>
      cases y with
      | int k2 b =>
        simp only [allInt, Bool.and_eq_true, beq_iff_eq] at hx hy
        obtain ⟨rfl, hx⟩ := hx
        obtain ⟨rfl, hy⟩ := hy
        have x0 := gx 0
        have y0 := gy 0
        simp at x0 y0
        have ih := row_fold hu (d := d) (X := X) (Y := Y) xs ys (o + 1) hx hy (by simpa using hl) (fun j => by
          have := gx (j + 1)
          simp only [List.getElem?_cons_succ, List.length_cons, Nat.add_lt_add_iff_right] at this
          rw [this, show o + (j + 1) = o + 1 + j by omega]) (fun j => by
          have := gy (j + 1)
          simp only [List.getElem?_cons_succ, List.length_cons, Nat.add_lt_add_iff_right] at this
          rw [this, show o + (j + 1) = o + 1 + j by omega])
        rw [List.length_cons, List.range'_succ, List.foldr_cons, ih]
        have px : part? P elem X (o * 1) = some (.int k a) := by unfold part?; rw [ha, Nat.mul_one]; exact x0.symm
        have py : part? P elem Y (o * 1) = some (.int k b) := by unfold part?; rw [ha, Nat.mul_one]; exact y0.symm
        rw [px, py]
        have hc : ceq P (d + 1) elem (.int k a) (.int k b) = some (a == b) := by simp [ceq, hu]
        simp only [hc, rowEq, eqI]
        cases a == b <;> simp
      | _ => simp [allInt] at hy
    | _ => simp [allInt] at hx

theorem row_ceq {d len : Nat} {elem : TypeId} {xs ys : Array Value} {r : Bool} (hr : rowK P d len elem xs ys = true) (h : some (rowEq xs.toList ys.toList) = some r) :
    (match size? P elem with
      | some n => (List.range len).foldr (fun i acc =>
          match part? P elem xs (i * n), part? P elem ys (i * n) with
          | some a, some b => match ceq P d elem a b with
            | some true => acc
            | some false => some false
            | none => none
          | _, _ => none) (some true)
      | none => none) = some r := by
  unfold rowK at hr
  split at hr
  · rename_i k d' hu hs
    simp only [Bool.and_eq_true, Nat.beq_eq] at hr
    obtain ⟨_, h1, h2, h3, h4⟩ := hr
    rw [hs]
    simp only
    have := row_fold hu (d := d') (X := xs) (Y := ys) xs.toList ys.toList 0 h1 h2 (by rw [h3, h4]) (fun j => by
      rw [Nat.zero_add]
      split
      · simp
      · rename_i hj; rw [List.getElem?_eq_none (by omega)]) (fun j => by
      rw [Nat.zero_add]
      split
      · simp
      · rename_i hj; rw [List.getElem?_eq_none (by omega)])
    rw [h3, ← List.range_eq_range'] at this
    rw [← h, ← this]
  · simp at hr

theorem vceq_sound : ∀ (d : Nat) {t : TypeId} {x y : Value} {r : Bool}, vceq P d t x y = some r → ceq P d t x y = some r
  | 0, t, x, y, r, h => by simp [vceq] at h
  | d + 1, t, x, y, r, h => by
    unfold vceq at h
    split at h
    · rename_i hu; simp only [ceq, hu]; exact h
    · rename_i hu; simp only [ceq, hu]; exact h
    · rename_i hu; simp only [ceq, hu]; exact h
    · rename_i a _ _ _ _ hu; cases a <;> (simp only [ceq, hu]; exact h)
    · rename_i a hu; cases a <;> (simp only [ceq, hu]; exact h)
    · rename_i fs xs ys hu
      unfold ceq
      simp only [hu]
      split at h
      · simp at h
      · rename_i hs
        rw [if_neg (by simpa [noStood] using hs)]
        generalize fs.toList = l0 at h ⊢
        induction l0 generalizing r with
        | nil => simpa using h
        | cons f l ih =>
          simp only [List.foldr_cons] at h ⊢
          split at h
          · rename_i hn
            rw [if_pos hn]
            split at h
            · rename_i a b ha hb
              simp only [ha, hb]
              split at h
              · rename_i r1 s1 h1 h2
                rw [vceq_sound d h1]
                simp only [Option.some.injEq, andB] at h; subst h
                cases r1 with
                | true => simpa using ih (r := s1) h2
                | false => simp
              · simp at h
            · simp at h
          · rename_i hn; rw [if_neg hn]; exact ih (r := r) h
    · rename_i len elem xs ys hu
      unfold ceq
      simp only [hu]
      split at h
      · rename_i hr
        exact row_ceq hr h
      split at h
      · rename_i n hn
        simp only [hn]
        generalize List.range len = l0 at h ⊢
        induction l0 generalizing r with
        | nil => simpa using h
        | cons i l ih =>
          simp only [List.foldr_cons] at h ⊢
          split at h
          · rename_i a b ha hb
            simp only [ha, hb]
            split at h
            · rename_i r1 s1 h1 h2
              rw [vceq_sound d h1]
              simp only [Option.some.injEq, andB] at h; subst h
              cases r1 with
              | true => simpa using ih (r := s1) h2
              | false => simp
            · simp at h
          · simp at h
      · simp at h
    · exact h

theorem vint_sound {op : BinOp} {k : IntKind} {a b : Int} {v : Value} {c : Option Prop} (h : vint op k a b = some (v, c)) (hc : cnd c) : intOp op k a b = some v := by
  cases op <;> simp only [vint, Option.some.injEq, Prod.mk.injEq, reduceCtorEq] at h <;> obtain ⟨rfl, rfl⟩ := h <;> first | rfl | (simp only [cnd, nonzero] at hc; simp [intOp, hc, quoW, remW])

theorem vstr_sound {op : BinOp} {a b : ByteArray} {v : Value} {c : Option Prop} (h : vstr op a b = some (v, c)) (hc : cnd c) : strOp op a b = some v := by
  cases op <;> simp only [vstr, Option.some.injEq, Prod.mk.injEq, reduceCtorEq] at h <;> obtain ⟨rfl, rfl⟩ := h <;> first | rfl | (simp only [cnd, catOk] at hc; simp only [strOp, strCat]; rw [if_neg (by omega)])

theorem vbin_sound {op : BinOp} {t : TypeId} {x y : Operand} {a b v : Value} {c : Option Prop} (h : vbin P op t x y a b = some (v, c)) (hc : cnd c) : cbin P op t x y a b = some v := by
  unfold vbin at h
  split at h
  · rename_i k m k' n
    unfold cbin
    simp only
    split at h
    · simp only [Option.some.injEq, Prod.mk.injEq] at h; obtain ⟨rfl, rfl⟩ := h; simp [shift, Int.not_lt.2 hc, shlW]
    · simp only [Option.some.injEq, Prod.mk.injEq] at h; obtain ⟨rfl, rfl⟩ := h; simp [shift, Int.not_lt.2 hc, shrW]
    · rename_i h1 h2
      split at h
      · rename_i hk
        have := vint_sound h hc
        cases op <;> simp_all
      · simp at h
  · rename_i s u
    unfold cbin
    simp only
    exact vstr_sound h hc
  · simp at h
  · simp at h
  · rename_i n1 n2 n3 n4
    have e : cbin P op t x y a b = (match op with
        | .eql => if eqPlain P t x y a b then (ceq P Op.maxDepth t a b).map .bool else none
        | .neq => if eqPlain P t x y a b then (ceq P Op.maxDepth t a b).map fun r => .bool !r else none
        | _ => none) := by
      unfold cbin
      split
      · exact (n3 _ _ _ _ rfl rfl).elim
      · exact (n4 _ _ rfl rfl).elim
      · exact (n1 _ _ rfl).elim
      · exact (n2 _ _ _ rfl).elim
      · cases op <;> rfl
    rw [e]
    split at h
    · simp only at h ⊢
      split at h
      · rename_i hp
        rw [if_pos hp]
        simp only [Option.map_eq_some_iff, Prod.mk.injEq] at h ⊢
        obtain ⟨r, hr, rfl, _⟩ := h
        exact ⟨r, vceq_sound _ hr, rfl⟩
      · simp at h
    · simp only at h ⊢
      split at h
      · rename_i hp
        rw [if_pos hp]
        simp only [Option.map_eq_some_iff, Prod.mk.injEq] at h ⊢
        obtain ⟨r, hr, rfl, _⟩ := h
        exact ⟨r, vceq_sound _ hr, rfl⟩
      · simp at h
    · simp at h

theorem nilOp_inv {t : TypeId} {y : Operand} (h : nilOp P t y = true) : y = .const .nilIface ∧ ∃ ms, P.underlying t = some (.interface ms) := by
  unfold nilOp at h
  split at h
  · split at h
    · rename_i ms hu; exact ⟨rfl, ms, hu⟩
    · simp at h
  · simp at h

theorem vnil_sound {op : BinOp} {t : TypeId} {x : Operand} {a v : Value} {c : Option Prop} {ms : _} (hu : P.underlying t = some (.interface ms)) (h : vnil op a = some (v, c)) (hc : cnd c) : cbin P op t x (.const .nilIface) a .nilIface = some v := by
  have hm : Op.maxDepth = Op.maxDepth - 1 + 1 := rfl
  unfold vnil at h
  split at h
  · simp only [Option.some.injEq, Prod.mk.injEq] at h; obtain ⟨rfl, rfl⟩ := h
    cases a <;> first | (simp [cnd, isIfc] at hc; done) | skip
    all_goals
      unfold cbin
      simp only [eqPlain, Bool.or_true, if_true]
      rw [hm]
      unfold ceq
      simp only [hu]
      rfl
  · simp only [Option.some.injEq, Prod.mk.injEq] at h; obtain ⟨rfl, rfl⟩ := h
    cases a <;> first | (simp [cnd, isIfc] at hc; done) | skip
    all_goals
      unfold cbin
      simp only [eqPlain, Bool.or_true, if_true]
      rw [hm]
      unfold ceq
      simp only [hu]
      rfl
  · simp at h

theorem boundI_inv {x : Option Value} {d i : Int} (h : boundI x d = some i) : (x = none ∧ i = d) ∨ ∃ k, x = some (.int k i) := by
  unfold boundI at h
  split at h
  · simp at h; exact .inl ⟨rfl, h.symm⟩
  · simp at h; subst h; exact .inr ⟨_, rfl⟩
  · simp at h

theorem bound_of {x : Option Value} {d most : Nat} {i : Int} (h : boundI x (d : Int) = some i) (h0 : 0 ≤ i) (hm : i ≤ most) : bound x d most = some i.toNat := by
  rcases boundI_inv h with ⟨rfl, rfl⟩ | ⟨k, rfl⟩
  · simp [bound]
  · simp [bound, h0, hm]

theorem bounds_of {len cap : Nat} {lo hi mx : Option Value} {l h m : Int} (el : boundI lo 0 = some l) (eh : boundI hi (natI len) = some h) (em : boundI mx (natI cap) = some m) (hc : cutOk l h m (natI cap)) (hh : mx = none ∨ hi ≠ none) :
    bounds len cap lo hi mx = some (l.toNat, h.toNat, m.toNat) := by
  obtain ⟨h1, h2, h3, h4⟩ := hc
  simp only [natI] at eh em h4
  have a1 := bound_of em (by omega) h4
  have a3 : bound lo 0 h.toNat = some l.toNat := bound_of (d := 0) el h1 (by omega)
  unfold bounds
  rw [a1]
  simp only
  have a2 : bound hi len (if mx.isSome = true then m.toNat else cap) = some h.toNat := by
    refine bound_of eh (by omega) ?_
    split <;> omega
  split
  · rename_i y
    rcases hh with hh | hh
    · simp at hh
    · exact absurd rfl hh
  · rw [a2]
    simp only
    rw [a3]

theorem vslice_sound {t elem : TypeId} {a : Option Addr} {len cap : Nat} {lo hi mx : Option Value} {v : Value} {c : Option Prop} (hu : P.underlying t = some (.slice elem))
    (h : vslice P elem a len cap lo hi mx = some (v, c)) (hc : cnd c) : cslice P t (.slice a len cap) lo hi mx = some v := by
  unfold vslice at h
  split at h
  · rename_i n l hh m hn el eh em
    split at h
    · simp only [Option.some.injEq, Prod.mk.injEq] at h; obtain ⟨rfl, rfl⟩ := h
      have hb := bounds_of el eh em hc.1 (.inl rfl)
      match a with
      | none => simp only [cslice, hu, hb, hn]; rfl
      | some ⟨b, o, sp⟩ =>
        have hs : sp = none ∨ sp = some n := hc.2
        simp only [cslice, hu, hb, hn]
        simp [cutA, hs, diffN]
    · simp only [Option.some.injEq, Prod.mk.injEq] at h; obtain ⟨rfl, rfl⟩ := h
      have hb := bounds_of el eh em hc (.inr (by simp))
      match a with
      | none => simp only [cslice, hu, hb, hn]; rfl
      | some ⟨b, o, sp⟩ =>
        simp only [cslice, hu, hb, hn]
        simp [cutE, diffN]
    · simp at h
  · simp at h

theorem varr_sound {t elem : TypeId} {a : Option Addr} {len : Nat} {lo hi : Option Value} {v : Value} {c : Option Prop} (hu : P.underlying t = some (.array len elem))
    (h : varr P elem len a lo hi = some (v, c)) (hc : cnd c) : cslice P t (.pointer a) lo hi none = some v := by
  unfold varr at h
  split at h
  · rename_i n l hh hn el eh
    simp only [Option.some.injEq, Prod.mk.injEq] at h; obtain ⟨rfl, rfl⟩ := h
    have hb := bounds_of (len := len) (cap := len) (mx := none) el eh (m := natI len) rfl hc.1 (.inl rfl)
    rw [plainA_inv hc.2]
    simp only [cslice, hu, hb, hn]
    simp [cutE, diffN]
  · simp at h

theorem vsub_sound {t : TypeId} {s : ByteArray} {lo hi : Option Value} {v : Value} {c : Option Prop} (hu : P.underlying t = some .string) (h : vsub s lo hi = some (v, c)) (hc : cnd c) : cslice P t (.string s) lo hi none = some v := by
  unfold vsub at h
  split at h
  · rename_i l hh el eh
    simp only [Option.some.injEq, Prod.mk.injEq] at h; obtain ⟨rfl, rfl⟩ := h
    obtain ⟨h1, h2, h3⟩ := hc
    have hb : bounds s.size s.size lo hi none = some (l.toNat, hh.toNat, s.size) := by
      have := bounds_of (len := s.size) (cap := s.size) (mx := none) el eh (m := natI s.size) rfl ⟨h1, h2, h3, Int.le_refl _⟩ (.inl rfl)
      simpa [natI] using this
    simp only [cslice, hu, hb]
    rfl
  · simp at h

theorem vpop_sound {tm : List Value} {op : Op} {v : Value} {c : Option Prop} (h : vpop P tm op = some (v, c)) (hc : cnd c) : pop P tm op = some v := by
  unfold vpop at h
  split at h
  · rename_i x
    unfold pop
    simp only
    split at h
    · rename_i a he
      simp only [Option.some.injEq, Prod.mk.injEq] at h; obtain ⟨rfl, rfl⟩ := h
      match a, hc with
      | some a, _ => simp [he]
    · rename_i he; simp only [Option.some.injEq, Prod.mk.injEq] at h; obtain ⟨rfl, rfl⟩ := h; simp [he]
    · rename_i he; simp only [Option.some.injEq, Prod.mk.injEq] at h; obtain ⟨rfl, rfl⟩ := h; simp [he]
    · simp at h
  · unfold pop; simp only
    split at h
    · rename_i hn
      obtain ⟨rfl, ms, hu⟩ := nilOp_inv hn
      have : ev tm (.const .nilIface) = .nilIface := rfl
      rw [this]
      exact vnil_sound hu h hc
    · exact vbin_sound h hc
  · rename_i o t x
    unfold pop; simp only
    split at h <;> first | (simp at h; done) | skip
    all_goals
      rename_i he
      simp only [Option.some.injEq, Prod.mk.injEq] at h; obtain ⟨rfl, rfl⟩ := h
      rw [he]; rfl
  · rename_i s d x
    unfold pop; simp only [cconv]
    split at h <;> first | (simp at h; done) | skip
    all_goals
      rename_i h1 h2 he
      simp only [Option.some.injEq, Prod.mk.injEq] at h; obtain ⟨rfl, rfl⟩ := h
      rw [h1, h2, he]; try rfl
  · rename_i t x lo hi mx
    unfold pop; simp only
    split at h
    · rename_i s hu he
      rw [he]; exact vsub_sound hu h hc
    · rename_i mx elem a len cap hu he
      rw [he]; exact vslice_sound hu h hc
    · rename_i len elem a hu he
      rw [he]; exact varr_sound hu h hc
    · simp at h
  · rename_i s x f
    unfold pop; simp only [cfieldAddr]
    split at h
    · rename_i fs a hu he
      split at h
      · rename_i fd hf
        split at h
        · rename_i n hn
          split at h
          · simp at h
          · rename_i h0
            simp only [Option.some.injEq, Prod.mk.injEq] at h; obtain ⟨rfl, rfl⟩ := h
            rw [he, plainA_inv hc]
            simp [hu, hf, hn, h0, blk, off, plusN]
        · simp at h
      · simp at h
    · simp at h
  · rename_i t x ix
    unfold pop; simp only [cindexAddr]
    split at h
    · rename_i k i hi
      rw [hi]
      split at h
      · rename_i len elem a hu he
        simp only [Option.map_eq_some_iff, Prod.mk.injEq] at h
        obtain ⟨n, hn, rfl, rfl⟩ := h
        obtain ⟨h1, h2, h3⟩ := hc
        rw [he, plainA_inv h1]
        simp [hu, hn, h2, h3, blk, off, plusI]
      · rename_i elem a len cap hu he
        simp only [Option.map_eq_some_iff, Prod.mk.injEq] at h
        obtain ⟨n, hn, rfl, rfl⟩ := h
        obtain ⟨h1, h2, h3⟩ := hc
        obtain ⟨s, hs⟩ := isSome_inv h1
        rw [he, hs]
        simp [hu, hn, h2, h3, blk, off, plusI]
      · simp at h
    · simp at h
  · rename_i t x ix
    unfold pop; simp only [cindex]
    split at h
    · rename_i k i s hi hu he
      simp only [Option.some.injEq, Prod.mk.injEq] at h; obtain ⟨rfl, rfl⟩ := h
      obtain ⟨h1, h2⟩ := hc
      simp only [lenS] at h2
      have hlt : i.toNat < s.size := by omega
      simp [hi, hu, he, h1, byteAt, hlt]
    · rename_i k i len elem cs hi hu he
      split at h
      · rename_i k2 e1 e2 e3
        simp only [Option.some.injEq, Prod.mk.injEq] at h; obtain ⟨rfl, rfl⟩ := h
        obtain ⟨⟨h1, h2⟩, h3⟩ := hc
        simp only [isNth] at h3
        simp [hi, hu, he, h1, h2, e3, part?, e2, h3]
      · simp at h
    · simp at h
  · rename_i args argTypes
    unfold pop; simp only
    split at h
    · rename_i t ts x xs e1 e2
      rw [e1, e2]
      simp only
      split at h
      · rename_i s hu he
        simp only [Option.some.injEq, Prod.mk.injEq] at h; obtain ⟨rfl, rfl⟩ := h
        rw [he]; simp [clen, hu, natI, lenS]
      · rename_i el a n cp hu he
        simp only [Option.some.injEq, Prod.mk.injEq] at h; obtain ⟨rfl, rfl⟩ := h
        rw [he]; simp [clen, hu, natI]
      · simp only [Option.map_eq_some_iff, Prod.mk.injEq] at h
        obtain ⟨w, hw, rfl, _⟩ := h
        exact hw
    · simp at h
  · rename_i args argTypes
    unfold pop; simp only
    split at h
    · rename_i x y e1
      rw [e1]
      simp only
      split at h
      · rename_i k a k' b e2 e3
        split at h
        · rename_i hk
          simp only [Option.some.injEq, Prod.mk.injEq] at h; obtain ⟨rfl, rfl⟩ := h
          rw [e2, e3]; simp [cmax, hk, maxI]
        · simp at h
      · simp at h
    · simp at h
  · rename_i args argTypes
    unfold pop; simp only
    split at h
    · rename_i x y e1
      rw [e1]
      simp only
      split at h
      · rename_i k a k' b e2 e3
        split at h
        · rename_i hk
          simp only [Option.some.injEq, Prod.mk.injEq] at h; obtain ⟨rfl, rfl⟩ := h
          rw [e2, e3]; simp [cmin, hk, minI]
        · simp at h
      · simp at h
    · simp at h
  · rename_i arr x
    unfold pop; simp only
    split at h
    · rename_i n el a l c hu he
      split at h
      · simp at h
      · rename_i h0
        simp only [Option.some.injEq, Prod.mk.injEq] at h; obtain ⟨rfl, rfl⟩ := h
        obtain ⟨h1, h2⟩ := hc
        obtain ⟨s, hs⟩ := isSome_inv h1
        simp only [leN] at h2
        rw [he, hs]
        simp [hu, h2, blk, off]
        omega
    · simp at h
  · simp at h
  · simp only [Option.map_eq_some_iff, Prod.mk.injEq] at h
    obtain ⟨w, hw, rfl, _⟩ := h
    exact hw
end
end Go.Cn

/- The symbolic run of a region: values of known shape, conditions as propositions, guarded operations merged where they are picked. -/
set_option linter.unusedVariables false
set_option linter.unusedSimpArgs false
namespace Go.Cn

/-- Under which guards a slot was written. -/
abbrev Ch := List (Nat × Bool)
abbrev SS := List (Ch × Value)
def SS.at (S : SS) (t : Nat) : Ch × Value := S.getD t ([], undef)
def SS.vals (S : SS) : List Value := S.map (·.2)
def SS.put (S : SS) (d : Option Tmp) (x : Ch × Value) : SS :=
  match d with
  | some d => S.set d x
  | none => S

def dstOf (L : List Oper) (j : Nat) : Option Tmp := (L[j]?).bind (·.dst)
def boolOf : Value → Bool
  | .bool b => b
  | _ => false
def isBool : Value → Bool
  | .bool _ => true
  | _ => false
def bOf (L : List Oper) (S : SS) (j : Nat) : Bool :=
  match dstOf L j with
  | some d => boolOf (S.at d).2
  | none => false
def eqw (b : Bool) : Bool → Bool
  | true => b
  | false => notB b
def wOf (L : List Oper) (S : SS) : Ch → Bool
  | [] => true
  | (j, w) :: r => match r with
    | [] => eqw (bOf L S j) w
    | _ => andB (eqw (bOf L S j) w) (wOf L S r)
def under (L : List Oper) (S : SS) (ci : Ch) (c : Prop) : Prop :=
  match ci with
  | [] => c
  | ci => wOf L S ci = true → c
def fin (L : List Oper) (S : SS) (x : Ch × Value) : Value :=
  match x.1 with
  | [] => x.2
  | ch => sel (wOf L S ch) x.2 undef
def real (L : List Oper) (S : SS) : List Value := S.map (fin L S)

def okSlot (S : SS) (ci : Ch) : Operand → Bool
  | .tmp t => (S.at t).1.isSuffixOf ci
  | _ => true
def okArm (L : List Oper) (S : SS) (ci : Ch) (c : Operand) (want : Bool) (x : Operand) : Bool :=
  okSlot S ci x || match c, x with
    | .tmp dc, .tmp t => match (S.at t).1 with
      | (j, w) :: r => w == want && decide (dstOf L j = some dc) && r.isSuffixOf ci
      | [] => false
    | _, _ => false

def mergeV (b : Bool) (x y : Value) : Option Value :=
  match x, y with
  | .bool p, .bool q => some (.bool (sel b p q))
  | .int k m, .int k' n => if k = k' then some (.int k (sel b m n)) else none
  | .string s, .string u => some (.string (sel b s u))
  | .pointer p, .pointer q => some (.pointer (sel b p q))
  | .slice p l c, .slice q m d => some (.slice (sel b p q) (sel b l m) (sel b c d))
  | _, _ => none

/-- The guards of an operation. -/
def chainOf (L : List Oper) (S : SS) (done : List Nat) (o : Oper) : Option Ch :=
  match o.guard with
  | none => some []
  | some (j, w) =>
    if done.contains j then
      match dstOf L j with
      | some d => if decide (d < S.length) && isBool (S.at d).2 then some ((j, w) :: (S.at d).1) else none
      | none => none
    else none

/-- It writes no slot that an operation ahead of it wrote. -/
def newDst (L : List Oper) (done : List Nat) (o : Oper) : Bool :=
  match o.dst with
  | none => true
  | some d => done.all fun j => decide (dstOf L j ≠ some d)

section
variable (P : Program)

/-- The cells of a type, in pieces: (t, 0): a cell of type t; (t, n + 1): a row of n + 1 whole numbers of type t. -/
def cellTypes : (fuel : Nat) → TypeId → Option (List (TypeId × Nat))
  | 0, _ => none
  | n + 1, t =>
    match P.underlying t with
    | some (.struct fs) => (fs.toList.mapM fun f => cellTypes n f.type).map List.flatten
    | some (.array len e) =>
      match P.underlying e, Nat.ble 9 len with
      | some (.int _), true => some [(e, len)]
      | _, _ => (cellTypes n e).map fun l => (List.replicate len l).flatten
    | some _ => some [(t, 0)]
    | none => none

/-- A row of whole numbers. -/
def dgV (k : IntKind) (n : Nat) (D : Nat → Int) : List Value := (List.range n).map fun i => .int k (D i)

/-- Of which function number a function value of a type is (a number that no function has: a round's). -/
def yldNo : Nat := 999999999

variable (dy : Nat → Option TypeId)

/-- An interface's value, of the type that is laid down for it (a pointer's). -/
def exDyn (t : TypeId) (f : Value → Prop) : Prop :=
  match dy t with
  | some T => ∃ a : Option Addr, f (.iface T (.pointer a))
  | none => ∃ v : Value, f v
/-- A function value, of the function that is laid down for its type. -/
def exFun (t : TypeId) (f : Value → Prop) : Prop :=
  match dy t with
  | some g => match Nat.beq g yldNo with
    | true => ∃ l : Nat, f (.func (.yield l) #[] #[])
    | false => ∃ xs : List Value, f (.func (.func g) #[] xs.toArray)
  | none => ∃ v : Value, f v
def allDyn (t : TypeId) (f : Value → Prop) : Prop :=
  match dy t with
  | some T => ∀ a : Option Addr, f (.iface T (.pointer a))
  | none => ∀ v : Value, f v
def allFun (t : TypeId) (f : Value → Prop) : Prop :=
  match dy t with
  | some g => match Nat.beq g yldNo with
    | true => ∀ l : Nat, f (.func (.yield l) #[] #[])
    | false => ∀ xs : List Value, f (.func (.func g) #[] xs.toArray)
  | none => ∀ v : Value, f v

/-- There is a value of a type such that. -/
def exCell (t : TypeId) (f : Value → Prop) : Prop :=
  match P.underlying t with
  | some .bool => ∃ b : Bool, f (.bool b)
  | some (.int k) => ∃ n : Int, f (.int k n)
  | some .string => ∃ s : ByteArray, f (.string s)
  | some (.slice _) => ∃ (a : Option Addr) (l c : Nat), f (.slice a l c)
  | some (.pointer _) => ∃ a : Option Addr, f (.pointer a)
  | some (.interface _) => exDyn dy t f
  | some (.func _ _ _) => exFun dy t f
  | _ => ∃ v : Value, f v

def exCells : List (TypeId × Nat) → (List Value → Prop) → Prop
  | [], f => f []
  | (t, 0) :: ts, f => exCell P dy t fun v => exCells ts fun vs => f (v :: vs)
  | (t, n + 1) :: ts, f => match P.underlying t with
    | some (.int k) => ∃ D : Nat → Int, exCells ts fun vs => f (dgV k (n + 1) D ++ vs)
    | _ => False

/-- A value of a type, and its cells. -/
def exVal (t : TypeId) (f : Value → List Value → Prop) : Prop :=
  match agg? P t with
  | some true => match cellTypes P 20 t with
    | some ts => exCells P dy ts fun vs => f (.agg vs.toArray) vs
    | none => False
  | some false => exCell P dy t fun v => f v [v]
  | none => False

/-- What a function answers. -/
def exRes (ts : List TypeId) (f : Value → Prop) : Prop :=
  let rec go : List TypeId → (List Value → Prop) → Prop
    | [], g => g []
    | t :: ts, g => exVal P dy t fun v _ => go ts fun vs => g (v :: vs)
  match ts with
  | [t] => exVal P dy t fun v _ => f v
  | ts => go ts fun vs => f (.tuple vs.toArray)

def allCell (t : TypeId) (f : Value → Prop) : Prop :=
  match P.underlying t with
  | some .bool => ∀ b : Bool, f (.bool b)
  | some (.int k) => ∀ n : Int, f (.int k n)
  | some .string => ∀ s : ByteArray, f (.string s)
  | some (.slice _) => ∀ (a : Option Addr) (l c : Nat), f (.slice a l c)
  | some (.pointer _) => ∀ a : Option Addr, f (.pointer a)
  | some (.interface _) => allDyn dy t f
  | some (.func _ _ _) => allFun dy t f
  | _ => ∀ v, f v

def allCells : List TypeId → (List Value → Prop) → Prop
  | [], f => f []
  | t :: ts, f => allCell P dy t fun v => allCells ts fun vs => f (v :: vs)

def allSegs : List (TypeId × Nat) → (List Value → Prop) → Prop
  | [], f => f []
  | (t, 0) :: ts, f => allCell P dy t fun v => allSegs ts fun vs => f (v :: vs)
  | (t, n + 1) :: ts, f => match P.underlying t with
    | some (.int k) => ∀ D : Nat → Int, allSegs ts fun vs => f (dgV k (n + 1) D ++ vs)
    | _ => True

def allVal (t : TypeId) (f : Value → Prop) : Prop :=
  match agg? P t with
  | some true => match cellTypes P 20 t with
    | some ts => allSegs P dy ts fun vs => f (.agg vs.toArray)
    | none => True
  | some false => allCell P dy t f
  | none => True

/-- Of all that a function may answer. -/
def allRes (ts : List TypeId) (f : Value → Prop) : Prop :=
  let rec go : List TypeId → (List Value → Prop) → Prop
    | [], g => g []
    | t :: ts, g => allVal P dy t fun v => go ts fun vs => g (v :: vs)
  match ts with
  | [t] => allVal P dy t f
  | ts => go ts fun vs => f (.tuple vs.toArray)

def resTypes (f : FuncId) : List TypeId :=
  match P.funcs[f]? with
  | some fn => fn.resultTypes.toList
  | none => []

/-- Reads done: which, and that it reads the same. -/
abbrev Rd := List (Nat × (Hp → Prop))
/-- Behind a change: what does not surely come behind the reads asks that they read the same. -/
def payV (am : Nat) : Rd → Hp → Prop → Prop
  | [], _, X => X
  | (i, p) :: rest, h, X => match am.testBit i with
    | true => payV am rest h X
    | false => p h ∧ payV am rest h X

/-- A string of the bytes of a slice. -/
def readStr (a : Option Addr) (l : Nat) (h : Hp) (s : ByteArray) : Prop :=
  (a = none ∧ s = .empty) ∨ (a.isSome = true ∧ ∃ cs, h.cellsAt (blk a) (off a) l = some cs ∧ bytesOf cs = some s.data.toList)

/-- A read. -/
def vread (tm : List Value) (op : Op) (h : Hp) (u : Prop → Prop) (k : Value → (Hp → Prop) → Prop) : Prop :=
  match op with
  | .load t x =>
    match ev tm x, size? P t with
    | .pointer a, some n => exVal P dy t fun v cs => if cs.length = n then u (plainA a = true ∧ h.cellsAt (blk a) (off a) n = some cs) ∧ k v (fun h' => u (plainA a = true ∧ h'.cellsAt (blk a) (off a) n = some cs)) else False
    | _, _ => False
  | .convert src dst x =>
    match P.underlying src, P.underlying dst, ev tm x with
    | some (.slice e), some .string, .slice a l _ => match P.underlying e with
      | some (.int .u8) => ∃ s : ByteArray, u (readStr a l h s) ∧ k (.string s) (fun h' => u (readStr a l h' s))
      | _ => False
    | _, _, _ => False
  | .lookup t x ix ok =>
    match P.underlying t with
    | some (.map _ et) => exVal P dy et fun v _ => match ok with
      | true => ∃ b : Bool, u (clookup P t (ev tm x) (ev tm ix) true h = some (.tuple #[v, .bool b])) ∧ k (.tuple #[v, .bool b]) (fun h' => u (clookup P t (ev tm x) (ev tm ix) true h' = some (.tuple #[v, .bool b])))
      | false => u (clookup P t (ev tm x) (ev tm ix) false h = some v) ∧ k v (fun h' => u (clookup P t (ev tm x) (ev tm ix) false h' = some v))
    | _ => False
  | .call { callee := .builtin .len, args, argTypes } =>
    match lenOfMap P argTypes, args.toList with
    | true, x :: _ => ∃ es : List MapEntry, u (mapOf h (ev tm x) = some es) ∧ k (.int .i64 es.length) (fun h' => u (∃ fs : List MapEntry, mapOf h' (ev tm x) = some fs ∧ fs.length = es.length))
    | _, _ => False
  | op => ∃ s : ByteArray, u (rop P tm op h = some (.string s)) ∧ k (.string s) (fun h' => u (rop P tm op h' = some (.string s)))

def byteCells (s : ByteArray) : List Value := s.data.toList.map fun b => .int .u8 b.toNat

/-- A change. -/
def veff (tm : List Value) (op : Op) (h : Hp) (k : Value → Hp → Prop) : Prop :=
  match op with
  | .store t a x =>
    match ev tm a, size? P t with
    | .pointer a, some n => if (ev tm x).cells.size = n then plainA a = true ∧ ∃ h', h.store (blk a) (off a) (ev tm x).cells.toList = some h' ∧ k undef h' else False
    | _, _ => False
  | .mapUpdate t m x y | .insert t m x y => ∃ h' : Hp, cmapUpdate P t (ev tm m) (ev tm x) (ev tm y) h = some h' ∧ k undef h'
  | .mapEntry t m x =>
    match P.underlying t with
    | some (.map _ et) => exVal P dy et fun v _ => ∃ (n : Int) (h' : Hp), cmapEntry P t (ev tm m) (ev tm x) h = some (.tuple #[v, .int .i64 n], h') ∧ k (.tuple #[v, .int .i64 n]) h'
    | _ => False
  | .entryStore _ m s x => ∃ h' : Hp, centryStore (ev tm m) (ev tm s) (ev tm x) h = some h' ∧ k undef h'
  | .range t x => ∃ h' : Hp, crange P t (ev tm x) h = some (ptr h.next 0, h') ∧ k (ptr h.next 0) h'
  | .call { callee := .builtin .delete, args, argTypes } =>
    match argTypes.toList, args.toList with
    | t :: _, [m, x] => ∃ h' : Hp, cdelete P t (ev tm m) (ev tm x) h = some (.tuple #[], h') ∧ k (.tuple #[]) h'
    | _, _ => False
  | .makeSlice t l c => ∃ (a : Option Addr) (m n : Nat) (h' : Hp), cmakeSlice P t (ev tm l) (ev tm c) h = some (.slice a m n, h') ∧ k (.slice a m n) h'
  | .call { callee := .builtin .append, args, argTypes } =>
    match argTypes.toList, args.toList with
    | [t, xt], [s, x] => ∃ (a : Option Addr) (m n : Nat) (h' : Hp), cappend P t xt (ev tm s) (ev tm x) h = some (.slice a m n, h') ∧ k (.slice a m n) h'
    | _, _ => False
  | .call { callee := .builtin .copy, args, argTypes } =>
    match argTypes.toList, args.toList with
    | t :: _, [d, x] => ∃ (n : Int) (h' : Hp), ccopy P t (ev tm d) (ev tm x) h = some (.int .i64 n, h') ∧ k (.int .i64 n) h'
    | _, _ => False
  | .call { callee := .builtin .clear, args, argTypes } =>
    match argTypes.toList, args.toList with
    | t :: _, [x] => ∃ h' : Hp, cclear P t (ev tm x) h = some (.tuple #[], h') ∧ k (.tuple #[]) h'
    | _, _ => False
  | .convert src dst x =>
    match P.underlying src, P.underlying dst, ev tm x with
    | some .string, some (.slice e), .string s => match P.underlying e with
      | some (.int .u8) => ∀ h' : Hp, h' = h.alloc (byteCells s) e → k (.slice (some ⟨h.next, 0, some 1⟩) (lenS s) (lenS s)) h'
      | _ => False
    | _, _, _ => False
  | op => opt False (eop P tm op h) fun r => ∀ h' : Hp, h' = r.2 → k r.1 h'

/-- New memory. -/
def vmk (tm : List Value) (op : Op) (h : Hp) (k : Value → Hp → Prop) : Prop :=
  match op with
  | .box e x => if isUnk (ev tm x) = true then False else ∀ h' : Hp, h' = h.alloc (ev tm x).cells.toList e → k (ptr h.next 0) h'
  | .buildSlice t len parts =>
    match P.underlying t with
    | some (.slice e) =>
      match size? P e, zero? P e with
      | some n, some z =>
        if len * n > 2 ^ 24 || z.cells.size ≠ n || n = 0 || !plainV 100 z then False else
        opt False (fillL (fun j => some (j * n, n)) (zeroCells z.cells.toList len) (parts.toList.map fun (j, x) => (j, ev tm x))) fun cs => ∀ h' : Hp, h' = h.alloc cs e → k (.slice (some ⟨h.next, 0, none⟩) len len) h'
      | _, _ => False
    | _ => False
  | .makeMap _ none => ∀ h' : Hp, h' = h.newOb (.map [] 0) → k (.map (some h.next)) h'
  | _ => False

/-- Is there a function of this number? -/
def fitsF (f : FuncId) : Bool := decide (f < P.funcs.size)
/-- The number of the round of a range over a function. -/
def yld (l : Nat) : FuncId := P.funcs.size + l
/-- A function and its arguments, and its results' types, where the function's value is known. -/
def calleeV (tm : List Value) (op : Op) : Option (FuncId × List Value × List TypeId) :=
  match op with
  | .call { callee := .value f, args, .. } =>
    match ev tm f with
    | .func (.func g) first captured => match fitsF P g with
      | true => some (g, first.toList ++ args.toList.map (ev tm) ++ captured.toList, resTypes P g)
      | false => none
    | .func (.yield l) first captured => match first.toList, captured.toList with
      | [], [] => some (yld P l, args.toList.map (ev tm), [(dy 1000000).getD 0])
      | _, _ => none
    | _ => none
  | .call { callee := .invoke r name, args, .. } =>
    match ev tm r with
    | .iface t v => match methodOf P t name with
      | some g => match fitsF P g, isUnk v with
        | true, false => some (g, v :: args.toList.map (ev tm), resTypes P g)
        | _, _ => none
      | none => none
    | _ => none
  | _ => none

/-- The type of what a change that may stand under a guard makes. -/
def effT : Op → Option TypeId
  | .buildSlice t _ _ => some t
  | .makeSlice t _ _ => some t
  | .call { callee := .builtin .append, args := _, argTypes } => argTypes.toList.head?
  | .convert _ dst _ => some dst
  | _ => none

variable (C : FuncId → List Value → Hp → (Value → Hp → Prop) → Prop) (pf : FuncId → Bool)

/-- The symbolic run of a region. C: what a call comes to; pf: the functions that leave the heap as it is (asked of guarded calls alone). -/
def vOps (L : List Oper) (fs : List Inf) (pre : List (Option Value)) : List Nat → (done : List Nat) → (rd : Rd) → SS → Hp → (List Value → Hp → Prop) → Prop
  | [], _, _, S, h, K => K (real L S) h
  | i :: rest, done, rd, S, h, K =>
    match L[i]?, fs[i]? with
    | some o, some f =>
      match chainOf L S done o, newDst L done o with
      | some ci, true =>
        match pre.getD i none with
        | some v => vOps L fs pre rest (i :: done) rd (S.put o.dst (ci, v)) h K
        | none =>
          match kind P o.op with
          | .pure =>
            match o.op with
            | .pick c a b =>
              match ev S.vals c, okSlot S ci c && okArm L S ci c true a && okArm L S ci c false b with
              | .bool t, true => opt False (mergeV t (ev S.vals a) (ev S.vals b)) fun v => vOps L fs pre rest (i :: done) rd (S.put o.dst (ci, v)) h K
              | _, _ => False
            | op =>
              match vpop P S.vals op, op.operands.toList.all (okSlot S ci) with
              | some (v, none), true => vOps L fs pre rest (i :: done) rd (S.put o.dst (ci, v)) h K
              | some (v, some c), true => under L S ci c ∧ vOps L fs pre rest (i :: done) rd (S.put o.dst (ci, v)) h K
              | _, _ => False
          | .read =>
            match o.op.operands.toList.all (okSlot S ci) with
            | true => vread P dy S.vals o.op h (under L S ci) fun v p => vOps L fs pre rest (i :: done) ((i, p) :: rd) (S.put o.dst (ci, v)) h K
            | false => False
          | .eff =>
            match ci, o.op.operands.toList.all (okSlot S ci) with
            | [], true => veff P dy S.vals o.op h fun v h' => payV f.am rd h' (vOps L fs pre rest (i :: done) rd (S.put o.dst (ci, v)) h' K)
            | _ :: _, true => match effT o.op with
              | some t => ∃ Q : Value → Hp → Prop, (wOf L S ci = true → veff P dy S.vals o.op h fun v h' => exRes P dy [t] fun v' => v = v' ∧ Q v' h') ∧
                  (wOf L S ci = false → exRes P dy [t] fun v' => Q v' h) ∧
                  allRes P dy [t] fun v' => ∀ h' : Hp, Q v' h' → payV f.am rd h' (vOps L fs pre rest (i :: done) rd (S.put o.dst (ci, v')) h' K)
              | none => False
            | _, _ => False
          | .call =>
            match calleeV P dy S.vals o.op, o.op.operands.toList.all (okSlot S ci) with
            | some fa, true =>
              match ci with
              | [] => C fa.1 fa.2.1 h fun v h' => exRes P dy (fa.2.2) fun v' => v = v' ∧ payV f.am rd h' (vOps L fs pre rest (i :: done) rd (S.put o.dst (ci, v')) h' K)
              | _ => match pf fa.1 with
                | true => exRes P dy (fa.2.2) fun v' => (wOf L S ci = true → C fa.1 fa.2.1 h fun v h' => v = v' ∧ h' = h) ∧ payV f.am rd h (vOps L fs pre rest (i :: done) rd (S.put o.dst (ci, v')) h K)
                | false => ∃ Q : Value → Hp → Prop, (wOf L S ci = true → C fa.1 fa.2.1 h fun v h' => exRes P dy (fa.2.2) fun v' => v = v' ∧ Q v' h') ∧
                    (wOf L S ci = false → exRes P dy (fa.2.2) fun v' => Q v' h) ∧
                    allRes P dy (fa.2.2) fun v' => ∀ h' : Hp, Q v' h' → payV f.am rd h' (vOps L fs pre rest (i :: done) rd (S.put o.dst (ci, v')) h' K)
            | _, _ => False
          | .alt =>
            match o.op, ci, o.op.operands.toList.all (okSlot S ci), o.dst with
            | .next it false, [], true, some d =>
              match (dy (3000000 + d)).bind P.underlying with
              | some (.map kt et) => ∃ l : List (Value × Hp), cnext (ev S.vals it) h = some l ∧ ∀ r : Value × Hp, r ∈ l →
                  (r.1 = .tuple #[.bool false] ∧ payV f.am rd r.2 (vOps L fs pre rest (i :: done) rd (S.put o.dst (ci, .tuple #[.bool false])) r.2 K)) ∨
                  (exVal P dy kt fun key _ => exVal P dy et fun val _ => r.1 = .tuple #[.bool true, key, val] ∧ payV f.am rd r.2 (vOps L fs pre rest (i :: done) rd (S.put o.dst (ci, .tuple #[.bool true, key, val])) r.2 K))
              | _ => False
            | _, _, _, _ => False
          | .mk =>
            match ci, o.op.operands.toList.all (okSlot S ci) with
            | [], true => vmk P S.vals o.op h fun v h' => vOps L fs pre rest (i :: done) rd (S.put o.dst (ci, v)) h' K
            | _ :: _, true => match effT o.op with
              | some t => ∃ Q : Value → Hp → Prop, (wOf L S ci = true → vmk P S.vals o.op h fun v h' => exRes P dy [t] fun v' => v = v' ∧ Q v' h') ∧
                  (wOf L S ci = false → exRes P dy [t] fun v' => Q v' h) ∧
                  allRes P dy [t] fun v' => ∀ h' : Hp, Q v' h' → vOps L fs pre rest (i :: done) rd (S.put o.dst (ci, v')) h' K
              | none => False
            | _, _ => False
      | _, _ => False
    | _, _ => False
end
end Go.Cn

/- The symbolic run of a region is sound. -/
set_option linter.unusedVariables false
set_option linter.unusedSimpArgs false
namespace Go.Cn
section
variable {P : Program} {L : List Oper}

theorem eqw_eq (b w : Bool) : eqw b w = (b == w) := by cases b <;> cases w <;> rfl

theorem wOf_cons (S : SS) (j : Nat) (w : Bool) (r : Ch) : wOf L S ((j, w) :: r) = ((bOf L S j == w) && wOf L S r) := by
  cases r with
  | nil => simp [wOf, eqw_eq]
  | cons x r => simp only [wOf, eqw_eq, andB]

theorem under_iff {S : SS} {ci : Ch} {c : Prop} : under L S ci c ↔ (wOf L S ci = true → c) := by
  cases ci with
  | nil => simp [under, wOf]
  | cons x r => rfl

theorem fin_eq (S : SS) (x : Ch × Value) : fin L S x = if wOf L S x.1 = true then x.2 else undef := by
  unfold fin
  split
  · rename_i h; simp [h, wOf]
  · cases wOf L S x.1 <;> rfl

/-- A chain that the state bears out. -/
def WFC (L : List Oper) (S : SS) (done : List Nat) : Ch → Prop
  | [] => True
  | (j, w) :: r => (j ∈ done ∧ ∃ d b, dstOf L j = some d ∧ d < S.length ∧ S.at d = (r, .bool b)) ∧ WFC L S done r

def InvS (L : List Oper) (S : SS) (done : List Nat) : Prop := ∀ t, WFC L S done (S.at t).1

theorem at_put (S : SS) (d : Option Tmp) (x : Ch × Value) (t : Nat) : (S.put d x).at t = if d = some t ∧ t < S.length then x else S.at t := by
  cases d with
  | none => simp [SS.put, SS.at]
  | some d =>
    simp only [SS.put, SS.at, List.getD_eq_getElem?_getD, List.getElem?_set, Option.some.injEq]
    by_cases h : d = t
    · subst h
      by_cases hl : d < S.length
      · simp [hl]
      · simp [hl]
    · simp [h]

theorem put_len (S : SS) (d : Option Tmp) (x : Ch × Value) : (S.put d x).length = S.length := by
  cases d <;> simp [SS.put]

theorem newDst_ne {o : Oper} {done : List Nat} (h : newDst L done o = true) {j d : Nat} (hj : j ∈ done) (hd : dstOf L j = some d) : o.dst ≠ some d := by
  unfold newDst at h
  cases e : o.dst with
  | none => simp
  | some d' =>
    rw [e] at h
    simp only [List.all_eq_true, decide_eq_true_eq] at h
    intro hh
    exact h j hj (by rw [hd]; exact hh.symm)

theorem WFC.put {S : SS} {done : List Nat} {o : Oper} {x : Ch × Value} {i : Nat} (hn : newDst L done o = true) : ∀ {ch : Ch}, WFC L S done ch → WFC L (S.put o.dst x) (i :: done) ch
  | [], _ => trivial
  | (j, w) :: r, ⟨⟨h1, d, b, h2, h3, h4⟩, h5⟩ => ⟨⟨by simp [h1], d, b, h2, by rw [put_len]; exact h3, by rw [at_put, if_neg (fun hh => newDst_ne hn h1 h2 hh.1)]; exact h4⟩, WFC.put hn h5⟩

theorem wOf_put {S : SS} {done : List Nat} {o : Oper} {x : Ch × Value} (hn : newDst L done o = true) : ∀ {ch : Ch}, WFC L S done ch → wOf L (S.put o.dst x) ch = wOf L S ch
  | [], _ => rfl
  | (j, w) :: r, ⟨⟨h1, d, b, h2, h3, h4⟩, h5⟩ => by
    rw [wOf_cons, wOf_cons, wOf_put hn h5]
    congr 2
    unfold bOf
    rw [h2]
    simp only
    rw [at_put, if_neg (fun hh => newDst_ne hn h1 h2 hh.1)]

theorem chainOf_spec {S : SS} {done : List Nat} (hi : InvS L S done) {o : Oper} {ci : Ch} (h : chainOf L S done o = some ci) : WFC L S done ci := by
  unfold chainOf at h
  split at h
  · simp at h; subst h; trivial
  · rename_i j w hg
    split at h
    · rename_i hd
      split at h
      · rename_i d hj
        split at h
        · rename_i hb
          simp at h; subst h
          simp only [Bool.and_eq_true, decide_eq_true_eq] at hb
          refine ⟨⟨by simpa using hd, d, boolOf (S.at d).2, hj, hb.1, ?_⟩, hi d⟩
          generalize S.at d = cv at hb ⊢
          obtain ⟨c, v⟩ := cv
          simp only at hb ⊢
          cases v <;> simp [isBool] at hb
          rfl
        · simp at h
      · simp at h
    · simp at h

theorem real_at (S : SS) (t : Nat) : (real L S).getD t undef = fin L S (S.at t) := by
  unfold real SS.at
  rw [List.getD_eq_getElem?_getD, List.getD_eq_getElem?_getD, List.getElem?_map]
  cases S[t]? with
  | none => rfl
  | some x => rfl

theorem vals_at (S : SS) (t : Nat) : S.vals.getD t undef = (S.at t).2 := by
  unfold SS.vals SS.at
  rw [List.getD_eq_getElem?_getD, List.getD_eq_getElem?_getD, List.getElem?_map]
  cases S[t]? with
  | none => rfl
  | some x => rfl

theorem real_put {S : SS} {done : List Nat} {o : Oper} {ci : Ch} {v : Value} (hi : InvS L S done) (hn : newDst L done o = true) (hc : WFC L S done ci) :
    real L (S.put o.dst (ci, v)) = put (real L S) o.dst (if wOf L S ci = true then v else undef) := by
  apply List.ext_getElem?
  intro t
  have hl1 : (real L (S.put o.dst (ci, v))).length = S.length := by simp [real, put_len]
  have hl2 : (put (real L S) o.dst (if wOf L S ci = true then v else undef)).length = S.length := by rw [put_length]; simp [real]
  by_cases ht : t < S.length
  · have e1 : (real L (S.put o.dst (ci, v)))[t]? = some ((real L (S.put o.dst (ci, v))).getD t undef) := by rw [List.getD_eq_getElem?_getD, List.getElem?_eq_getElem (by omega)]; rfl
    have e2 : (put (real L S) o.dst (if wOf L S ci = true then v else undef))[t]? = some ((put (real L S) o.dst (if wOf L S ci = true then v else undef)).getD t undef) := by rw [List.getD_eq_getElem?_getD, List.getElem?_eq_getElem (by omega)]; rfl
    rw [e1, e2, put_get, real_at, real_at, at_put]
    congr 1
    by_cases hd : o.dst = some t
    · rw [if_pos ⟨hd, ht⟩, if_pos ⟨hd, by simpa [real] using ht⟩, fin_eq, wOf_put hn hc]
    · rw [if_neg (fun hh => hd hh.1), if_neg (fun hh => hd hh.1), fin_eq, fin_eq, wOf_put hn (hi t)]
  · rw [List.getElem?_eq_none (by omega), List.getElem?_eq_none (by omega)]

theorem InvS.put {S : SS} {done : List Nat} {o : Oper} {ci : Ch} {v : Value} {i : Nat} (hi : InvS L S done) (hn : newDst L done o = true) (hc : WFC L S done ci) : InvS L (S.put o.dst (ci, v)) (i :: done) := by
  intro t
  rw [at_put]
  split
  · exact WFC.put hn hc
  · exact WFC.put hn (hi t)

theorem wOf_suffix {S : SS} : ∀ {ci r : Ch}, r <:+ ci → wOf L S ci = true → wOf L S r = true
  | [], r, h, hw => by simp at h; subst h; rfl
  | (j, w) :: ci, r, h, hw => by
    rcases List.suffix_cons_iff.1 h with h | h
    · rw [h]; exact hw
    · rw [wOf_cons] at hw
      simp only [Bool.and_eq_true] at hw
      exact wOf_suffix h hw.2

theorem okSlot_ev {S : SS} {ci : Ch} (hw : wOf L S ci = true) {x : Operand} (h : okSlot S ci x = true) : ev (real L S) x = ev S.vals x := by
  cases x with
  | tmp t =>
    simp only [okSlot, List.isSuffixOf_iff_suffix] at h
    simp only [ev]
    rw [real_at, vals_at, fin_eq, if_pos (wOf_suffix h hw)]
  | _ => rfl

theorem okArm_ev {S : SS} {ci : Ch} (hw : wOf L S ci = true) {c x : Operand} {b : Bool} (hc : ev S.vals c = .bool b) (h : okArm L S ci c b x = true) : ev (real L S) x = ev S.vals x := by
  unfold okArm at h
  rw [Bool.or_eq_true] at h
  rcases h with h | h
  · exact okSlot_ev hw h
  · split at h
    · rename_i dc t
      split at h
      · rename_i j w r hr
        simp only [Bool.and_eq_true, decide_eq_true_eq, beq_iff_eq, List.isSuffixOf_iff_suffix] at h
        obtain ⟨⟨rfl, hd⟩, hs⟩ := h
        simp only [ev] at hc ⊢
        rw [real_at, vals_at, fin_eq, hr, wOf_cons, wOf_suffix hs hw]
        have : bOf L S j = w := by
          unfold bOf
          rw [hd]
          simp only
          rw [← vals_at, hc]
          rfl
        simp [this]
      · simp at h
    · simp at h

theorem wants_real {S : SS} {done : List Nat} (hi : InvS L S done) {o : Oper} {ci : Ch} (h : chainOf L S done o = some ci) : wants L (real L S) o = some (wOf L S ci) := by
  unfold chainOf at h
  unfold wants
  split at h
  · rename_i hg; simp at h; subst h; rw [hg]; rfl
  · rename_i j w hg
    rw [hg]
    split at h
    · rename_i hdn
      split at h
      · rename_i d hj
        split at h
        · rename_i hb
          simp at h; subst h
          simp only [Bool.and_eq_true, decide_eq_true_eq] at hb
          simp only
          have hj' : (L[j]?).bind (·.dst) = some d := hj
          rw [hj']
          simp only
          rw [real_at, fin_eq, wOf_cons]
          have hbo : bOf L S j = boolOf (S.at d).2 := by unfold bOf; rw [hj]
          rw [hbo]
          generalize S.at d = cv at hb ⊢
          obtain ⟨c, v⟩ := cv
          simp only at hb ⊢
          cases v <;> simp [isBool] at hb
          rename_i b
          by_cases hwr : wOf L S c = true
          · simp [hwr, wantsV, boolOf]
          · simp [hwr, wantsV, boolOf, undef]
        · simp at h
      · simp at h
    · simp at h
end
end Go.Cn

/- The symbolic run of a region is sound: the law. -/
set_option linter.unusedVariables false
set_option linter.unusedSimpArgs false
namespace Go.Cn
section
variable {P : Program} {L : List Oper} {dy : Nat → Option TypeId}

theorem exDyn_inv {t : TypeId} {f : Value → Prop} (h : exDyn dy t f) : ∃ v, f v := by
  unfold exDyn at h
  split at h
  · obtain ⟨a, h⟩ := h; exact ⟨_, h⟩
  · exact h
theorem exFun_inv {t : TypeId} {f : Value → Prop} (h : exFun dy t f) : ∃ v, f v := by
  unfold exFun at h
  split at h
  · split at h
    · obtain ⟨a, h⟩ := h; exact ⟨_, h⟩
    · obtain ⟨a, h⟩ := h; exact ⟨_, h⟩
  · exact h
theorem exDyn_all {t : TypeId} {f g : Value → Prop} (h : exDyn dy t f) (k : allDyn dy t g) : ∃ v, f v ∧ g v := by
  unfold exDyn at h
  unfold allDyn at k
  cases hd : dy t with
  | none => simp only [hd] at h k; obtain ⟨v, h⟩ := h; exact ⟨v, h, k v⟩
  | some T => simp only [hd] at h k; obtain ⟨v, h⟩ := h; exact ⟨_, h, k v⟩
theorem exFun_all {t : TypeId} {f g : Value → Prop} (h : exFun dy t f) (k : allFun dy t g) : ∃ v, f v ∧ g v := by
  unfold exFun at h
  unfold allFun at k
  cases hd : dy t with
  | none => simp only [hd] at h k; obtain ⟨v, h⟩ := h; exact ⟨v, h, k v⟩
  | some T =>
    simp only [hd] at h k
    cases hb : Nat.beq T yldNo with
    | true => simp only [hb] at h k; obtain ⟨v, h⟩ := h; exact ⟨_, h, k v⟩
    | false => simp only [hb] at h k; obtain ⟨v, h⟩ := h; exact ⟨_, h, k v⟩

theorem exCell_inv {t : TypeId} {f : Value → Prop} (h : exCell P dy t f) : ∃ v, f v := by
  unfold exCell at h
  split at h
  · obtain ⟨b, h⟩ := h; exact ⟨_, h⟩
  · obtain ⟨b, h⟩ := h; exact ⟨_, h⟩
  · obtain ⟨b, h⟩ := h; exact ⟨_, h⟩
  · obtain ⟨a, l, c, h⟩ := h; exact ⟨_, h⟩
  · obtain ⟨a, h⟩ := h; exact ⟨_, h⟩
  · exact exDyn_inv h
  · exact exFun_inv h
  · exact h

theorem exCells_inv : ∀ {ts : List (TypeId × Nat)} {f : List Value → Prop}, exCells P dy ts f → ∃ vs, f vs
  | [], f, h => ⟨[], h⟩
  | (t, 0) :: ts, f, h => by
    obtain ⟨v, h⟩ := exCell_inv h
    obtain ⟨vs, h⟩ := exCells_inv h
    exact ⟨_, h⟩
  | (t, n + 1) :: ts, f, h => by
    unfold exCells at h
    split at h
    · obtain ⟨D, h⟩ := h
      obtain ⟨vs, h⟩ := exCells_inv h
      exact ⟨_, h⟩
    · exact h.elim

theorem exVal_inv {t : TypeId} {f : Value → List Value → Prop} (h : exVal P dy t f) : ∃ v cs, f v cs ∧ (agg? P t = some true ∧ v = .agg cs.toArray ∨ agg? P t = some false ∧ cs = [v]) := by
  unfold exVal at h
  split at h
  · rename_i ha
    split at h
    · obtain ⟨vs, h⟩ := exCells_inv h
      exact ⟨_, vs, h, .inl ⟨ha, rfl⟩⟩
    · exact h.elim
  · rename_i ha
    obtain ⟨v, h⟩ := exCell_inv h
    exact ⟨v, _, h, .inr ⟨ha, rfl⟩⟩
  · exact h.elim

theorem exResGo_inv : ∀ {ts : List TypeId} {g : List Value → Prop}, exRes.go P dy ts g → ∃ vs, g vs
  | [], g, h => ⟨[], h⟩
  | t :: ts, g, h => by
    obtain ⟨v, _, h, _⟩ := exVal_inv h
    obtain ⟨vs, h⟩ := exResGo_inv h
    exact ⟨_, h⟩

theorem exRes_inv {ts : List TypeId} {f : Value → Prop} (h : exRes P dy ts f) : ∃ v, f v := by
  unfold exRes at h
  split at h
  · obtain ⟨v, _, h, _⟩ := exVal_inv h; exact ⟨v, h⟩
  · obtain ⟨vs, h⟩ := exResGo_inv h; exact ⟨_, h⟩

theorem exCell_all {t : TypeId} {f g : Value → Prop} (h : exCell P dy t f) (k : allCell P dy t g) : ∃ v, f v ∧ g v := by
  unfold exCell at h
  unfold allCell at k
  cases hu : P.underlying t with
  | none => simp only [hu] at h k; obtain ⟨v, h⟩ := h; exact ⟨v, h, k v⟩
  | some d =>
    simp only [hu] at h k
    cases d
    case bool => obtain ⟨b, h⟩ := h; exact ⟨_, h, k b⟩
    case int => obtain ⟨b, h⟩ := h; exact ⟨_, h, k b⟩
    case string => obtain ⟨b, h⟩ := h; exact ⟨_, h, k b⟩
    case slice => obtain ⟨a, l, c, h⟩ := h; exact ⟨_, h, k a l c⟩
    case pointer => obtain ⟨a, h⟩ := h; exact ⟨_, h, k a⟩
    case interface => exact exDyn_all h k
    case func => exact exFun_all h k
    all_goals
      obtain ⟨v, h⟩ := h
      exact ⟨v, h, k v⟩

theorem exCells_all : ∀ {ts : List (TypeId × Nat)} {f g : List Value → Prop}, exCells P dy ts f → allSegs P dy ts g → ∃ vs, f vs ∧ g vs
  | [], f, g, h, k => ⟨[], h, k⟩
  | (t, 0) :: ts, f, g, h, k => by
    obtain ⟨v, h, k⟩ := exCell_all h k
    obtain ⟨vs, h, k⟩ := exCells_all h k
    exact ⟨_, h, k⟩
  | (t, n + 1) :: ts, f, g, h, k => by
    unfold exCells at h
    unfold allSegs at k
    split at h
    · rename_i e
      rw [e] at k
      obtain ⟨D, h⟩ := h
      obtain ⟨vs, h, k⟩ := exCells_all h (k D)
      exact ⟨_, h, k⟩
    · exact h.elim

theorem exVal_all {t : TypeId} {f : Value → List Value → Prop} {g : Value → Prop} (h : exVal P dy t f) (k : allVal P dy t g) : ∃ v cs, f v cs ∧ g v := by
  unfold exVal at h
  unfold allVal at k
  split at h
  · rename_i ha
    rw [ha] at k
    simp only at k
    split at h
    · rename_i ts hc
      rw [hc] at k
      obtain ⟨vs, h, k⟩ := exCells_all h k
      exact ⟨_, vs, h, k⟩
    · exact h.elim
  · rename_i ha
    rw [ha] at k
    obtain ⟨v, h, k⟩ := exCell_all h k
    exact ⟨v, _, h, k⟩
  · exact h.elim

theorem exResGo_all : ∀ {ts : List TypeId} {f g : List Value → Prop}, exRes.go P dy ts f → allRes.go P dy ts g → ∃ vs, f vs ∧ g vs
  | [], f, g, h, k => ⟨[], h, k⟩
  | t :: ts, f, g, h, k => by
    obtain ⟨v, _, h, k⟩ := exVal_all h k
    obtain ⟨vs, h, k⟩ := exResGo_all h k
    exact ⟨_, h, k⟩

theorem exRes_all {ts : List TypeId} {f g : Value → Prop} (h : exRes P dy ts f) (k : allRes P dy ts g) : ∃ v, f v ∧ g v := by
  unfold exRes at h
  unfold allRes at k
  split at h
  · obtain ⟨v, _, h, k⟩ := exVal_all h k; exact ⟨v, h, k⟩
  · rename_i hne
    split at k
    · rename_i t; exact absurd rfl (hne t)
    · obtain ⟨vs, h, k⟩ := exResGo_all h k; exact ⟨_, h, k⟩

theorem calleeV_eq {tm : List Value} {op : Op} {fa : FuncId × List Value × List TypeId} (h : calleeV P dy tm op = some fa) : callee P tm op = some (fa.1, fa.2.1) := by
  unfold calleeV at h
  unfold callee
  split at h
  · rename_i f args ts
    simp only
    split at h
    · rename_i g first captured he
      split at h
      · rename_i hf
        rw [he]
        simp only
        rw [if_pos (of_decide_eq_true hf)]
        simp only [Option.some.injEq] at h
        subst h; rfl
      · simp at h
    · rename_i l first captured he
      split at h
      · rename_i h1 h2
        rw [he]
        simp only
        have e1 : first = #[] := by simpa using h1
        have e2 : captured = #[] := by simpa using h2
        subst e1; subst e2
        rw [if_pos ⟨rfl, rfl⟩]
        simp only [Option.some.injEq] at h
        subst h; rfl
      · simp at h
    · simp at h
  · rename_i r name args ts
    simp only
    split at h
    · rename_i t v he
      split at h
      · rename_i g hm
        split at h
        · rename_i hf hu
          rw [he]
          simp only [hm]
          rw [if_pos (by rw [show decide (g < P.funcs.size) = true from hf, hu]; rfl)]
          simp only [Option.some.injEq] at h
          subst h; rfl
        · simp at h
      · simp at h
    · simp at h
  · simp at h

theorem cnext_aop {tm : List Value} {it : Operand} {h : Hp} : aop tm (.next it false) h = cnext (ev tm it) h := rfl

theorem vread_sound {tm : List Value} {op : Op} {h : Hp} {S : SS} {ci : Ch} {k : Value → (Hp → Prop) → Prop} (hk : kind P op = .read) (hx : vread P dy tm op h (under L S ci) k) :
    ∃ v p, (wOf L S ci = true → rop P tm op h = some v) ∧ k v p ∧ (wOf L S ci = true → ∀ h', p h' → rop P tm op h' = some v) := by
  unfold vread at hx
  split at hx
  · rename_i t x
    split at hx
    · rename_i a n he hs
      obtain ⟨v, cs, hx, h3⟩ := exVal_inv hx
      split at hx
      case isFalse => exact hx.elim
      rename_i hl
      obtain ⟨h1, h2⟩ := hx
      have main : ∀ h', plainA a = true ∧ h'.cellsAt (blk a) (off a) n = some cs → rop P tm (.load t x) h' = some v := by
        rintro h' ⟨hp, hc⟩
        unfold rop
        simp only [cload]
        rw [he, plainA_inv hp]
        rcases h3 with ⟨ha, rfl⟩ | ⟨ha, rfl⟩
        · simp only [ha, hs]
          simp [hc]
        · simp only [ha, hs]
          simp at hl; subst hl
          simp [hc]
      exact ⟨v, _, fun hw => main h (under_iff.1 h1 hw), h2, fun hw h' hp => main h' (under_iff.1 hp hw)⟩
    · exact hx.elim
  · rename_i src dst x
    split at hx
    · rename_i e a l c hu hd he
      split at hx
      · rename_i hu8
        obtain ⟨s, h1, h2⟩ := hx
        have main : ∀ h', readStr a l h' s → rop P tm (.convert src dst x) h' = some (.string s) := by
          intro h' hr
          unfold rop
          simp only
          rw [hu, hd, he]
          rcases hr with ⟨rfl, rfl⟩ | ⟨hs, cs, hc, hb⟩
          · simp only [hu8]
          · cases a with
            | none => simp at hs
            | some a =>
              obtain ⟨b, o, sp⟩ := a
              simp only [blk, off] at hc
              simp only [hu8, hc, hb, Option.map_some]
        exact ⟨.string s, _, fun hw => main h (under_iff.1 h1 hw), h2, fun hw h' hp => main h' (under_iff.1 hp hw)⟩
      · exact hx.elim
    · exact hx.elim
  · rename_i t x ix ok
    split at hx
    · rename_i kt et hu
      obtain ⟨v, cs, hx, _⟩ := exVal_inv hx
      cases ok with
      | true =>
        obtain ⟨b, h1, h2⟩ := hx
        exact ⟨_, _, fun hw => under_iff.1 h1 hw, h2, fun hw h' hp => under_iff.1 hp hw⟩
      | false => exact ⟨_, _, fun hw => under_iff.1 hx.1 hw, hx.2, fun hw h' hp => under_iff.1 hp hw⟩
    · exact hx.elim
  · rename_i args ats
    split at hx
    · rename_i x xs hl e
      obtain ⟨es, h1, h2⟩ := hx
      have main : ∀ h', (∃ fs : List MapEntry, mapOf h' (ev tm x) = some fs ∧ fs.length = es.length) → rop P tm (.call { callee := .builtin .len, args := args, argTypes := ats }) h' = some (.int .i64 es.length) := by
        rintro h' ⟨fs, k1, k2⟩
        unfold rop
        simp only [hl, if_true, e, k1, Option.map_some, k2]
      exact ⟨_, _, fun hw => main h ⟨es, under_iff.1 h1 hw, rfl⟩, h2, fun hw h' hp => main h' (under_iff.1 hp hw)⟩
    · exact hx.elim
  · obtain ⟨s, h1, h2⟩ := hx
    exact ⟨_, _, fun hw => under_iff.1 h1 hw, h2, fun hw h' hp => under_iff.1 hp hw⟩

theorem payV_inv {am : Nat} {h : Hp} {X : Prop} : ∀ {rd : Rd}, payV am rd h X → X ∧ ∀ i p, (i, p) ∈ rd → am.testBit i = false → p h
  | [], hx => ⟨hx, by simp⟩
  | (i, p) :: rest, hx => by
    unfold payV at hx
    split at hx
    · rename_i ht
      obtain ⟨h1, h2⟩ := payV_inv hx
      refine ⟨h1, fun j q hj hf => ?_⟩
      rcases List.mem_cons.1 hj with e | hj
      · cases e; rw [ht] at hf; simp at hf
      · exact h2 j q hj hf
    · obtain ⟨h1, h2⟩ := payV_inv hx.2
      refine ⟨h1, fun j q hj hf => ?_⟩
      rcases List.mem_cons.1 hj with e | hj
      · cases e; exact hx.1
      · exact h2 j q hj hf

theorem veff_sound {tm : List Value} {op : Op} {h : Hp} {k : Value → Hp → Prop} (hx : veff P dy tm op h k) : ∃ v h', eop P tm op h = some (v, h') ∧ k v h' := by
  unfold veff at hx
  split at hx
  · rename_i t a x
    unfold eop
    simp only
    split at hx
    · rename_i a n he hs
      split at hx
      · rename_i hsz
        obtain ⟨hp, h', hst, hx⟩ := hx
        refine ⟨undef, h', ?_, hx⟩
        rw [he, plainA_inv hp]
        simp only [hs, hsz, if_true]
        simp only [blk, off] at hst ⊢
        rw [hst]; rfl
      · exact hx.elim
    · exact hx.elim
  · obtain ⟨h', h1, h2⟩ := hx; exact ⟨_, _, by unfold eop; simp only [h1, Option.map_some], h2⟩
  · obtain ⟨h', h1, h2⟩ := hx; exact ⟨_, _, by unfold eop; simp only [h1, Option.map_some], h2⟩
  · split at hx
    · obtain ⟨v, cs, ⟨n, h', h1, h2⟩, _⟩ := exVal_inv hx
      exact ⟨_, _, h1, h2⟩
    · exact hx.elim
  · obtain ⟨h', h1, h2⟩ := hx; exact ⟨_, _, by unfold eop; simp only [h1, Option.map_some], h2⟩
  · obtain ⟨h', h1, h2⟩ := hx; exact ⟨_, _, h1, h2⟩
  · rename_i args argTypes
    unfold eop
    simp only
    split at hx
    · rename_i t ts m x e1 e2
      obtain ⟨h', h1, h2⟩ := hx; exact ⟨_, _, by rw [e1, e2]; exact h1, h2⟩
    · exact hx.elim
  · obtain ⟨a, m, n, h', h1, h2⟩ := hx; exact ⟨_, _, h1, h2⟩
  · rename_i args argTypes
    unfold eop
    simp only
    split at hx
    · rename_i t xt s x e1 e2
      obtain ⟨a, m, n, h', h1, h2⟩ := hx; exact ⟨_, _, by rw [e1, e2]; exact h1, h2⟩
    · exact hx.elim
  · rename_i args argTypes
    unfold eop
    simp only
    split at hx
    · rename_i t ts d x e1 e2
      obtain ⟨n, h', h1, h2⟩ := hx; exact ⟨_, _, by rw [e1, e2]; exact h1, h2⟩
    · exact hx.elim
  · rename_i args argTypes
    unfold eop
    simp only
    split at hx
    · rename_i t ts x e1 e2
      obtain ⟨h', h1, h2⟩ := hx; exact ⟨_, _, by rw [e1, e2]; exact h1, h2⟩
    · exact hx.elim
  · rename_i src dst x
    unfold eop
    simp only
    split at hx
    · rename_i e s hu hd he
      split at hx
      · rename_i hu8
        rw [hu, hd, he]
        simp only [hu8]
        exact ⟨_, _, rfl, hx _ rfl⟩
      · exact hx.elim
    · exact hx.elim
  · cases he : eop P tm op h with
    | none => simp [he, opt] at hx
    | some r => simp only [he, opt] at hx; exact ⟨r.1, r.2, rfl, hx _ rfl⟩

theorem vmk_sound {tm : List Value} {op : Op} {h : Hp} {k : Value → Hp → Prop} (hx : vmk P tm op h k) : ∃ v h', mkop P tm op h = some (v, h') ∧ k v h' := by
  unfold vmk at hx
  split at hx
  · rename_i e x
    split at hx
    · exact hx.elim
    · rename_i hu
      exact ⟨_, _, by simp only [mkop, mkOf]; rw [if_neg hu]; rfl, hx _ rfl⟩
  · rename_i t len parts
    split at hx
    · rename_i e hu
      split at hx
      · rename_i n z hs hz
        split at hx
        · exact hx.elim
        · rename_i hg
          cases hi : P.info? e with
          | none => simp [size?, hi] at hs
          | some i =>
            simp only [size?, hi, Option.map_some, Option.some.injEq] at hs
            simp only [zero?, hi, Option.bind_some] at hz
            subst hs
            cases hf : fillL (fun j => some (j * i.size, i.size)) (zeroCells z.cells.toList len) (parts.toList.map fun (j, x) => (j, ev tm x)) with
            | none => simp [hf, opt] at hx
            | some cs =>
              simp only [hf, opt] at hx
              refine ⟨_, _, ?_, hx _ rfl⟩
              simp only [mkop, mkOf, hu, hi, hz]
              rw [if_neg hg, hf]
              rfl
      · exact hx.elim
    · exact hx.elim
  · exact ⟨_, _, rfl, hx _ rfl⟩
  · exact hx.elim

theorem mergeV_eq {b : Bool} {x y v : Value} (h : mergeV b x y = some v) : v = if b = true then x else y := by
  unfold mergeV at h
  cases b with
  | true => split at h <;> first | (simp at h; done) | (simp [sel] at h; simp_all; done) | (split at h <;> simp [sel] at h; simp_all)
  | false => split at h <;> first | (simp at h; done) | (simp [sel] at h; simp_all; done) | (split at h <;> simp [sel] at h; simp_all)

theorem vOps_sound {pf : FuncId → Bool} {fs : List Inf} {pre : List (Option Value)} : ∀ (order : List Nat) {done : List Nat} {rd : Rd} {S : SS} {h : Hp} {owed : List Owed} {K : List Value → Hp → Prop}, InvS L S done → (∀ d ∈ owed, ∃ p, (d.idx, p) ∈ rd ∧ ∀ h', p h' → rop P d.tm d.op h' = some d.v) →
    vOps P dy (SCalls P) pf L fs pre order done rd S h K → xDraw P alP (SCalls P) L fs pre order (real L S) owed h K
  | [], done, rd, S, h, owed, K, hi, ho, hx => hx
  | i :: rest, done, rd, S, h, owed, K, hi, ho, hx => by
    have pay : ∀ {am : Nat} {h : Hp} {X r : Prop}, payV am rd h X → (X → r) → payAll P alP am h owed r := by
      intro am h X r hb hr
      obtain ⟨h1, h2⟩ := payV_inv hb
      have h1 := hr h1
      unfold payAll
      clear hb hr
      revert ho
      induction owed with
      | nil => intro _; exact h1
      | cons d l ih =>
        intro ho
        simp only [List.foldr_cons]
        have hr := ih fun d hd => ho d (by simp [hd])
        split
        · exact hr
        · rename_i hb
          obtain ⟨p, h3, h4⟩ := ho d (by simp)
          exact ⟨h4 _ (h2 _ _ h3 (by simpa using hb)), hr⟩
    simp only [vOps] at hx
    simp only [xDraw]
    split at hx
    · rename_i o f e1 e2
      rw [e1, e2]
      simp only
      split at hx
      · rename_i ci hci hnd
        have hwf := chainOf_spec hi hci
        rw [wants_real hi hci]
        simp only
        have next : ∀ {v : Value} {rd' : Rd} {h' : Hp} {owed' : List Owed}, (∀ d ∈ owed', ∃ p, (d.idx, p) ∈ rd' ∧ ∀ h', p h' → rop P d.tm d.op h' = some d.v) → vOps P dy (SCalls P) pf L fs pre rest (i :: done) rd' (S.put o.dst (ci, v)) h' K →
            xDraw P alP (SCalls P) L fs pre rest (put (real L S) o.dst (if wOf L S ci = true then v else undef)) owed' h' K := by
          intro v rd' h' owed' ho' hv
          rw [← real_put hi hnd hwf]
          exact vOps_sound rest (hi.put hnd hwf) ho' hv
        have agr : ∀ {op : Op}, op.operands.toList.all (okSlot S ci) = true → wOf L S ci = true → Agree (real L S) S.vals op := fun hop hw x hx => okSlot_ev hw (List.all_eq_true.1 hop x hx)
        split at hx
        · rename_i v hv
          rw [hv]
          exact next ho hx
        · rename_i hnone
          rw [hnone]
          simp only
          split at hx
          · rename_i hkd
            rw [hkd]
            simp only
            have pure : ∀ {v : Value}, (wOf L S ci = true → pop P (real L S) o.op = some v) → vOps P dy (SCalls P) pf L fs pre rest (i :: done) rd (S.put o.dst (ci, v)) h K →
                opt alP.bot (if wOf L S ci = true then pop P (real L S) o.op else some undef) fun v => xDraw P alP (SCalls P) L fs pre rest (put (real L S) o.dst v) owed h K := by
              intro v hp hv
              have := next ho hv
              by_cases hw : wOf L S ci = true
              · rw [if_pos hw] at this ⊢; rw [hp hw]; exact this
              · rw [if_neg hw] at this ⊢; exact this
            split at hx
            · rename_i c a b hop
              split at hx
              · rename_i t hc hok
                simp only [Bool.and_eq_true] at hok
                cases hm : mergeV t (ev S.vals a) (ev S.vals b) with
                | none => simp [hm, opt] at hx
                | some v =>
                  simp only [hm, opt] at hx
                  refine pure (fun hw => ?_) hx
                  rw [hop]
                  unfold pop
                  simp only
                  rw [okSlot_ev hw hok.1.1, hc]
                  rw [mergeV_eq hm]
                  cases t with
                  | true => simp only [if_true]; rw [okArm_ev hw hc hok.1.2]
                  | false => simp only [Bool.false_eq_true, if_false]; rw [okArm_ev hw hc hok.2]
              · exact hx.elim
            · split at hx
              · rename_i v hv hok
                refine pure (fun hw => ?_) hx
                rw [pop_congr (agr hok hw)]
                exact vpop_sound hv trivial
              · rename_i v c hv hok
                obtain ⟨h1, h2⟩ := hx
                refine pure (fun hw => ?_) h2
                rw [pop_congr (agr hok hw)]
                exact vpop_sound hv (under_iff.1 h1 hw)
              · exact hx.elim
          · rename_i hkd
            rw [hkd]
            simp only
            split at hx
            · rename_i hok
              obtain ⟨v, p, h1, h2, h3⟩ := vread_sound hkd hx
              have := next (owed' := if wOf L S ci = true then ⟨i, o.op, real L S, v⟩ :: owed else owed) (by
                intro d hd
                have old : d ∈ owed → ∃ q, (d.idx, q) ∈ (i, p) :: rd ∧ ∀ h', q h' → rop P d.tm d.op h' = some d.v := fun hd => by
                  obtain ⟨q, h4, h5⟩ := ho d hd
                  exact ⟨q, List.mem_cons_of_mem _ h4, h5⟩
                split at hd
                · rename_i hw
                  rcases List.mem_cons.1 hd with rfl | hd
                  · exact ⟨p, by simp, fun h' hp => by rw [rop_congr (agr hok hw)]; exact h3 hw h' hp⟩
                  · exact old hd
                · exact old hd) h2
              by_cases hw : wOf L S ci = true
              · rw [if_pos hw, if_pos hw] at this
                rw [if_pos hw, rop_congr (agr hok hw), h1 hw]
                simp only [hw, if_true]
                exact this
              · rw [if_neg hw, if_neg hw] at this
                rw [if_neg hw]
                simp only [hw]
                exact this
            · exact hx.elim
          · rename_i hkd
            rw [hkd]
            simp only
            split at hx
            · rename_i hok
              obtain ⟨v, h', h1, h2⟩ := veff_sound hx
              have hw : wOf L S [] = true := rfl
              rw [if_pos hw, eop_congr (agr hok hw), h1]
              refine pay h2 fun h2 => ?_
              have := next ho h2
              rw [if_pos hw] at this
              exact this
            · rename_i c0 cr hok
              split at hx
              · rename_i ty hty
                obtain ⟨Q, hx1, hx2, hx3⟩ := hx
                by_cases hw : wOf L S (c0 :: cr) = true
                · rw [if_pos hw, eop_congr (agr hok hw)]
                  obtain ⟨v, h', h1, h2⟩ := veff_sound (hx1 hw)
                  rw [h1]
                  obtain ⟨v', ⟨rfl, h3⟩, h4⟩ := exRes_all h2 hx3
                  refine pay (h4 _ h3) fun h5 => ?_
                  have := next ho h5
                  rw [if_pos hw] at this
                  exact this
                · rw [if_neg hw]
                  obtain ⟨v', h3, h4⟩ := exRes_all (hx2 (by simpa using hw)) hx3
                  refine pay (h4 _ h3) fun h5 => ?_
                  have := next ho h5
                  rw [if_neg hw] at this
                  exact this
              · exact hx.elim
            · exact hx.elim
          · rename_i hkd
            rw [hkd]
            simp only
            split at hx
            · rename_i fa hcv hok
              have hca := calleeV_eq hcv
              split at hx
              · have hw : wOf L S [] = true := rfl
                rw [if_pos hw, callee_congr (agr hok hw), hca]
                refine hx.mono fun v h' hv => ?_
                obtain ⟨v', rfl, h2⟩ := exRes_inv hv
                refine pay h2 fun h2 => ?_
                have := next ho h2
                rw [if_pos hw] at this
                exact this
              · split at hx
                · obtain ⟨v', h1, h2⟩ := exRes_inv hx
                  by_cases hw : wOf L S ci = true
                  · rw [if_pos hw]
                    rw [callee_congr (agr hok hw), hca]
                    refine (h1 hw).mono fun v h' hv => ?_
                    obtain ⟨rfl, rfl⟩ := hv
                    refine pay h2 fun h2 => ?_
                    have := next ho h2
                    rw [if_pos hw] at this
                    exact this
                  · rw [if_neg hw]
                    refine pay h2 fun h2 => ?_
                    have := next ho h2
                    rw [if_neg hw] at this
                    exact this
                · obtain ⟨Q, hx1, hx2, hx3⟩ := hx
                  by_cases hw : wOf L S ci = true
                  · rw [if_pos hw, callee_congr (agr hok hw), hca]
                    refine (hx1 hw).mono fun v h' hv => ?_
                    obtain ⟨v', ⟨rfl, h1⟩, h2⟩ := exRes_all hv hx3
                    refine pay (h2 _ h1) fun h2 => ?_
                    have := next ho h2
                    rw [if_pos hw] at this
                    exact this
                  · rw [if_neg hw]
                    obtain ⟨v', h1, h2⟩ := exRes_all (hx2 (by simpa using hw)) hx3
                    refine pay (h2 _ h1) fun h2 => ?_
                    have := next ho h2
                    rw [if_neg hw] at this
                    exact this
            · exact hx.elim
          · rename_i hkd
            rw [hkd]
            simp only
            split at hx
            · rename_i it d hop0 hok0 hdst0
              have hop : o.op = .next it false := by assumption
              have hok : o.op.operands.toList.all (okSlot S []) = true := by assumption
              have hw : wOf L S [] = true := rfl
              split at hx
              · rename_i kt et hmap
                obtain ⟨l, hl, hr⟩ := hx
                rw [if_pos hw, aop_congr (agr hok hw), hop]
                rw [cnext_aop, hl]
                intro r hr'
                obtain ⟨x, hx, rfl⟩ := List.mem_map.1 hr'
                rcases hr x hx with ⟨e, h2⟩ | h2
                · refine pay h2 fun h2 => ?_
                  have := next ho h2
                  rw [if_pos hw] at this
                  rw [e]; exact this
                · obtain ⟨key, _, h2, _⟩ := exVal_inv h2
                  obtain ⟨val, _, ⟨e, h2⟩, _⟩ := exVal_inv h2
                  refine pay h2 fun h2 => ?_
                  have := next ho h2
                  rw [if_pos hw] at this
                  rw [e]; exact this
              · exact hx.elim
            · exact hx.elim
          · rename_i hkd
            rw [hkd]
            simp only
            split at hx
            · rename_i hok
              obtain ⟨v, h', h1, h2⟩ := vmk_sound hx
              have hw : wOf L S [] = true := rfl
              rw [if_pos hw, mkop_congr (agr hok hw), h1]
              have := next ho h2
              rw [if_pos hw] at this
              exact this
            · rename_i c0 cr hok
              split at hx
              · rename_i ty hty
                obtain ⟨Q, hx1, hx2, hx3⟩ := hx
                by_cases hw : wOf L S (c0 :: cr) = true
                · rw [if_pos hw, mkop_congr (agr hok hw)]
                  obtain ⟨v, h', h1, h2⟩ := vmk_sound (hx1 hw)
                  rw [h1]
                  obtain ⟨v', ⟨rfl, h3⟩, h4⟩ := exRes_all h2 hx3
                  have := next ho (h4 _ h3)
                  rw [if_pos hw] at this
                  exact this
                · rw [if_neg hw]
                  obtain ⟨v', h3, h4⟩ := exRes_all (hx2 (by simpa using hw)) hx3
                  have := next ho (h4 _ h3)
                  rw [if_neg hw] at this
                  exact this
              · exact hx.elim
            · exact hx.elim
      · exact hx.elim
    · exact hx.elim
end
end Go.Cn

/- The symbolic run of code: definition, and that it is sound. -/
set_option linter.unusedVariables false
set_option linter.unusedSimpArgs false
namespace Go.Cn
section
variable (P : Program)

/-- Infos of a region in the text's order: all that is ahead is surely ahead. -/
def freeInf (n : Nat) : List Inf := List.replicate n ⟨0, 2 ^ n - 1, 0, 0, false⟩

def hasV : Option Value → Bool
  | some _ => true
  | none => false

def lessN (a b : Nat) : Prop := a < b

variable (dy : Nat → Option TypeId)

def shapedB (t : TypeId) (v : Value) : Bool :=
  match P.underlying t with
  | some (.interface _) => match dy t with
    | none => true
    | some T => match v with
      | .iface T' (.pointer _) => Nat.beq T' T
      | _ => false
  | some (.func _ _ _) => match dy t with
    | none => true
    | some g => match Nat.beq g yldNo, v with
      | true, .func (.yield _) ⟨[]⟩ ⟨[]⟩ => true
      | false, .func (.func g') ⟨[]⟩ _ => Nat.beq g' g
      | _, _ => false
  | u => match u, v with
    | some .bool, .bool _ => true
    | some (.int k), .int k' _ => k == k'
    | some .string, .string _ => true
    | some (.slice _), .slice _ _ _ => true
    | some (.pointer _), .pointer _ => true
    | _, _ => false

/-- A closed test. -/
def guardB (b : Bool) (X : Prop) : Prop :=
  match b with
  | true => X
  | false => False

def shapedAll : List TypeId → List Value → Bool
  | [], [] => true
  | t :: ts, v :: vs => shapedB P dy t v && shapedAll ts vs
  | _, _ => false

/-- What a text lays down on the types of interfaces' and function values. -/
def dyOf (shp : Nat → List (Tmp × TypeId)) (n : Nat) : Option TypeId := (shp (2000000 + n)).head?.map (·.2)

/-- The jumps that leave a piece of code: returns (none) and exits. -/
def addX (x : Option Nat) (l : List (Option Nat)) : List (Option Nat) := if l.contains x then l else x :: l
def exitsOf : Code → List (Option Nat) → List (Option Nat)
  | .seq a b, l => exitsOf a (exitsOf b l)
  | .cond _ a b, l => exitsOf a (exitsOf b l)
  | .block id c, l => ((exitsOf c []).filter (fun x => !(x == some id))).foldl (fun l x => addX x l) l
  | .loop c, l => exitsOf c l
  | .scope c, l => exitsOf c l
  | .exit id, l => addX (some id) l
  | .ret, l => addX none l
  | _, l => l
def codeX : Option Nat → Code
  | none => .ret
  | some id => .exit id
def exitX : Option Nat → Exit
  | none => .ret
  | some id => .exit id

/-! A range over a function: its record, before a round, in a round, left by a jump, at its end. -/
def Lp.isReady (r : Lp) : Prop := r.state = .ready ∧ r.pending = none
def Lp.busy (r : Lp) : Lp := { r with state := .busy }
def Lp.left (r : Lp) (x : Option Nat) : Lp := { r with state := .done, pending := some (codeX x) }
def Lp.gone (r : Lp) : Lp := { r with state := .exhausted }

/-- A round's end. -/
def endV (l : Nat) (r : Lp) (K : Value → Hp → Prop) (e : Exit) (h : Hp) : Prop :=
  match e with
  | .normal => loopAt h l = some r.busy ∧ ∀ h' : Hp, h' = h.setOb l (.loop r) → K (.bool true) h'
  | .ret => loopAt h l = some r.busy ∧ ∀ h' : Hp, h' = h.setOb l (.loop (r.left none)) → K (.bool false) h'
  | .exit id => loopAt h l = some r.busy ∧ ∀ h' : Hp, h' = h.setOb l (.loop (r.left (some id))) → K (.bool false) h'
  | _ => False

/-- Behind a range over a function: it came to its end, or a round left it. -/
def leaveV (l : Nat) (r : Lp) (k : Exit → Hp → Prop) (h : Hp) : List (Option Nat) → Prop
  | [] => loopAt h l = some r ∧ ∀ h' : Hp, h' = h.setOb l (.loop r.gone) → k .normal h'
  | x :: xs => (loopAt h l = some (r.left x) ∧ ∀ h' : Hp, h' = h.setOb l (.loop (r.left x).gone) → k (exitX x) h') ∨ leaveV l r k h xs

variable (C : FuncId → List Value → Hp → (Value → Hp → Prop) → Prop) (pf : FuncId → Bool)

/-- shp: of each loop, the slots that it carries on from round to round, and their types. -/
def vC (shp : Nat → List (Tmp × TypeId)) (top : Bool) : Code → (Exit → List Value → Hp → Prop) → List Value → Hp → Prop
  | .skip, k, tm, h => k .normal tm h
  | .region _ ops false, k, tm, h => vOps P (dyOf shp) C pf ops.toList (freeInf ops.size) [] (List.range ops.size) [] [] (tm.map fun v => ([], v)) h fun tm h => k .normal tm h
  | .region _ ops true, k, tm, h =>
    match orderOk (infos P ops.toList) (greedy (infos P ops.toList) ops.toList.length (List.range ops.toList.length) 0) [] 0 0, preAlloc P ops.toList h with
    | true, some r =>
      match r.1.any hasV with
      | false => vOps P (dyOf shp) C pf ops.toList (infos P ops.toList) r.1 (greedy (infos P ops.toList) ops.toList.length (List.range ops.toList.length) 0) [] [] (tm.map fun v => ([], v)) r.2 fun tm h => k .normal tm h
      | true => ∀ h' : Hp, h' = r.2 → vOps P (dyOf shp) C pf ops.toList (infos P ops.toList) r.1 (greedy (infos P ops.toList) ops.toList.length (List.range ops.toList.length) 0) [] [] (tm.map fun v => ([], v)) h' fun tm h => k .normal tm h
    | _, _ => False
  | .seq a b, k, tm, h =>
    match shp (joinId b) with
    | [] => vC shp top a (fun e tm h => match e with
      | .normal => vC shp top b k tm h
      | e => k e tm h) tm h
    | s :: ss =>
      let kp := (s :: ss).map (·.1)
      let ts := (s :: ss).map (·.2)
      let tm0 := forget (wr a) kp tm
      ∃ J : List Value → Hp → Prop, vC shp top a (fun e tm' h' => match e with
          | .normal => guardB (shapedAll P (dyOf shp) ts (kp.map fun t => tm'.getD t undef)) (J (kp.map fun t => tm'.getD t undef) h')
          | e => k e tm' h') tm h ∧
        allCells P (dyOf shp) ts fun vals => ∀ h : Hp, J vals h → vC shp top b k (setKeep kp vals 0 tm0) h
  | .cond c a b, k, tm, h =>
    match ev tm c with
    | .bool t => if t = true then vC shp top a k tm h else vC shp top b k tm h
    | _ => False
  | .block id c, k, tm, h => vC shp top c (fun e tm h => match e with
      | .exit i => if i = id then k .normal tm h else k (.exit i) tm h
      | e => k e tm h) tm h
  | .loop c, k, tm, h =>
    let kp := (shp ((firstRegion c).getD 0)).map (·.1)
    let ts := (shp ((firstRegion c).getD 0)).map (·.2)
    let tm0 := forget (wr c) kp tm
    match keepAll kp with
    | true => False
    | false =>
    ∃ I : List Value → Nat → Hp → Prop, (guardB (shapedAll P (dyOf shp) ts (kp.map fun t => tm.getD t undef)) (∃ m, I (kp.map fun t => tm.getD t undef) m h)) ∧
      allCells P (dyOf shp) ts fun vals => ∀ (m : Nat) (h : Hp), I vals m h → vC shp top c (fun e tm' h' => match e with
        | .normal => guardB (shapedAll P (dyOf shp) ts (kp.map fun t => tm'.getD t undef)) (∃ m', lessN m' m ∧ I (kp.map fun t => tm'.getD t undef) m' h')
        | e => k e tm' h') (setKeep kp vals 0 tm0) h
  | .exit id, k, tm, h => k (.exit id) tm h
  | .ret, k, tm, h => k .ret tm h
  | .label _, k, tm, h => k .normal tm h
  | .scope c, k, tm, h => vC shp top c (fun e tm h => match e with
      | .goto _ => False
      | e => k e tm h) tm h
  | .rangeFunc g ps asg body, k, tm, h =>
    match top, ev tm g with
    | true, .func (.func f) first captured =>
      match fitsF P f, Nat.beq (shp (4000000 + (firstRegion body).getD 0)).length ps.size with
      | true, true => ∀ (r0 : Lp) (h0 : Hp), r0.isReady → h0 = h.newOb (.loop r0) →
          (allRes.go P (dyOf shp) ((shp (4000000 + (firstRegion body).getD 0)).map (·.2)) fun vs => ∀ (h1 : Hp) (K1 : Value → Hp → Prop), loopAt h1 h.next = some r0 →
            vC shp false asg (fun e tm h2 => match e with
              | .normal => loopAt h2 h.next = some r0 ∧ ∀ h3 : Hp, h3 = h2.setOb h.next (.loop r0.busy) → vC shp false body (fun e _ h' => endV h.next r0 K1 e h') tm h3
              | _ => False) (setArgs ps.toList vs tm) h1 → C (yld P h.next) vs h1 K1) →
          C f (first.toList ++ [.func (.yield h.next) #[] #[]] ++ captured.toList) h0 fun _ h' => leaveV h.next r0 (fun e h => k e tm h) h' (exitsOf body [])
      | _, _ => False
    | _, _ => False
  | _, _, _, _ => False

/-- A function's results. -/
def vRes (tm : List Value) (h : Hp) : List ResultVar → (List Value → Prop) → Prop
  | [], k => k []
  | .tmp t :: rs, k => vRes tm h rs fun vs => k (tm.getD t undef :: vs)
  | .cell a t :: rs, k =>
    match tm.getD a undef, size? P t with
    | .pointer p, some n => exVal P dy t fun v cs => if cs.length = n then (plainA p = true ∧ h.cellsAt (blk p) (off p) n = some cs) ∧ vRes tm h rs fun vs => k (v :: vs) else False
    | _, _ => False

def oneOf : List Value → Value
  | [v] => v
  | vs => .tuple vs.toArray

def vBody (shp : Nat → List (Tmp × TypeId)) (fn : Func) (c : Code) (args : List Value) (h : Hp) (K : Value → Hp → Prop) : Prop :=
  vC P C pf shp true c (fun e tm' h' => match e with
    | .normal | .ret => vRes P (dyOf shp) tm' h' fn.results.toList fun vs => K (oneOf vs) h'
    | _ => False) (args ++ List.replicate (fn.ntmps - args.length) undef) h
end

section
variable {P : Program}

theorem guardB_inv {b : Bool} {X : Prop} (h : guardB b X) : b = true ∧ X := by
  cases b with
  | true => exact ⟨rfl, h⟩
  | false => exact h.elim

variable {dy : Nat → Option TypeId}

theorem allCell_of {t : TypeId} {f : Value → Prop} (h : allCell P dy t f) {v : Value} (hs : shapedB P dy t v = true) : f v := by
  unfold allCell at h
  unfold shapedB at hs
  cases hu : P.underlying t with
  | none => simp [hu] at hs
  | some d =>
    cases d
    case interface =>
      simp only [hu] at h hs
      unfold allDyn at h
      cases hd : dy t with
      | none => simp only [hd] at h; exact h v
      | some T =>
        simp only [hd] at h hs
        split at hs
        · rename_i T' a
          have := Nat.eq_of_beq_eq_true hs
          subst this
          exact h a
        · simp at hs
    case func =>
      simp only [hu] at h hs
      unfold allFun at h
      cases hd : dy t with
      | none => simp only [hd] at h; exact h v
      | some g =>
        simp only [hd] at h hs
        split at hs
        · rename_i l hb
          simp only [hb] at h
          exact h _
        · rename_i g' cs hb
          simp only [hb] at h
          have := Nat.eq_of_beq_eq_true hs
          subst this
          exact h cs.toList
        · simp at hs
    all_goals
      simp only [hu] at h hs
      cases v <;> simp at hs
      all_goals first | exact h _ | exact h _ _ _ | (subst hs; exact h _)

theorem allCells_of : ∀ {ts : List TypeId} {f : List Value → Prop}, allCells P dy ts f → ∀ {vs : List Value}, shapedAll P dy ts vs = true → f vs
  | [], f, h, vs, hs => by
    cases vs with
    | nil => exact h
    | cons v vs => simp [shapedAll] at hs
  | t :: ts, f, h, vs, hs => by
    cases vs with
    | nil => simp [shapedAll] at hs
    | cons v vs =>
      simp only [shapedAll, Bool.and_eq_true] at hs
      exact allCells_of (allCell_of h hs.1) hs.2

theorem allDyn_in {t : TypeId} {f : Value → Prop} (h : ∀ v, f v) : allDyn dy t f := by
  unfold allDyn; split <;> intros <;> exact h _
theorem allFun_in {t : TypeId} {f : Value → Prop} (h : ∀ v, f v) : allFun dy t f := by
  unfold allFun
  split
  · split <;> intros <;> exact h _
  · intros; exact h _
theorem allCell_in {t : TypeId} {f : Value → Prop} (h : ∀ v, f v) : allCell P dy t f := by
  unfold allCell
  split <;> first | exact allDyn_in h | exact allFun_in h | (intros; exact h _)
theorem allSegs_in : ∀ {ts : List (TypeId × Nat)} {f : List Value → Prop}, (∀ vs, f vs) → allSegs P dy ts f
  | [], f, h => h []
  | (t, 0) :: ts, f, h => allCell_in fun v => allSegs_in fun vs => h _
  | (t, n + 1) :: ts, f, h => by
    unfold allSegs
    split
    · intro D; exact allSegs_in fun vs => h _
    · trivial
theorem allVal_in {t : TypeId} {f : Value → Prop} (h : ∀ v, f v) : allVal P dy t f := by
  unfold allVal
  split
  · split
    · exact allSegs_in fun vs => h _
    · trivial
  · exact allCell_in h
  · trivial
theorem allResGo_in : ∀ {ts : List TypeId} {f : List Value → Prop}, (∀ vs, vs.length = ts.length → f vs) → allRes.go P dy ts f
  | [], f, h => h [] rfl
  | t :: ts, f, h => by
    unfold allRes.go
    exact allVal_in fun v => allResGo_in fun vs hl => h (v :: vs) (by simp [hl])

theorem leaveV_ok {l : Nat} {r0 : Lp} {k : Exit → Hp → Prop} {K : Exit → List Value → Hp → Prop} {tm : List Value} {h' : Hp} (hr : r0.isReady) (hk : ∀ e h, k e h → K e tm h) : ∀ xs, leaveV l r0 k h' xs → leaveX False l tm K h'
  | [], hx => by
    obtain ⟨h1, h2⟩ := hx
    obtain ⟨st, pd, fn, tm0, ps, asg, bd⟩ := r0
    obtain ⟨q1, q2⟩ := hr
    simp only at q1 q2
    subst q1; subst q2
    unfold leaveX
    rw [h1]
    exact hk _ _ (h2 _ rfl)
  | x :: xs, hx => by
    rcases hx with ⟨h1, h2⟩ | hx
    · unfold leaveX
      rw [h1]
      cases x with
      | none => exact hk _ _ (h2 _ rfl)
      | some id => exact hk _ _ (h2 _ rfl)
    · exact leaveV_ok hr hk xs hx

theorem payAll_drop {am : Nat} {h : Hp} {r : Prop} : ∀ {owed : List Owed}, payAll P alP am h owed r → r
  | [], hx => hx
  | d :: owed, hx => by
    unfold payAll at hx
    simp only [List.foldr_cons] at hx
    split at hx
    · exact payAll_drop hx
    · exact payAll_drop hx.2

theorem xOps_of_xDraw {L : List Oper} {fs : List Inf} {K : List Value → Hp → Prop} : ∀ (n i : Nat) {tm : List Value} {owed : List Owed} {h : Hp}, i + n = L.length →
    xDraw P alP (SCalls P) L fs [] (List.range' i n) tm owed h K → xOps P alP (SCalls P) L (L.drop i) tm h K
  | 0, i, tm, owed, h, hn, hx => by
    rw [List.drop_eq_nil_of_le (by omega)]
    exact hx
  | n + 1, i, tm, owed, h, hn, hx => by
    have hlt : i < L.length := by omega
    rw [List.drop_eq_getElem_cons hlt]
    rw [List.range'_succ] at hx
    simp only [xDraw] at hx
    simp only [xOps, stepX]
    have ih := fun {tm} {owed} {h} => xOps_of_xDraw (L := L) (fs := fs) (K := K) n (i + 1) (tm := tm) (owed := owed) (h := h) (by omega)
    have e1 : L[i]? = some L[i] := List.getElem?_eq_getElem hlt
    rw [e1] at hx
    have ho : ∀ {α : Type} {x : Option α} {f g : α → Prop}, opt alP.bot x f → (∀ a, f a → g a) → opt alP.bot x g := by
      intro α x f g hx hfg
      cases x with
      | none => exact hx
      | some a => exact hfg a hx
    cases hf : fs[i]? with
    | none => simp [hf, alP] at hx
    | some f =>
      simp only [hf] at hx
      split at hx
      · exact hx.elim
      · rename_i w hw
        simp only [hw, List.getD_nil] at hx ⊢
        split at hx
        · exact ho hx fun v hv => ih hv
        · exact ho hx fun v hv => ih hv
        · exact ho hx fun r hr => ih (payAll_drop hr)
        · cases w with
          | true => simp only [if_true] at hx ⊢; exact ho hx fun fa hc => hc.mono fun v h' hr => ih (payAll_drop hr)
          | false => simp only [Bool.false_eq_true, if_false] at hx ⊢; exact ih (payAll_drop hx)
        · cases w with
          | true =>
            simp only [if_true] at hx ⊢
            refine ho hx fun l hl r hr => ?_
            obtain ⟨x, hx, rfl⟩ := List.mem_map.1 hr
            exact ih (payAll_drop (hl _ (List.mem_map.2 ⟨x, hx, rfl⟩)))
          | false => simp only [Bool.false_eq_true, if_false] at hx ⊢; exact ih (payAll_drop hx)
        · exact ho hx fun r hr => ih hr

theorem real_plain {L : List Oper} (tm : List Value) : real L (tm.map fun v => (([], v) : Ch × Value)) = tm := by
  unfold real
  rw [List.map_map]
  conv => rhs; rw [← List.map_id tm]
  apply List.map_congr_left
  intro v _
  rfl

theorem invS_plain {L : List Oper} (tm : List Value) : InvS L (tm.map fun v => (([], v) : Ch × Value)) [] := by
  intro t
  unfold SS.at
  rw [List.getD_eq_getElem?_getD, List.getElem?_map]
  cases tm[t]? with
  | none => trivial
  | some v => trivial

theorem loop_rule {body : (Exit → List Value → Hp → Prop) → List Value → Hp → Prop} {kp : List Tmp} {K : Exit → List Value → Hp → Prop} {J : List Value → Nat → Hp → Prop}
    (hb : ∀ (vals : List Value) (m : Nat) (h : Hp) (k : Exit → List Value → Hp → Prop), J vals m h → (∀ m' tm' h', m' < m → J (kp.map fun t => tm'.getD t undef) m' h' → k .normal tm' h') → (∀ e tm' h', e ≠ .normal → K e tm' h' → k e tm' h') → body k vals h) :
    ∀ (n : Nat) (vals : List Value) (m : Nat) (h : Hp), m < n → J vals m h → loopX False body kp K n vals h
  | 0, vals, m, h, hm, hj => absurd hm (Nat.not_lt_zero _)
  | n + 1, vals, m, h, hm, hj => by
    unfold loopX
    refine hb vals m h _ hj ?_ ?_
    · intro m' tm' h' hlt hj'
      exact loop_rule hb n _ m' h' (by omega) hj'
    · intro e tm' h' hne hk
      cases e with
      | normal => exact absurd rfl hne
      | _ => exact hk

theorem vC_sound (hm : P.follows .mixedOrders = true) {pf : FuncId → Bool} {shp : Nat → List (Tmp × TypeId)} : ∀ (c : Code) {cx : Cx} {top : Bool} (hcx : top = true → cx.ro = none) {k K : Exit → List Value → Hp → Prop} {tm : List Value} {h : Hp}, (∀ e tm h, k e tm h → K e tm h) → vC P (SCalls P) pf shp top c k tm h →
    xC P alP (SCalls P) cx (fun i => (shp i).map (·.1)) c K tm h
  | .skip, cx, top, hcx, k, K, tm, h, hk, hx => hk _ _ _ hx
  | .exit id, cx, top, hcx, k, K, tm, h, hk, hx => hk _ _ _ hx
  | .ret, cx, top, hcx, k, K, tm, h, hk, hx => hk _ _ _ hx
  | .label l, cx, top, hcx, k, K, tm, h, hk, hx => hk _ _ _ hx
  | .region id ops false, cx, top, hcx, k, K, tm, h, hk, hx => by
    have := vOps_sound _ (invS_plain tm) (owed := []) (by simp) hx
    rw [real_plain, List.range_eq_range'] at this
    have h2 := xOps_of_xDraw ops.size 0 (by simp) this
    have mono : ∀ {rest : List Oper} {tm : List Value} {h : Hp} {K K' : List Value → Hp → Prop}, (∀ tm h, K tm h → K' tm h) → xOps P alP (SCalls P) ops.toList rest tm h K → xOps P alP (SCalls P) ops.toList rest tm h K' := by
      intro rest
      induction rest with
      | nil => intro tm h K K' hk hx; exact hk _ _ hx
      | cons o rest ih => intro tm h K K' hk hx; simp only [xOps] at hx ⊢; exact stepX_mono hx fun v h' => ih hk
    exact mono (fun tm h => hk _ _ _) (by simpa using h2)
  | .region id ops true, cx, top, hcx, k, K, tm, h, hk, hx => by
    simp only [vC] at hx
    split at hx
    · rename_i r ho hp
      have hx : vOps P (dyOf shp) (SCalls P) pf ops.toList (infos P ops.toList) r.1 (greedy (infos P ops.toList) ops.toList.length (List.range ops.toList.length) 0) [] [] (tm.map fun v => ([], v)) r.2 fun tm h => k .normal tm h := by
        split at hx
        · exact hx
        · exact hx _ rfl
      have := vOps_sound _ (invS_plain tm) (owed := []) (by simp) hx
      rw [real_plain] at this
      simp only [xC, xRegion]
      rw [if_pos ho, hp]
      exact xDraw_mono (fun tm h => hk _ _ _) this
    · exact hx.elim
  | .seq x y, cx, top, hcx, k, K, tm, h, hk, hx => by
    simp only [vC] at hx
    split at hx
    · rename_i hs
      refine vC_sound hm x hcx ?_ hx
      intro e tm h he
      cases e with
      | normal =>
        simp only [hs, List.map_nil, joinT]
        exact vC_sound hm y hcx hk he
      | _ => exact hk _ _ _ he
    · rename_i s ss hs
      obtain ⟨J, hx, hj⟩ := hx
      refine vC_sound hm x hcx ?_ hx
      intro e tm' h' he
      cases e with
      | normal =>
        obtain ⟨hsh, hJ⟩ := guardB_inv he
        simp only [hs, List.map_cons, joinT]
        exact vC_sound hm y hcx hk (allCells_of hj hsh _ hJ)
      | exit i => exact hk _ _ _ he
      | goto l => exact hk _ _ _ he
      | ret => exact hk _ _ _ he
      | panic x => exact hk _ _ _ he
      | outgrown => exact hk _ _ _ he
  | .cond c x y, cx, top, hcx, k, K, tm, h, hk, hx => by
    simp only [vC] at hx
    simp only [xC]
    split at hx
    · rename_i t he
      rw [he]
      simp only
      split at hx
      · rename_i ht; rw [if_pos ht]; exact vC_sound hm x hcx hk hx
      · rename_i ht; rw [if_neg ht]; exact vC_sound hm y hcx hk hx
    · exact hx.elim
  | .block id c, cx, top, hcx, k, K, tm, h, hk, hx => by
    refine vC_sound hm c hcx ?_ hx
    intro e tm h he
    cases e with
    | exit i =>
      simp only at he ⊢
      split at he
      · rename_i hi; rw [if_pos hi]; exact hk _ _ _ he
      · rename_i hi; rw [if_neg hi]; exact hk _ _ _ he
    | _ => exact hk _ _ _ he
  | .loop c, cx, top, hcx, k, K, tm, h, hk, hx => by
    simp only [vC] at hx
    simp only [xC]
    split at hx
    · exact hx.elim
    rename_i hka
    rw [if_neg (by rw [hka]; simp)]
    obtain ⟨I, h0, hb⟩ := hx
    obtain ⟨h0, m, hi⟩ := guardB_inv h0
    refine ⟨m + 1, ?_⟩
    refine loop_rule (J := fun vals m h => shapedAll P (dyOf shp) ((shp ((firstRegion c).getD 0)).map (·.2)) vals = true ∧ I vals m h) ?_ (m + 1) _ m h (Nat.lt_succ_self m) ⟨h0, hi⟩
    intro vals m h k' ⟨hs, hj⟩ hn hother
    refine vC_sound hm c hcx ?_ (allCells_of hb hs m h hj)
    intro e tm' h' he
    cases e with
    | normal =>
      obtain ⟨hs', m', hlt, hj'⟩ := guardB_inv he
      exact hn m' tm' h' hlt ⟨hs', hj'⟩
    | exit i => exact hother _ _ _ (by simp) (hk _ _ _ he)
    | goto l => exact hother _ _ _ (by simp) (hk _ _ _ he)
    | ret => exact hother _ _ _ (by simp) (hk _ _ _ he)
    | panic x => exact hother _ _ _ (by simp) (hk _ _ _ he)
    | outgrown => exact hother _ _ _ (by simp) (hk _ _ _ he)
  | .rangeFunc g ps asg body, cx, top, hcx, k, K, tm, h, hk, hx => by
    simp only [vC] at hx
    split at hx
    · rename_i f first captured he
      split at hx
      · rename_i hf hlen
        simp only [xC]
        have hok : cx.ok h = true := by unfold Cx.ok; rw [hcx rfl]
        rw [if_pos hok, he]
        simp only
        rw [if_pos (of_decide_eq_true hf)]
        refine (hx ⟨.ready, none, cx.me, tm, ps.toList, asg, body⟩ _ ⟨rfl, rfl⟩ rfl (allResGo_in fun vs hvs h1 K1 hl1 hround => ?_)).mono fun v h' hv => leaveV_ok ⟨rfl, rfl⟩ (fun e h he => hk _ _ _ he) _ hv
        refine SCalls_of_round hm (ann := fun _ i => (shp i).map (·.1)) ?_
        unfold roundX
        rw [hl1]
        simp only
        rw [if_pos (by
          have := Nat.eq_of_beq_eq_true hlen
          simp only [List.length_map] at hvs
          simp only [Array.length_toList]
          omega)]
        refine vC_sound hm asg (by simp) ?_ hround
        intro e tm2 h2 he2
        cases e with
        | normal =>
          obtain ⟨hl2, hb⟩ := he2
          simp only
          rw [hl2]
          simp only [if_true]
          refine vC_sound hm body (by simp) ?_ (hb _ rfl)
          intro e tm3 h3 he3
          unfold endX
          cases e with
          | normal => obtain ⟨q1, q2⟩ := he3; rw [q1]; exact q2 _ rfl
          | ret => obtain ⟨q1, q2⟩ := he3; rw [q1]; exact q2 _ rfl
          | exit id => obtain ⟨q1, q2⟩ := he3; rw [q1]; exact q2 _ rfl
          | _ => exact he3.elim
        | _ => exact he2.elim
      · exact hx.elim
    · exact hx.elim
  | .scope c, cx, top, hcx, k, K, tm, h, hk, hx => by
    refine vC_sound hm c hcx ?_ hx
    intro e tm h he
    cases e with
    | goto l => exact he.elim
    | _ => exact hk _ _ _ he
  | .goto l, cx, top, hcx, k, K, tm, h, hk, hx => hx.elim
  | .refuse s, cx, top, hcx, k, K, tm, h, hk, hx => hx.elim

theorem vRes_inv {tm : List Value} {h : Hp} : ∀ (rs : List ResultVar) {k : List Value → Prop}, vRes P dy tm h rs k → ∃ vs, rs.mapM (resG P tm h) = some vs ∧ k vs
  | [], k, hx => ⟨[], rfl, hx⟩
  | .tmp t :: rs, k, hx => by
    obtain ⟨vs, h1, h2⟩ := vRes_inv rs hx
    exact ⟨_ :: vs, by simp [List.mapM_cons, resG, h1], h2⟩
  | .cell a t :: rs, k, hx => by
    unfold vRes at hx
    split at hx
    · rename_i p n he hs
      obtain ⟨v, cs, hx, h3⟩ := exVal_inv hx
      split at hx
      · rename_i hl
        obtain ⟨⟨hp, hc⟩, hx⟩ := hx
        obtain ⟨vs, h1, h2⟩ := vRes_inv rs hx
        refine ⟨v :: vs, ?_, h2⟩
        have : cload P t (tm.getD a undef) h = some v := by
          unfold cload
          rw [he, plainA_inv hp]
          rcases h3 with ⟨ha, rfl⟩ | ⟨ha, rfl⟩
          · simp [ha, hs, hc]
          · simp at hl; subst hl; simp [ha, hs, hc]
        rw [List.mapM_cons]
        simp only [resG]
        rw [this, h1]
        rfl
      · exact hx.elim
    · exact hx.elim

/-- A function whose symbolic run comes to K. -/
theorem SCalls_of_v (hm : P.follows .mixedOrders = true) {pf : FuncId → Bool} {f : FuncId} {fn : Func} {c : Code} {shp : Nat → List (Tmp × TypeId)} {args : List Value} {h : Hp} {K : Value → Hp → Prop}
    (hf : P.funcs[f]? = some fn) (hb : fn.body = some c) (hc : mayCall fn = true) (hx : vBody P (SCalls P) pf shp fn c args h K) : SCalls P f args h K := by
  refine SCalls_of hm (ann := fun i => (shp i).map (·.1)) hf hb hc ?_
  refine vC_sound hm c (fun _ => rfl) ?_ hx
  intro e tm h he
  have fin : vRes P (dyOf shp) tm h fn.results.toList (fun vs => K (oneOf vs) h) → opt False (resultsOf P fn tm h) fun v => K v h := by
    intro hv
    obtain ⟨vs, h1, h2⟩ := vRes_inv _ hv
    rw [resultsOf_eq, h1]
    match vs, h2 with
    | [], h2 => exact h2
    | [v], h2 => exact h2
    | v :: w :: vs, h2 => exact h2
  cases e <;> first | exact fin he | exact he
end
end Go.Cn

/- Reasoning over canonical heaps: blocks and groups, what a run keeps, slices, append. -/
set_option linter.unusedVariables false
set_option linter.unusedSimpArgs false
namespace Go.Cn

/-! ### 1. Well-formed heaps; contracts -/
structure Wf (h : Hp) : Prop where
  fresh : ∀ b, h.next ≤ b → h.ob b = none ∧ h.gs.get b = none
  grp : ∀ b cs t g, h.ob b = some (.cells cs t (some g)) → g < h.next
  stack : ∀ g l, h.gs.get g = some l → ∀ b ∈ l, ∃ cs t, h.ob b = some (.cells cs t (some g))

theorem HR.wf {base : Nat} {σ : Sg} {h : Hp} {w : World} (hr : HR base σ h w) : Wf h := ⟨hr.fresh, hr.grp, hr.stack⟩

theorem Wf.lt {h : Hp} (wf : Wf h) {b : Nat} {o : Ob} (hb : h.ob b = some o) : b < h.next := by
  apply Nat.lt_of_not_le
  intro hn
  rw [(wf.fresh b hn).1] at hb
  simp at hb

section
variable {P : Program}
theorem Post.wf {base : Nat} {σ : Sg} {h : Hp} {w : World} {K K' : Value → Hp → Prop} (hk : ∀ v h', Wf h' → h.next ≤ h'.next → K v h' → K' v h') {e : Ending} {w' : World} (hp : Post base σ h w K e w') : Post base σ h w K' e w' := by
  obtain ⟨v, v', h', σ', h1, h2, h3, h4, h5⟩ := hp
  exact ⟨v, v', h', σ', h1, hk _ _ h4.wf h5.next h2, h3, h4, h5⟩

theorem SCalls.wf {f : FuncId} {args : List Value} {h : Hp} {K K' : Value → Hp → Prop} (hc : SCalls P f args h K) (hk : ∀ v h', Wf h' → h.next ≤ h'.next → K v h' → K' v h') : SCalls P f args h K' := by
  rcases hc with hc | ⟨l, hf, hc⟩
  · exact .inl ⟨hc.1, fun base σ w rargs hr hl => (hc.2 base σ w rargs hr hl).mono fun _ _ => Post.wf hk⟩
  · refine .inr ⟨l, hf, fun base σ w rargs e hr hl he => ?_⟩
    obtain ⟨r, h1, h2, h3⟩ := hc base σ w rargs e hr hl he
    exact ⟨r, h1, h2, h3.mono fun _ _ => Post.wf hk⟩

theorem SCalls.of_wf {f : FuncId} {args : List Value} {h : Hp} {K : Value → Hp → Prop} (hx : ∃ fn, P.funcs[f]? = some fn ∧ fn.body.isSome = true ∧ mayCall fn = true) (hc : Wf h → SCalls P f args h K) : SCalls P f args h K :=
  SCalls.of_rel (.inl hx) fun base σ w hr => hc hr.wf

/-- A function's contract from the conditions of its symbolic run. -/
theorem SCalls_of_vw (hm : P.follows .mixedOrders = true) {pf : FuncId → Bool} {f : FuncId} {fn : Func} {c : Code} {shp : Nat → List (Tmp × TypeId)} {args : List Value} {h : Hp} {K : Value → Hp → Prop}
    (hf : P.funcs[f]? = some fn) (hb : fn.body = some c) (hc : mayCall fn = true) (hx : Wf h → vBody P (SCalls P) pf shp fn c args h K) : SCalls P f args h K :=
  SCalls.of_wf ⟨fn, hf, by rw [hb]; rfl, hc⟩ fun wf => SCalls_of_v hm hf hb hc (hx wf)
end

/-! ### 2. Blocks -/
/-- Block b, of group g (none: not to be written), is alive and has these cells. -/
def Blk (h : Hp) (b : Nat) (g : Option Nat) (cs : List Value) : Prop := ∃ t, h.ob b = some (.cells cs t g) ∧ h.live b g = true

theorem Blk.lt {h : Hp} (wf : Wf h) {b : Nat} {g : Option Nat} {cs : List Value} (hb : Blk h b g cs) : b < h.next := by
  obtain ⟨t, h1, _⟩ := hb; exact wf.lt h1

theorem Blk.glt {h : Hp} (wf : Wf h) {b g : Nat} {cs : List Value} (hb : Blk h b (some g) cs) : g < h.next := by
  obtain ⟨t, h1, _⟩ := hb; exact wf.grp _ _ _ _ h1

theorem Blk.cells {h : Hp} {b : Nat} {g : Option Nat} {cs : List Value} (hb : Blk h b g cs) {o n : Nat} (ho : o + n ≤ cs.length) : h.cellsAt b o n = some ((cs.drop o).take n) := by
  obtain ⟨t, h1, h2⟩ := hb
  simp [Hp.cellsAt, h1, h2, ho]

/-- What a run keeps: all blocks whose groups are not in S. -/
structure Keep (S : Nat → Prop) (h h' : Hp) : Prop where
  next : h.next ≤ h'.next
  ro : ∀ b cs t, h.ob b = some (.cells cs t none) → h'.ob b = some (.cells cs t none)
  rw : ∀ b cs t g, h.ob b = some (.cells cs t (some g)) → ¬ S g → h'.ob b = some (.cells cs t (some g)) ∧ h'.gs.get g = h.gs.get g
  oth : ∀ b o, h.ob b = some o → o.isOth = true → ¬ S b → h'.ob b = some o

abbrev Kept (h h' : Hp) : Prop := Keep (fun _ => False) h h'

theorem Keep.refl (S : Nat → Prop) (h : Hp) : Keep S h h := ⟨Nat.le_refl _, fun _ _ _ h => h, fun _ _ _ _ h _ => ⟨h, rfl⟩, fun _ _ h _ _ => h⟩

theorem Keep.trans {S S' : Nat → Prop} {h h1 h2 : Hp} (wf : Wf h) (a : Keep S h h1) (b : Keep S' h1 h2) (hs : ∀ g, g < h.next → S' g → S g) : Keep S h h2 := by
  refine ⟨Nat.le_trans a.next b.next, fun x cs t hx => b.ro _ _ _ (a.ro _ _ _ hx), fun x cs t g hx hn => ?_, fun x o hx hi hn => b.oth x o (a.oth x o hx hi hn) hi fun hg => hn (hs x (wf.lt hx) hg)⟩
  obtain ⟨h3, h4⟩ := a.rw _ _ _ _ hx hn
  obtain ⟨h5, h6⟩ := b.rw _ _ _ _ h3 (fun hg => hn (hs g (wf.grp _ _ _ _ hx) hg))
  exact ⟨h5, h6.trans h4⟩

theorem Keep.mono {S S' : Nat → Prop} {h h' : Hp} (wf : Wf h) (a : Keep S h h') (hs : ∀ g, g < h.next → S g → S' g) : Keep S' h h' :=
  ⟨a.next, a.ro, fun x cs t g hx hn => a.rw _ _ _ _ hx fun hg => hn (hs g (wf.grp _ _ _ _ hx) hg), fun x o hx hi hn => a.oth x o hx hi fun hg => hn (hs x (wf.lt hx) hg)⟩

theorem Keep.blk {S : Nat → Prop} {h h' : Hp} (k : Keep S h h') {b : Nat} {g : Option Nat} {cs : List Value} (hb : Blk h b g cs) (hn : ∀ x, g = some x → ¬ S x) : Blk h' b g cs := by
  obtain ⟨t, h1, h2⟩ := hb
  cases g with
  | none => exact ⟨t, k.ro _ _ _ h1, rfl⟩
  | some x =>
    obtain ⟨h3, h4⟩ := k.rw _ _ _ _ h1 (hn x rfl)
    refine ⟨t, h3, ?_⟩
    simpa [Hp.live, h4] using h2

theorem Kept.blk {h h' : Hp} (k : Kept h h') {b : Nat} {g : Option Nat} {cs : List Value} (hb : Blk h b g cs) : Blk h' b g cs := Keep.blk k hb fun _ _ hf => hf

/-! ### 3. A new block -/
section
variable {h : Hp} (wf : Wf h) (cs : List Value) (e : TypeId)
include wf
theorem alloc_blk : Blk (h.alloc cs e) h.next (some h.next) cs := by
  refine ⟨e, by rw [Hp.ob_alloc]; simp, ?_⟩
  have : (h.alloc cs e).gs.get h.next = none := (wf.fresh _ (Nat.le_refl _)).2
  simp [Hp.live, this]

theorem alloc_keep : Kept h (h.alloc cs e) := by
  refine ⟨Nat.le_succ _, fun b c t hb => ?_, fun b c t g hb _ => ⟨?_, rfl⟩, fun b o hb _ _ => by rw [Hp.ob_alloc, if_neg (by have := wf.lt hb; omega)]; exact hb⟩
  · rw [Hp.ob_alloc, if_neg (by have := wf.lt hb; omega)]; exact hb
  · rw [Hp.ob_alloc, if_neg (by have := wf.lt hb; omega)]; exact hb

theorem alloc_wf : Wf (h.alloc cs e) := by
  refine ⟨fun b hb => ?_, fun b c t g hb => ?_, fun g l hg b hb => ?_⟩
  · have hb' : h.next + 1 ≤ b := hb
    exact ⟨by rw [Hp.ob_alloc, if_neg (by omega)]; exact (wf.fresh b (by omega)).1, (wf.fresh b (by omega)).2⟩
  · rw [Hp.ob_alloc] at hb
    show g < h.next + 1
    split at hb
    · simp at hb; omega
    · have := wf.grp _ _ _ _ hb; omega
  · obtain ⟨c, t, h1⟩ := wf.stack g l hg b hb
    exact ⟨c, t, by rw [Hp.ob_alloc, if_neg (by have := wf.lt h1; omega)]; exact h1⟩
end

theorem alloc_next (h : Hp) (cs : List Value) (e : TypeId) : (h.alloc cs e).next = h.next + 1 := rfl

/-! ### 4. A store -/
theorem Blk.store {h : Hp} {b g o : Nat} {cs vs : List Value} (hb : Blk h b (some g) cs) (ho : o + vs.length ≤ cs.length) (hv : vs.all isCell = true) :
    ∃ h', h.store b o vs = some h' ∧ Blk h' b (some g) (splice cs o vs) ∧ Keep (· = g) h h' ∧ h'.next = h.next ∧ (Wf h → Wf h') := by
  obtain ⟨t, h1, h2⟩ := hb
  refine ⟨(h.only b g).setOb b (.cells (splice cs o vs) t (some g)), by simp [Hp.store, h1, h2, ho, hv], ?_, ?_, ?_, ?_⟩
  · refine ⟨t, by rw [Hp.ob_setOb]; simp, ?_⟩
    have hg := Hp.gs_only h b g g
    simp only [if_true] at hg
    simp only [Hp.live, Hp.gs_setOb, hg]
    simp only [Hp.live] at h2
    cases hx : h.gs.get g with
    | none => simp [hx] at h2 ⊢; exact h2
    | some l => simp
  · refine ⟨by rw [Hp.next_setOb, Hp.next_only]; exact Nat.le_refl _, fun x c u hx => ?_, fun x c u k hx hn => ?_, fun x o hx hi _ => by
      rw [Hp.ob_setOb, Hp.ob_only]
      split
      · rename_i e; subst e; rw [h1] at hx; simp at hx; subst hx; simp [Ob.isOth] at hi
      · exact hx⟩
    · rw [Hp.ob_setOb, Hp.ob_only]
      split
      · rename_i e; subst e; rw [h1] at hx; simp at hx
      · exact hx
    · rw [Hp.ob_setOb, Hp.ob_only, Hp.gs_setOb, Hp.gs_only, if_neg hn]
      split
      · rename_i e; subst e; rw [h1] at hx; simp at hx; exact absurd hx.2.2.symm hn
      · exact ⟨hx, rfl⟩
  · rw [Hp.next_setOb, Hp.next_only]
  · intro wf
    refine ⟨fun x hx => ?_, fun x c u k hx => ?_, fun k l hk x hx => ?_⟩
    · rw [Hp.next_setOb, Hp.next_only] at hx
      have hne : x ≠ b := by have := wf.lt h1; omega
      have hng : x ≠ g := by have := wf.grp _ _ _ _ h1; omega
      rw [Hp.ob_setOb, Hp.ob_only, if_neg hne, Hp.gs_setOb, Hp.gs_only, if_neg hng]
      exact wf.fresh x hx
    · rw [Hp.next_setOb, Hp.next_only]
      rw [Hp.ob_setOb, Hp.ob_only] at hx
      split at hx
      · simp at hx; rw [← hx.2.2]; exact wf.grp _ _ _ _ h1
      · exact wf.grp _ _ _ _ hx
    · rw [Hp.gs_setOb, Hp.gs_only] at hk
      simp only [Hp.ob_setOb, Hp.ob_only]
      by_cases hxb : x = b
      · subst hxb
        simp only [if_true]
        split at hk
        · rename_i e; subst e; exact ⟨_, _, rfl⟩
        · rename_i hne
          obtain ⟨c, u, h3⟩ := wf.stack k l hk _ hx
          rw [h1] at h3; simp at h3; exact absurd h3.2.2.symm hne
      · simp only [hxb, if_false]
        split at hk
        · rename_i e; subst e
          cases hy : h.gs.get k with
          | none => simp [hy] at hk
          | some l' => simp [hy] at hk; subst hk; simp at hx; exact absurd hx hxb
        · exact wf.stack k l hk x hx

/-! ### 5. append's new block -/
theorem Hp.below_mem {h : Hp} {b g x : Nat} (hx : x ∈ h.below b g) : x = b ∨ ∃ l, h.gs.get g = some l ∧ x ∈ l := by
  unfold Hp.below at hx
  cases hg : h.gs.get g with
  | none => simp [hg] at hx; exact .inl hx
  | some l => simp [hg] at hx; exact .inr ⟨l, rfl, (List.dropWhile_suffix _).subset hx⟩

theorem Hp.below_self {h : Hp} {b g : Nat} (hl : h.live b (some g) = true) : b ∈ h.below b g := by
  unfold Hp.below
  simp only [Hp.live] at hl
  cases hg : h.gs.get g with
  | none => simp
  | some l =>
    simp [hg] at hl ⊢
    obtain ⟨r, hr⟩ := dropWhile_head b l hl
    rw [hr]; simp

theorem Blk.extend {h : Hp} (wf : Wf h) {b g o e : Nat} {cs new : List Value} (hb : Blk h b (some g) cs) (ho : o ≤ e) (he : e ≤ cs.length) (hv : new.all isCell = true) :
    ∃ h', h.extend b o e new = some h' ∧ Blk h' h.next (some g) ((cs.drop o).take (e - o) ++ new) ∧ Blk h' b (some g) (cs.take e) ∧ Keep (· = g) h h' ∧ h'.next = h.next + 1 ∧ Wf h' := by
  have hlt := hb.lt wf
  have hglt := hb.glt wf
  obtain ⟨t, h1, h2⟩ := hb
  have hx : ∃ h', h.extend b o e new = some h' := by simp [Hp.extend, h1, h2, ho, he, hv]
  obtain ⟨h', hx⟩ := hx
  obtain ⟨cs0, t0, g0, rest, hE⟩ := Hp.extend_spec hx (by omega)
  have e1 := hE.old
  rw [h1] at e1
  simp at e1
  obtain ⟨rfl, rfl, rfl⟩ := e1
  have hbr : b ∈ rest := by
    rcases hE.rest with ⟨_, e2⟩ | e2
    · rw [e2]; exact Hp.below_self h2
    · rw [e2]; simp
  have hrm : ∀ x ∈ rest, x = b ∨ ∃ l, h.gs.get g = some l ∧ x ∈ l := by
    intro x hxr
    rcases hE.rest with ⟨_, e2⟩ | e2
    · rw [e2] at hxr; exact Hp.below_mem hxr
    · rw [e2] at hxr; simp at hxr; exact .inl hxr
  refine ⟨h', hx, ⟨t, by rw [hE.ob]; simp, ?_⟩, ⟨t, ?_, ?_⟩, ⟨by rw [hE.next]; omega, ?_, ?_, ?_⟩, hE.next, ⟨?_, ?_, ?_⟩⟩
  · simp [Hp.live, hE.gs]
  · rw [hE.ob, if_neg (by omega), if_pos rfl]
  · simp [Hp.live, hE.gs, hbr]
  · intro x c u hxo
    rw [hE.ob, if_neg (by have := wf.lt hxo; omega), if_neg]
    · exact hxo
    · intro e; subst e; rw [h1] at hxo; simp at hxo
  · intro x c u k hxo hn
    rw [hE.ob, if_neg (by have := wf.lt hxo; omega), if_neg, hE.gs, if_neg hn]
    · exact ⟨hxo, rfl⟩
    · intro e; subst e; rw [h1] at hxo; simp at hxo; exact hn hxo.2.2.symm
  · intro x o hxo hi _
    rw [hE.ob, if_neg (by have := wf.lt hxo; omega), if_neg]
    · exact hxo
    · intro e; subst e; rw [h1] at hxo; simp at hxo; subst hxo; simp [Ob.isOth] at hi
  · intro x hxn
    rw [hE.next] at hxn
    rw [hE.ob, if_neg (by omega), if_neg (by omega), hE.gs, if_neg (by omega)]
    exact wf.fresh x (by omega)
  · intro x c u k hxo
    rw [hE.next]
    rw [hE.ob] at hxo
    split at hxo
    · simp at hxo; omega
    · split at hxo
      · simp at hxo; omega
      · have := wf.grp _ _ _ _ hxo; omega
  · intro k l hk x hxl
    rw [hE.gs] at hk
    rw [hE.ob]
    by_cases hxn : x = h.next
    · subst hxn
      simp only [if_true]
      split at hk
      · rename_i e2; subst e2; exact ⟨_, _, rfl⟩
      · obtain ⟨c, u, h3⟩ := wf.stack k l hk _ hxl
        have := wf.lt h3; omega
    · simp only [hxn, if_false]
      split at hk
      · rename_i e2; subst e2
        simp at hk; subst hk
        simp [hxn] at hxl
        by_cases hxb : x = b
        · subst hxb; simp
        · simp only [hxb, if_false]
          rcases hrm x hxl with e3 | ⟨l', h3, h4⟩
          · exact absurd e3 hxb
          · exact wf.stack _ _ h3 x h4
      · rename_i hne
        obtain ⟨c, u, h3⟩ := wf.stack k l hk x hxl
        by_cases hxb : x = b
        · subst hxb; rw [h1] at h3; simp at h3; exact absurd h3.2.2.symm hne
        · simp only [hxb, if_false]; exact ⟨c, u, h3⟩
end Go.Cn
