/- Joined: ShaV, ShaB, ShaC, ShaD, ShaE, ShaF, ShaW, ShaG, ShaH. -/
import Derived.Test.YtpgedmighmolnaaGreatGw12
import Derived.Test.YtpgedmighmolnaaGreatProg
import Derived.KernelRfl
/- The conditions of the symbolic runs of functions of the program (printed by a program of ours, vcgen.py; checked by the kernel). -/
set_option linter.unusedVariables false
set_option maxRecDepth 100000
namespace Go.Proofs.YtpgedmighmolnaaGreat.vc
open Go Go.Cn Go.Proofs
def pf : FuncId → Bool := fun f => f == 269

def shp269 : Nat → List (Tmp × TypeId) := fun i => []
theorem vc269 (C : FuncId → List Value → Hp → (Value → Hp → Prop) → Prop) (x n : Int) (h : Hp) (K : Value → Hp → Prop) : vBody Tryz.prog C pf shp269 Tryz.f269 (Tryz.f269.body.getD .skip) [.int .u32 x, .int .i64 n] h K = (
 nonneg (toW IntKind.u64 n) ∧ nonneg (toW IntKind.u64 (subW IntKind.i64 32 n)) ∧ K (Value.int IntKind.u32 (orW IntKind.u32 (shrW IntKind.u32 x (toW IntKind.u64 n)) (shlW IntKind.u32 x (toW IntKind.u64 (subW IntKind.i64 32 n))))) h) := by kernel_rfl

def shp263 : Nat → List (Tmp × TypeId) := fun i => if i = 3 then [(3, 201)] else if i = 7 then [(3, 201), (5, 3)] else []
theorem vc263 (C : FuncId → List Value → Hp → (Value → Hp → Prop) → Prop) (s : ByteArray) (h : Hp) (K : Value → Hp → Prop) : vBody Tryz.prog C pf shp263 Tryz.f263 (Tryz.f263.body.getD .skip) [.string s] h K = (
 ∀ (h' : Hp),
 h' = h.alloc (byteCells s) 5 →
 ∀ (h'_1 : Hp),
 h'_1 = h'.alloc [Value.int IntKind.u8 128] 5 →
 ∃ (a : Option Addr),
 ∃ (m : Nat),
 ∃ (n : Nat),
 ∃ (h'_2 : Hp),
 cappend Tryz.prog 201 201 (Value.slice (some (Addr.mk h.next 0 (some 1))) (lenS s) (lenS s)) (Value.slice (some (Addr.mk h'.next 0 none)) 1 1) h'_1 = some (Value.slice a m n, h'_2) ∧
 ∃ (I : List Value → Nat → Hp → Prop),
 (∃ (m_1 : Nat), I [Value.slice a m n] m_1 h'_2) ∧
 ∀ (a : Option Addr) (l c m : Nat) (h : Hp),
 I [Value.slice a l c] m h →
 nonzero 64 ∧
 if neI (remW (natI l) 64) 56 = true then ∀ (h' : Hp), h' = h.alloc [Value.int IntKind.u8 0] 5 → ∃ (a_3 : Option Addr), ∃ (m_1 : Nat), ∃ (n : Nat), ∃ (h'_3 : Hp), cappend Tryz.prog 201 201 (Value.slice a l c) (Value.slice (some (Addr.mk h.next 0 none)) 1 1) h' = some (Value.slice a_3 m_1 n, h'_3) ∧ ∃ (m' : Nat), lessN m' m ∧ I [Value.slice a_3 m_1 n] m' h'_3
 else
 ∃ (I : List Value → Nat → Hp → Prop),
 (∃ (m : Nat), I [Value.slice a l c, Value.int IntKind.i64 7] m h) ∧
 ∀ (a : Option Addr) (l c : Nat) (n : Int) (m : Nat) (h : Hp),
 I [Value.slice a l c, Value.int IntKind.i64 n] m h →
 if geI n 0 = true then
 nonneg (toW IntKind.u64 (mulW IntKind.i64 8 n)) ∧
 ∀ (h' : Hp),
 h' = h.alloc [Value.int IntKind.u8 (toW IntKind.u8 (shrW IntKind.u64 (mulW IntKind.u64 (toW IntKind.u64 (natI (lenS s))) 8) (toW IntKind.u64 (mulW IntKind.i64 8 n))))] 5 →
 ∃ (a_4 : Option Addr), ∃ (m_1 : Nat), ∃ (n_1 : Nat), ∃ (h'_3 : Hp), cappend Tryz.prog 201 201 (Value.slice a l c) (Value.slice (some (Addr.mk h.next 0 none)) 1 1) h' = some (Value.slice a_4 m_1 n_1, h'_3) ∧ ∃ (m' : Nat), lessN m' m ∧ I [Value.slice a_4 m_1 n_1, Value.int IntKind.i64 (subW IntKind.i64 n 1)] m' h'_3
 else K (Value.slice a l c) h) := by kernel_rfl

def shp264 : Nat → List (Tmp × TypeId) := fun i => if i = 3 then [(7, 78), (8, 3)] else if i = 7 then [(7, 78), (9, 3)] else if i = 15 then [(12, 78), (13, 3)] else if i = 25 then [(19, 78), (20, 3)] else []
theorem vc264 (C : FuncId → List Value → Hp → (Value → Hp → Prop) → Prop) (a0 a1 a2 : Option Addr) (l0 c0 l1 c1 l2 c2 : Nat) (h : Hp) (K : Value → Hp → Prop) : vBody Tryz.prog C pf shp264 Tryz.f264 (Tryz.f264.body.getD .skip) [.slice a0 l0 c0, .slice a1 l1 c1, .slice a2 l2 c2] h K = (
 ∃ (I : List Value → Nat → Hp → Prop),
 (∃ (m : Nat), I [Value.slice none 0 0, Value.int IntKind.i64 0] m h) ∧
 ∀ (a : Option Addr) (l c : Nat) (n : Int) (m : Nat) (h : Hp),
 I [Value.slice a l c, Value.int IntKind.i64 n] m h →
 if ltI n 16 = true then
 (a2.isSome = true ∧ inR (mulW IntKind.i64 4 n) l2) ∧
 ∃ (n_1 : Int),
 (plainA (some (Addr.mk (blk a2) (plusI (off a2) (mulW IntKind.i64 4 n) 1) none)) = true ∧ h.cellsAt (blk a2) (plusI (off a2) (mulW IntKind.i64 4 n) 1) 1 = some [Value.int IntKind.u8 n_1]) ∧
 nonneg 24 ∧
 (a2.isSome = true ∧ inR (addW IntKind.i64 (mulW IntKind.i64 4 n) 1) l2) ∧
 ∃ (n_2 : Int),
 (plainA (some (Addr.mk (blk a2) (plusI (off a2) (addW IntKind.i64 (mulW IntKind.i64 4 n) 1) 1) none)) = true ∧ h.cellsAt (blk a2) (plusI (off a2) (addW IntKind.i64 (mulW IntKind.i64 4 n) 1) 1) 1 = some [Value.int IntKind.u8 n_2]) ∧
 nonneg 16 ∧
 (a2.isSome = true ∧ inR (addW IntKind.i64 (mulW IntKind.i64 4 n) 2) l2) ∧
 ∃ (n_3 : Int),
 (plainA (some (Addr.mk (blk a2) (plusI (off a2) (addW IntKind.i64 (mulW IntKind.i64 4 n) 2) 1) none)) = true ∧ h.cellsAt (blk a2) (plusI (off a2) (addW IntKind.i64 (mulW IntKind.i64 4 n) 2) 1) 1 = some [Value.int IntKind.u8 n_3]) ∧
 nonneg 8 ∧
 (a2.isSome = true ∧ inR (addW IntKind.i64 (mulW IntKind.i64 4 n) 3) l2) ∧
 ∃ (n_4 : Int),
 (plainA (some (Addr.mk (blk a2) (plusI (off a2) (addW IntKind.i64 (mulW IntKind.i64 4 n) 3) 1) none)) = true ∧ h.cellsAt (blk a2) (plusI (off a2) (addW IntKind.i64 (mulW IntKind.i64 4 n) 3) 1) 1 = some [Value.int IntKind.u8 n_4]) ∧
 ∀ (h' : Hp),
 h' = h.alloc [Value.int IntKind.u32 (orW IntKind.u32 (orW IntKind.u32 (orW IntKind.u32 (shlW IntKind.u32 (toW IntKind.u32 n_1) 24) (shlW IntKind.u32 (toW IntKind.u32 n_2) 16)) (shlW IntKind.u32 (toW IntKind.u32 n_3) 8)) (toW IntKind.u32 n_4))] 39 →
 ∃ (a_3 : Option Addr), ∃ (m_1 : Nat), ∃ (n_5 : Nat), ∃ (h'_1 : Hp), cappend Tryz.prog 78 78 (Value.slice a l c) (Value.slice (some (Addr.mk h.next 0 none)) 1 1) h' = some (Value.slice a_3 m_1 n_5, h'_1) ∧ ∃ (m' : Nat), lessN m' m ∧ I [Value.slice a_3 m_1 n_5, Value.int IntKind.i64 (addW IntKind.i64 n 1)] m' h'_1
 else
 ∃ (I : List Value → Nat → Hp → Prop),
 (∃ (m : Nat), I [Value.slice a l c, Value.int IntKind.i64 16] m h) ∧
 ∀ (a : Option Addr) (l c : Nat) (n : Int) (m : Nat) (h : Hp),
 I [Value.slice a l c, Value.int IntKind.i64 n] m h →
 if ltI n 64 = true then
 (a.isSome = true ∧ inR (subW IntKind.i64 n 15) l) ∧
 ∃ (n_1 : Int),
 (plainA (some (Addr.mk (blk a) (plusI (off a) (subW IntKind.i64 n 15) 1) none)) = true ∧ h.cellsAt (blk a) (plusI (off a) (subW IntKind.i64 n 15) 1) 1 = some [Value.int IntKind.u32 n_1]) ∧
 (a.isSome = true ∧ inR (subW IntKind.i64 n 15) l) ∧
 ∃ (n_2 : Int),
 (plainA (some (Addr.mk (blk a) (plusI (off a) (subW IntKind.i64 n 15) 1) none)) = true ∧ h.cellsAt (blk a) (plusI (off a) (subW IntKind.i64 n 15) 1) 1 = some [Value.int IntKind.u32 n_2]) ∧
 (a.isSome = true ∧ inR (subW IntKind.i64 n 15) l) ∧
 ∃ (n_3 : Int),
 (plainA (some (Addr.mk (blk a) (plusI (off a) (subW IntKind.i64 n 15) 1) none)) = true ∧ h.cellsAt (blk a) (plusI (off a) (subW IntKind.i64 n 15) 1) 1 = some [Value.int IntKind.u32 n_3]) ∧
 nonneg 3 ∧
 C 269 [Value.int IntKind.u32 n_1, Value.int IntKind.i64 7] h fun (v : Value) (h' : Hp) =>
 ∃ (n_4 : Int),
 v = Value.int IntKind.u32 n_4 ∧
 (plainA (some (Addr.mk (blk a) (plusI (off a) (subW IntKind.i64 n 15) 1) none)) = true ∧ h'.cellsAt (blk a) (plusI (off a) (subW IntKind.i64 n 15) 1) 1 = some [Value.int IntKind.u32 n_3]) ∧
 (plainA (some (Addr.mk (blk a) (plusI (off a) (subW IntKind.i64 n 15) 1) none)) = true ∧ h'.cellsAt (blk a) (plusI (off a) (subW IntKind.i64 n 15) 1) 1 = some [Value.int IntKind.u32 n_2]) ∧
 C 269 [Value.int IntKind.u32 n_2, Value.int IntKind.i64 18] h' fun (v : Value) (h' : Hp) =>
 ∃ (n_5 : Int),
 v = Value.int IntKind.u32 n_5 ∧
 (plainA (some (Addr.mk (blk a) (plusI (off a) (subW IntKind.i64 n 15) 1) none)) = true ∧ h'.cellsAt (blk a) (plusI (off a) (subW IntKind.i64 n 15) 1) 1 = some [Value.int IntKind.u32 n_3]) ∧
 (a.isSome = true ∧ inR (subW IntKind.i64 n 2) l) ∧
 ∃ (n_6 : Int),
 (plainA (some (Addr.mk (blk a) (plusI (off a) (subW IntKind.i64 n 2) 1) none)) = true ∧ h'.cellsAt (blk a) (plusI (off a) (subW IntKind.i64 n 2) 1) 1 = some [Value.int IntKind.u32 n_6]) ∧
 (a.isSome = true ∧ inR (subW IntKind.i64 n 2) l) ∧
 ∃ (n_7 : Int),
 (plainA (some (Addr.mk (blk a) (plusI (off a) (subW IntKind.i64 n 2) 1) none)) = true ∧ h'.cellsAt (blk a) (plusI (off a) (subW IntKind.i64 n 2) 1) 1 = some [Value.int IntKind.u32 n_7]) ∧
 (a.isSome = true ∧ inR (subW IntKind.i64 n 2) l) ∧
 ∃ (n_8 : Int),
 (plainA (some (Addr.mk (blk a) (plusI (off a) (subW IntKind.i64 n 2) 1) none)) = true ∧ h'.cellsAt (blk a) (plusI (off a) (subW IntKind.i64 n 2) 1) 1 = some [Value.int IntKind.u32 n_8]) ∧
 nonneg 10 ∧
 C 269 [Value.int IntKind.u32 n_6, Value.int IntKind.i64 17] h' fun (v : Value) (h' : Hp) =>
 ∃ (n_9 : Int),
 v = Value.int IntKind.u32 n_9 ∧
 (plainA (some (Addr.mk (blk a) (plusI (off a) (subW IntKind.i64 n 2) 1) none)) = true ∧ h'.cellsAt (blk a) (plusI (off a) (subW IntKind.i64 n 2) 1) 1 = some [Value.int IntKind.u32 n_8]) ∧
 (plainA (some (Addr.mk (blk a) (plusI (off a) (subW IntKind.i64 n 2) 1) none)) = true ∧ h'.cellsAt (blk a) (plusI (off a) (subW IntKind.i64 n 2) 1) 1 = some [Value.int IntKind.u32 n_7]) ∧
 C 269 [Value.int IntKind.u32 n_7, Value.int IntKind.i64 19] h' fun (v : Value) (h' : Hp) =>
 ∃ (n_10 : Int),
 v = Value.int IntKind.u32 n_10 ∧
 (plainA (some (Addr.mk (blk a) (plusI (off a) (subW IntKind.i64 n 2) 1) none)) = true ∧ h'.cellsAt (blk a) (plusI (off a) (subW IntKind.i64 n 2) 1) 1 = some [Value.int IntKind.u32 n_8]) ∧
 (a.isSome = true ∧ inR (subW IntKind.i64 n 16) l) ∧
 ∃ (n_11 : Int),
 (plainA (some (Addr.mk (blk a) (plusI (off a) (subW IntKind.i64 n 16) 1) none)) = true ∧ h'.cellsAt (blk a) (plusI (off a) (subW IntKind.i64 n 16) 1) 1 = some [Value.int IntKind.u32 n_11]) ∧
 (a.isSome = true ∧ inR (subW IntKind.i64 n 7) l) ∧
 ∃ (n_12 : Int),
 (plainA (some (Addr.mk (blk a) (plusI (off a) (subW IntKind.i64 n 7) 1) none)) = true ∧ h'.cellsAt (blk a) (plusI (off a) (subW IntKind.i64 n 7) 1) 1 = some [Value.int IntKind.u32 n_12]) ∧
 ∀ (h'_1 : Hp),
 h'_1 = h'.alloc [Value.int IntKind.u32 (addW IntKind.u32 (addW IntKind.u32 (addW IntKind.u32 n_11 (xorW IntKind.u32 (xorW IntKind.u32 n_4 n_5) (shrW IntKind.u32 n_3 3))) n_12) (xorW IntKind.u32 (xorW IntKind.u32 n_9 n_10) (shrW IntKind.u32 n_8 10)))] 39 →
 ∃ (a_4 : Option Addr),
 ∃ (m_1 : Nat),
 ∃ (n_13 : Nat), ∃ (h'_2 : Hp), cappend Tryz.prog 78 78 (Value.slice a l c) (Value.slice (some (Addr.mk h'.next 0 none)) 1 1) h'_1 = some (Value.slice a_4 m_1 n_13, h'_2) ∧ ∃ (m' : Nat), lessN m' m ∧ I [Value.slice a_4 m_1 n_13, Value.int IntKind.i64 (addW IntKind.i64 n 1)] m' h'_2
 else
 ∃ (a_3 : Option Addr),
 ∃ (m : Nat),
 ∃ (n : Nat),
 ∃ (h' : Hp),
 cappend Tryz.prog 78 78 (Value.slice none 0 0) (Value.slice a0 l0 c0) h = some (Value.slice a_3 m n, h') ∧
 ∃ (I : List Value → Nat → Hp → Prop),
 (∃ (m_1 : Nat), I [Value.slice a_3 m n, Value.int IntKind.i64 0] m_1 h') ∧
 ∀ (a_4 : Option Addr) (l_1 c : Nat) (n : Int) (m : Nat) (h : Hp),
 I [Value.slice a_4 l_1 c, Value.int IntKind.i64 n] m h →
 if ltI n 64 = true then
 (a_4.isSome = true ∧ inR 4 l_1) ∧
 ∃ (n_1 : Int),
 (plainA (some (Addr.mk (blk a_4) (plusI (off a_4) 4 1) none)) = true ∧ h.cellsAt (blk a_4) (plusI (off a_4) 4 1) 1 = some [Value.int IntKind.u32 n_1]) ∧
 (a_4.isSome = true ∧ inR 4 l_1) ∧
 ∃ (n_2 : Int),
 (plainA (some (Addr.mk (blk a_4) (plusI (off a_4) 4 1) none)) = true ∧ h.cellsAt (blk a_4) (plusI (off a_4) 4 1) 1 = some [Value.int IntKind.u32 n_2]) ∧
 (a_4.isSome = true ∧ inR 4 l_1) ∧
 ∃ (n_3 : Int),
 (plainA (some (Addr.mk (blk a_4) (plusI (off a_4) 4 1) none)) = true ∧ h.cellsAt (blk a_4) (plusI (off a_4) 4 1) 1 = some [Value.int IntKind.u32 n_3]) ∧
 C 269 [Value.int IntKind.u32 n_1, Value.int IntKind.i64 6] h fun (v : Value) (h' : Hp) =>
 ∃ (n_4 : Int),
 v = Value.int IntKind.u32 n_4 ∧
 (plainA (some (Addr.mk (blk a_4) (plusI (off a_4) 4 1) none)) = true ∧ h'.cellsAt (blk a_4) (plusI (off a_4) 4 1) 1 = some [Value.int IntKind.u32 n_3]) ∧
 (plainA (some (Addr.mk (blk a_4) (plusI (off a_4) 4 1) none)) = true ∧ h'.cellsAt (blk a_4) (plusI (off a_4) 4 1) 1 = some [Value.int IntKind.u32 n_2]) ∧
 C 269 [Value.int IntKind.u32 n_2, Value.int IntKind.i64 11] h' fun (v : Value) (h' : Hp) =>
 ∃ (n_5 : Int),
 v = Value.int IntKind.u32 n_5 ∧
 (plainA (some (Addr.mk (blk a_4) (plusI (off a_4) 4 1) none)) = true ∧ h'.cellsAt (blk a_4) (plusI (off a_4) 4 1) 1 = some [Value.int IntKind.u32 n_3]) ∧
 C 269 [Value.int IntKind.u32 n_3, Value.int IntKind.i64 25] h' fun (v : Value) (h' : Hp) =>
 ∃ (n_6 : Int),
 v = Value.int IntKind.u32 n_6 ∧
 (a_4.isSome = true ∧ inR 4 l_1) ∧
 ∃ (n_7 : Int),
 (plainA (some (Addr.mk (blk a_4) (plusI (off a_4) 4 1) none)) = true ∧ h'.cellsAt (blk a_4) (plusI (off a_4) 4 1) 1 = some [Value.int IntKind.u32 n_7]) ∧
 (a_4.isSome = true ∧ inR 5 l_1) ∧
 ∃ (n_8 : Int),
 (plainA (some (Addr.mk (blk a_4) (plusI (off a_4) 5 1) none)) = true ∧ h'.cellsAt (blk a_4) (plusI (off a_4) 5 1) 1 = some [Value.int IntKind.u32 n_8]) ∧
 (a_4.isSome = true ∧ inR 4 l_1) ∧
 ∃ (n_9 : Int),
 (plainA (some (Addr.mk (blk a_4) (plusI (off a_4) 4 1) none)) = true ∧ h'.cellsAt (blk a_4) (plusI (off a_4) 4 1) 1 = some [Value.int IntKind.u32 n_9]) ∧
 (a_4.isSome = true ∧ inR 6 l_1) ∧
 ∃ (n_10 : Int),
 (plainA (some (Addr.mk (blk a_4) (plusI (off a_4) 6 1) none)) = true ∧ h'.cellsAt (blk a_4) (plusI (off a_4) 6 1) 1 = some [Value.int IntKind.u32 n_10]) ∧
 (a_4.isSome = true ∧ inR 7 l_1) ∧
 ∃ (n_11 : Int),
 (plainA (some (Addr.mk (blk a_4) (plusI (off a_4) 7 1) none)) = true ∧ h'.cellsAt (blk a_4) (plusI (off a_4) 7 1) 1 = some [Value.int IntKind.u32 n_11]) ∧
 (a1.isSome = true ∧ inR n l1) ∧
 ∃ (n_12 : Int),
 (plainA (some (Addr.mk (blk a1) (plusI (off a1) n 1) none)) = true ∧ h'.cellsAt (blk a1) (plusI (off a1) n 1) 1 = some [Value.int IntKind.u32 n_12]) ∧
 (a.isSome = true ∧ inR n l) ∧
 ∃ (n_13 : Int),
 (plainA (some (Addr.mk (blk a) (plusI (off a) n 1) none)) = true ∧ h'.cellsAt (blk a) (plusI (off a) n 1) 1 = some [Value.int IntKind.u32 n_13]) ∧
 (a_4.isSome = true ∧ inR 0 l_1) ∧
 ∃ (n_14 : Int),
 (plainA (some (Addr.mk (blk a_4) (plusI (off a_4) 0 1) none)) = true ∧ h'.cellsAt (blk a_4) (plusI (off a_4) 0 1) 1 = some [Value.int IntKind.u32 n_14]) ∧
 (a_4.isSome = true ∧ inR 0 l_1) ∧
 ∃ (n_15 : Int),
 (plainA (some (Addr.mk (blk a_4) (plusI (off a_4) 0 1) none)) = true ∧ h'.cellsAt (blk a_4) (plusI (off a_4) 0 1) 1 = some [Value.int IntKind.u32 n_15]) ∧
 (a_4.isSome = true ∧ inR 0 l_1) ∧
 ∃ (n_16 : Int),
 (plainA (some (Addr.mk (blk a_4) (plusI (off a_4) 0 1) none)) = true ∧ h'.cellsAt (blk a_4) (plusI (off a_4) 0 1) 1 = some [Value.int IntKind.u32 n_16]) ∧
 C 269 [Value.int IntKind.u32 n_14, Value.int IntKind.i64 2] h' fun (v : Value) (h' : Hp) =>
 ∃ (n_17 : Int),
 v = Value.int IntKind.u32 n_17 ∧
 (plainA (some (Addr.mk (blk a_4) (plusI (off a_4) 0 1) none)) = true ∧ h'.cellsAt (blk a_4) (plusI (off a_4) 0 1) 1 = some [Value.int IntKind.u32 n_16]) ∧
 (plainA (some (Addr.mk (blk a_4) (plusI (off a_4) 0 1) none)) = true ∧ h'.cellsAt (blk a_4) (plusI (off a_4) 0 1) 1 = some [Value.int IntKind.u32 n_15]) ∧
 C 269 [Value.int IntKind.u32 n_15, Value.int IntKind.i64 13] h' fun (v : Value) (h' : Hp) =>
 ∃ (n_18 : Int),
 v = Value.int IntKind.u32 n_18 ∧
 (plainA (some (Addr.mk (blk a_4) (plusI (off a_4) 0 1) none)) = true ∧ h'.cellsAt (blk a_4) (plusI (off a_4) 0 1) 1 = some [Value.int IntKind.u32 n_16]) ∧
 C 269 [Value.int IntKind.u32 n_16, Value.int IntKind.i64 22] h' fun (v : Value) (h' : Hp) =>
 ∃ (n_19 : Int),
 v = Value.int IntKind.u32 n_19 ∧
 (a_4.isSome = true ∧ inR 0 l_1) ∧
 ∃ (n_20 : Int),
 (plainA (some (Addr.mk (blk a_4) (plusI (off a_4) 0 1) none)) = true ∧ h'.cellsAt (blk a_4) (plusI (off a_4) 0 1) 1 = some [Value.int IntKind.u32 n_20]) ∧
 (a_4.isSome = true ∧ inR 1 l_1) ∧
 ∃ (n_21 : Int),
 (plainA (some (Addr.mk (blk a_4) (plusI (off a_4) 1 1) none)) = true ∧ h'.cellsAt (blk a_4) (plusI (off a_4) 1 1) 1 = some [Value.int IntKind.u32 n_21]) ∧
 (a_4.isSome = true ∧ inR 0 l_1) ∧
 ∃ (n_22 : Int),
 (plainA (some (Addr.mk (blk a_4) (plusI (off a_4) 0 1) none)) = true ∧ h'.cellsAt (blk a_4) (plusI (off a_4) 0 1) 1 = some [Value.int IntKind.u32 n_22]) ∧
 (a_4.isSome = true ∧ inR 2 l_1) ∧
 ∃ (n_23 : Int),
 (plainA (some (Addr.mk (blk a_4) (plusI (off a_4) 2 1) none)) = true ∧ h'.cellsAt (blk a_4) (plusI (off a_4) 2 1) 1 = some [Value.int IntKind.u32 n_23]) ∧
 (a_4.isSome = true ∧ inR 1 l_1) ∧
 ∃ (n_24 : Int),
 (plainA (some (Addr.mk (blk a_4) (plusI (off a_4) 1 1) none)) = true ∧ h'.cellsAt (blk a_4) (plusI (off a_4) 1 1) 1 = some [Value.int IntKind.u32 n_24]) ∧
 (a_4.isSome = true ∧ inR 2 l_1) ∧
 ∃ (n_25 : Int),
 (plainA (some (Addr.mk (blk a_4) (plusI (off a_4) 2 1) none)) = true ∧ h'.cellsAt (blk a_4) (plusI (off a_4) 2 1) 1 = some [Value.int IntKind.u32 n_25]) ∧
 (a_4.isSome = true ∧ inR 0 l_1) ∧
 ∃ (n_26 : Int),
 (plainA (some (Addr.mk (blk a_4) (plusI (off a_4) 0 1) none)) = true ∧ h'.cellsAt (blk a_4) (plusI (off a_4) 0 1) 1 = some [Value.int IntKind.u32 n_26]) ∧
 (a_4.isSome = true ∧ inR 1 l_1) ∧
 ∃ (n_27 : Int),
 (plainA (some (Addr.mk (blk a_4) (plusI (off a_4) 1 1) none)) = true ∧ h'.cellsAt (blk a_4) (plusI (off a_4) 1 1) 1 = some [Value.int IntKind.u32 n_27]) ∧
 (a_4.isSome = true ∧ inR 2 l_1) ∧
 ∃ (n_28 : Int),
 (plainA (some (Addr.mk (blk a_4) (plusI (off a_4) 2 1) none)) = true ∧ h'.cellsAt (blk a_4) (plusI (off a_4) 2 1) 1 = some [Value.int IntKind.u32 n_28]) ∧
 (a_4.isSome = true ∧ inR 3 l_1) ∧
 ∃ (n_29 : Int),
 (plainA (some (Addr.mk (blk a_4) (plusI (off a_4) 3 1) none)) = true ∧ h'.cellsAt (blk a_4) (plusI (off a_4) 3 1) 1 = some [Value.int IntKind.u32 n_29]) ∧
 (a_4.isSome = true ∧ inR 4 l_1) ∧
 ∃ (n_30 : Int),
 (plainA (some (Addr.mk (blk a_4) (plusI (off a_4) 4 1) none)) = true ∧ h'.cellsAt (blk a_4) (plusI (off a_4) 4 1) 1 = some [Value.int IntKind.u32 n_30]) ∧
 (a_4.isSome = true ∧ inR 5 l_1) ∧
 ∃ (n_31 : Int),
 (plainA (some (Addr.mk (blk a_4) (plusI (off a_4) 5 1) none)) = true ∧ h'.cellsAt (blk a_4) (plusI (off a_4) 5 1) 1 = some [Value.int IntKind.u32 n_31]) ∧
 (a_4.isSome = true ∧ inR 6 l_1) ∧
 ∃ (n_32 : Int),
 (plainA (some (Addr.mk (blk a_4) (plusI (off a_4) 6 1) none)) = true ∧ h'.cellsAt (blk a_4) (plusI (off a_4) 6 1) 1 = some [Value.int IntKind.u32 n_32]) ∧
 ∀ (h'_1 : Hp),
 h'_1 =
 h'.alloc
 [Value.int IntKind.u32
 (addW IntKind.u32
 (addW IntKind.u32
 (addW IntKind.u32
 (addW IntKind.u32
 (addW IntKind.u32 (addW IntKind.u32 n_11 (xorW IntKind.u32 (xorW IntKind.u32 n_4 n_5) n_6))
 (xorW IntKind.u32 (andW IntKind.u32 n_7 n_8) (andW IntKind.u32 (comW IntKind.u32 n_9) n_10)))
 n_12)
 n_13)
 (xorW IntKind.u32 (xorW IntKind.u32 n_17 n_18) n_19))
 (xorW IntKind.u32 (xorW IntKind.u32 (andW IntKind.u32 n_20 n_21) (andW IntKind.u32 n_22 n_23)) (andW IntKind.u32 n_24 n_25))),
 Value.int IntKind.u32 n_26, Value.int IntKind.u32 n_27, Value.int IntKind.u32 n_28,
 Value.int IntKind.u32
 (addW IntKind.u32 n_29
 (addW IntKind.u32
 (addW IntKind.u32
 (addW IntKind.u32 (addW IntKind.u32 n_11 (xorW IntKind.u32 (xorW IntKind.u32 n_4 n_5) n_6))
 (xorW IntKind.u32 (andW IntKind.u32 n_7 n_8) (andW IntKind.u32 (comW IntKind.u32 n_9) n_10)))
 n_12)
 n_13)),
 Value.int IntKind.u32 n_30, Value.int IntKind.u32 n_31, Value.int IntKind.u32 n_32]
 39 →
 ∃ (m' : Nat), lessN m' m ∧ I [Value.slice (some (Addr.mk h'.next 0 none)) 8 8, Value.int IntKind.i64 (addW IntKind.i64 n 1)] m' h'_1
 else
 ∃ (I : List Value → Nat → Hp → Prop),
 (∃ (m : Nat), I [Value.slice none 0 0, Value.int IntKind.i64 0] m h) ∧
 ∀ (a : Option Addr) (l c : Nat) (n : Int) (m : Nat) (h : Hp),
 I [Value.slice a l c, Value.int IntKind.i64 n] m h →
 if ltI n 8 = true then
 (a0.isSome = true ∧ inR n l0) ∧
 ∃ (n_1 : Int),
 (plainA (some (Addr.mk (blk a0) (plusI (off a0) n 1) none)) = true ∧ h.cellsAt (blk a0) (plusI (off a0) n 1) 1 = some [Value.int IntKind.u32 n_1]) ∧
 (a_4.isSome = true ∧ inR n l_1) ∧
 ∃ (n_2 : Int),
 (plainA (some (Addr.mk (blk a_4) (plusI (off a_4) n 1) none)) = true ∧ h.cellsAt (blk a_4) (plusI (off a_4) n 1) 1 = some [Value.int IntKind.u32 n_2]) ∧
 ∀ (h' : Hp),
 h' = h.alloc [Value.int IntKind.u32 (addW IntKind.u32 n_1 n_2)] 39 →
 ∃ (a_8 : Option Addr), ∃ (m_1 : Nat), ∃ (n_3 : Nat), ∃ (h'_1 : Hp), cappend Tryz.prog 78 78 (Value.slice a l c) (Value.slice (some (Addr.mk h.next 0 none)) 1 1) h' = some (Value.slice a_8 m_1 n_3, h'_1) ∧ ∃ (m' : Nat), lessN m' m ∧ I [Value.slice a_8 m_1 n_3, Value.int IntKind.i64 (addW IntKind.i64 n 1)] m' h'_1
 else K (Value.slice a l c) h) := by kernel_rfl

def shp255 : Nat → List (Tmp × TypeId) := fun i => if i = 4 then [(6, 78), (7, 3)] else if i = 9 then [(9, 3)] else []
theorem vc255 (C : FuncId → List Value → Hp → (Value → Hp → Prop) → Prop) (a0 a1 : Option Addr) (l0 c0 l1 c1 : Nat) (s : ByteArray) (h : Hp) (K : Value → Hp → Prop) : vBody Tryz.prog C pf shp255 Tryz.f255 (Tryz.f255.body.getD .skip) [.agg #[.slice a0 l0 c0, .slice a1 l1 c1], .string s] h K = (
 ∀ (h' : Hp),
 h' = h.alloc [Value.slice a0 l0 c0, Value.slice a1 l1 c1] 377 →
 ∀ (h'_1 : Hp),
 h'_1 =
 h'.alloc
 [Value.int IntKind.u8 (Int.ofNat 0), Value.int IntKind.u8 (Int.ofNat 0), Value.int IntKind.u8 (Int.ofNat 0), Value.int IntKind.u8 (Int.ofNat 0), Value.int IntKind.u8 (Int.ofNat 0), Value.int IntKind.u8 (Int.ofNat 0), Value.int IntKind.u8 (Int.ofNat 0), Value.int IntKind.u8 (Int.ofNat 0), Value.int IntKind.u8 (Int.ofNat 0), Value.int IntKind.u8 (Int.ofNat 0),
 Value.int IntKind.u8 (Int.ofNat 0), Value.int IntKind.u8 (Int.ofNat 0), Value.int IntKind.u8 (Int.ofNat 0), Value.int IntKind.u8 (Int.ofNat 0), Value.int IntKind.u8 (Int.ofNat 0), Value.int IntKind.u8 (Int.ofNat 0), Value.int IntKind.u8 (Int.ofNat 0), Value.int IntKind.u8 (Int.ofNat 0), Value.int IntKind.u8 (Int.ofNat 0), Value.int IntKind.u8 (Int.ofNat 0),
 Value.int IntKind.u8 (Int.ofNat 0), Value.int IntKind.u8 (Int.ofNat 0), Value.int IntKind.u8 (Int.ofNat 0), Value.int IntKind.u8 (Int.ofNat 0), Value.int IntKind.u8 (Int.ofNat 0), Value.int IntKind.u8 (Int.ofNat 0), Value.int IntKind.u8 (Int.ofNat 0), Value.int IntKind.u8 (Int.ofNat 0), Value.int IntKind.u8 (Int.ofNat 0), Value.int IntKind.u8 (Int.ofNat 0),
 Value.int IntKind.u8 (Int.ofNat 0), Value.int IntKind.u8 (Int.ofNat 0)]
 41 →
 C 263 [Value.string s] h'_1 fun (v : Value) (h'_2 : Hp) =>
 ∃ (a : Option Addr),
 ∃ (l : Nat),
 ∃ (c : Nat),
 v = Value.slice a l c ∧
 plainA (some (Addr.mk h.next 0 none)) = true ∧
 ∃ (a_1 : Option Addr),
 ∃ (l_1 : Nat),
 ∃ (c_1 : Nat),
 (plainA (some (Addr.mk h.next 0 none)) = true ∧ h'_2.cellsAt h.next 0 1 = some [Value.slice a_1 l_1 c_1]) ∧
 ∃ (I : List Value → Nat → Hp → Prop),
 (∃ (m : Nat), I [Value.slice a_1 l_1 c_1, Value.int IntKind.i64 0] m h'_2) ∧
 ∀ (a_2 : Option Addr) (l_2 c_2 : Nat) (n : Int) (m : Nat) (h_1 : Hp),
 I [Value.slice a_2 l_2 c_2, Value.int IntKind.i64 n] m h_1 →
 if ltI n (natI l) = true then
 plainA (some (Addr.mk h.next 0 none)) = true ∧
 ∃ (a_4 : Option Addr),
 ∃ (l : Nat),
 ∃ (c_3 : Nat),
 (plainA (some (Addr.mk h.next 1 none)) = true ∧ h_1.cellsAt h.next 1 1 = some [Value.slice a_4 l c_3]) ∧
 (cutOk n (addW IntKind.i64 n 64) (natI c) (natI c) ∧ spotOk 1 a) ∧
 C 264 [Value.slice a_2 l_2 c_2, Value.slice a_4 l c_3, Value.slice (cutA n 1 a) (diffN (addW IntKind.i64 n 64) n) (diffN (natI c) n)] h_1 fun (v : Value) (h' : Hp) => ∃ (a : Option Addr), ∃ (l : Nat), ∃ (c : Nat), v = Value.slice a l c ∧ ∃ (m' : Nat), lessN m' m ∧ I [Value.slice a l c, Value.int IntKind.i64 (addW IntKind.i64 n 64)] m' h'
 else
 ∀ (h'_3 : Hp),
 h'_3 =
 h_1.alloc
 [Value.int IntKind.u8 (Int.ofNat 0), Value.int IntKind.u8 (Int.ofNat 0), Value.int IntKind.u8 (Int.ofNat 0), Value.int IntKind.u8 (Int.ofNat 0), Value.int IntKind.u8 (Int.ofNat 0), Value.int IntKind.u8 (Int.ofNat 0), Value.int IntKind.u8 (Int.ofNat 0), Value.int IntKind.u8 (Int.ofNat 0), Value.int IntKind.u8 (Int.ofNat 0),
 Value.int IntKind.u8 (Int.ofNat 0), Value.int IntKind.u8 (Int.ofNat 0), Value.int IntKind.u8 (Int.ofNat 0), Value.int IntKind.u8 (Int.ofNat 0), Value.int IntKind.u8 (Int.ofNat 0), Value.int IntKind.u8 (Int.ofNat 0), Value.int IntKind.u8 (Int.ofNat 0), Value.int IntKind.u8 (Int.ofNat 0), Value.int IntKind.u8 (Int.ofNat 0),
 Value.int IntKind.u8 (Int.ofNat 0), Value.int IntKind.u8 (Int.ofNat 0), Value.int IntKind.u8 (Int.ofNat 0), Value.int IntKind.u8 (Int.ofNat 0), Value.int IntKind.u8 (Int.ofNat 0), Value.int IntKind.u8 (Int.ofNat 0), Value.int IntKind.u8 (Int.ofNat 0), Value.int IntKind.u8 (Int.ofNat 0), Value.int IntKind.u8 (Int.ofNat 0),
 Value.int IntKind.u8 (Int.ofNat 0), Value.int IntKind.u8 (Int.ofNat 0), Value.int IntKind.u8 (Int.ofNat 0), Value.int IntKind.u8 (Int.ofNat 0), Value.int IntKind.u8 (Int.ofNat 0)]
 41 →
 ∃ (I : List Value → Nat → Hp → Prop),
 (∃ (m : Nat), I [Value.int IntKind.i64 0] m h'_3) ∧
 ∀ (n : Int) (m : Nat) (h : Hp),
 I [Value.int IntKind.i64 n] m h →
 if ltI n 32 = true then
 nonzero 4 ∧
 (a_2.isSome = true ∧ inR (quoW IntKind.i64 n 4) l_2) ∧
 ∃ (n_1 : Int),
 (plainA (some (Addr.mk (blk a_2) (plusI (off a_2) (quoW IntKind.i64 n 4) 1) none)) = true ∧ h.cellsAt (blk a_2) (plusI (off a_2) (quoW IntKind.i64 n 4) 1) 1 = some [Value.int IntKind.u32 n_1]) ∧
 nonzero 4 ∧
 nonneg (toW IntKind.u64 (subW IntKind.i64 24 (mulW IntKind.i64 8 (remW n 4)))) ∧
 (plainA (some (Addr.mk h_1.next 0 none)) = true ∧ inR n 32) ∧
 plainA (some (Addr.mk h_1.next (plusI 0 n 1) none)) = true ∧ ∃ (h' : Hp), h.store h_1.next (plusI 0 n 1) [Value.int IntKind.u8 (toW IntKind.u8 (shrW IntKind.u32 n_1 (toW IntKind.u64 (subW IntKind.i64 24 (mulW IntKind.i64 8 (remW n 4))))))] = some h' ∧ ∃ (m' : Nat), lessN m' m ∧ I [Value.int IntKind.i64 (addW IntKind.i64 n 1)] m' h'
 else
 ∃ (n : Int),
 ∃ (n_1 : Int),
 ∃ (n_2 : Int),
 ∃ (n_3 : Int),
 ∃ (n_4 : Int),
 ∃ (n_5 : Int),
 ∃ (n_6 : Int),
 ∃ (n_7 : Int),
 ∃ (n_8 : Int),
 ∃ (n_9 : Int),
 ∃ (n_10 : Int),
 ∃ (n_11 : Int),
 ∃ (n_12 : Int),
 ∃ (n_13 : Int),
 ∃ (n_14 : Int),
 ∃ (n_15 : Int),
 ∃ (n_16 : Int),
 ∃ (n_17 : Int),
 ∃ (n_18 : Int),
 ∃ (n_19 : Int),
 ∃ (n_20 : Int),
 ∃ (n_21 : Int),
 ∃ (n_22 : Int),
 ∃ (n_23 : Int),
 ∃ (n_24 : Int),
 ∃ (n_25 : Int),
 ∃ (n_26 : Int),
 ∃ (n_27 : Int),
 ∃ (n_28 : Int),
 ∃ (n_29 : Int),
 ∃ (n_30 : Int),
 ∃ (n_31 : Int),
 (plainA (some (Addr.mk h_1.next 0 none)) = true ∧
 h.cellsAt h_1.next 0 32 =
 some
 [Value.int IntKind.u8 n, Value.int IntKind.u8 n_1, Value.int IntKind.u8 n_2, Value.int IntKind.u8 n_3, Value.int IntKind.u8 n_4, Value.int IntKind.u8 n_5, Value.int IntKind.u8 n_6, Value.int IntKind.u8 n_7, Value.int IntKind.u8 n_8, Value.int IntKind.u8 n_9,
 Value.int IntKind.u8 n_10, Value.int IntKind.u8 n_11, Value.int IntKind.u8 n_12, Value.int IntKind.u8 n_13, Value.int IntKind.u8 n_14, Value.int IntKind.u8 n_15, Value.int IntKind.u8 n_16, Value.int IntKind.u8 n_17, Value.int IntKind.u8 n_18, Value.int IntKind.u8 n_19,
 Value.int IntKind.u8 n_20, Value.int IntKind.u8 n_21, Value.int IntKind.u8 n_22, Value.int IntKind.u8 n_23, Value.int IntKind.u8 n_24, Value.int IntKind.u8 n_25, Value.int IntKind.u8 n_26, Value.int IntKind.u8 n_27, Value.int IntKind.u8 n_28, Value.int IntKind.u8 n_29,
 Value.int IntKind.u8 n_30, Value.int IntKind.u8 n_31]) ∧
 plainA (some (Addr.mk h'.next 0 none)) = true ∧
 ∃ (h'_4 : Hp),
 h.store h'.next 0
 [Value.int IntKind.u8 n, Value.int IntKind.u8 n_1, Value.int IntKind.u8 n_2, Value.int IntKind.u8 n_3, Value.int IntKind.u8 n_4, Value.int IntKind.u8 n_5, Value.int IntKind.u8 n_6, Value.int IntKind.u8 n_7, Value.int IntKind.u8 n_8, Value.int IntKind.u8 n_9,
 Value.int IntKind.u8 n_10, Value.int IntKind.u8 n_11, Value.int IntKind.u8 n_12, Value.int IntKind.u8 n_13, Value.int IntKind.u8 n_14, Value.int IntKind.u8 n_15, Value.int IntKind.u8 n_16, Value.int IntKind.u8 n_17, Value.int IntKind.u8 n_18, Value.int IntKind.u8 n_19,
 Value.int IntKind.u8 n_20, Value.int IntKind.u8 n_21, Value.int IntKind.u8 n_22, Value.int IntKind.u8 n_23, Value.int IntKind.u8 n_24, Value.int IntKind.u8 n_25, Value.int IntKind.u8 n_26, Value.int IntKind.u8 n_27, Value.int IntKind.u8 n_28, Value.int IntKind.u8 n_29,
 Value.int IntKind.u8 n_30, Value.int IntKind.u8 n_31] =
 some h'_4 ∧
 ∃ (n : Int),
 ∃ (n_32 : Int),
 ∃ (n_33 : Int),
 ∃ (n_34 : Int),
 ∃ (n_35 : Int),
 ∃ (n_36 : Int),
 ∃ (n_37 : Int),
 ∃ (n_38 : Int),
 ∃ (n_39 : Int),
 ∃ (n_40 : Int),
 ∃ (n_41 : Int),
 ∃ (n_42 : Int),
 ∃ (n_43 : Int),
 ∃ (n_44 : Int),
 ∃ (n_45 : Int),
 ∃ (n_46 : Int),
 ∃ (n_47 : Int),
 ∃ (n_48 : Int),
 ∃ (n_49 : Int),
 ∃ (n_50 : Int),
 ∃ (n_51 : Int),
 ∃ (n_52 : Int),
 ∃ (n_53 : Int),
 ∃ (n_54 : Int),
 ∃ (n_55 : Int),
 ∃ (n_56 : Int),
 ∃ (n_57 : Int),
 ∃ (n_58 : Int),
 ∃ (n_59 : Int),
 ∃ (n_60 : Int),
 ∃ (n_61 : Int),
 ∃ (n_62 : Int),
 (plainA (some (Addr.mk h'.next 0 none)) = true ∧
 h'_4.cellsAt h'.next 0 32 =
 some
 [Value.int IntKind.u8 n, Value.int IntKind.u8 n_32, Value.int IntKind.u8 n_33, Value.int IntKind.u8 n_34, Value.int IntKind.u8 n_35, Value.int IntKind.u8 n_36, Value.int IntKind.u8 n_37,
 Value.int IntKind.u8 n_38, Value.int IntKind.u8 n_39, Value.int IntKind.u8 n_40, Value.int IntKind.u8 n_41, Value.int IntKind.u8 n_42, Value.int IntKind.u8 n_43, Value.int IntKind.u8 n_44,
 Value.int IntKind.u8 n_45, Value.int IntKind.u8 n_46, Value.int IntKind.u8 n_47, Value.int IntKind.u8 n_48, Value.int IntKind.u8 n_49, Value.int IntKind.u8 n_50, Value.int IntKind.u8 n_51,
 Value.int IntKind.u8 n_52, Value.int IntKind.u8 n_53, Value.int IntKind.u8 n_54, Value.int IntKind.u8 n_55, Value.int IntKind.u8 n_56, Value.int IntKind.u8 n_57, Value.int IntKind.u8 n_58,
 Value.int IntKind.u8 n_59, Value.int IntKind.u8 n_60, Value.int IntKind.u8 n_61, Value.int IntKind.u8 n_62]) ∧
 K
 (Value.agg
 (Array.mk
 [Value.int IntKind.u8 n, Value.int IntKind.u8 n_32, Value.int IntKind.u8 n_33, Value.int IntKind.u8 n_34, Value.int IntKind.u8 n_35, Value.int IntKind.u8 n_36, Value.int IntKind.u8 n_37,
 Value.int IntKind.u8 n_38, Value.int IntKind.u8 n_39, Value.int IntKind.u8 n_40, Value.int IntKind.u8 n_41, Value.int IntKind.u8 n_42, Value.int IntKind.u8 n_43, Value.int IntKind.u8 n_44,
 Value.int IntKind.u8 n_45, Value.int IntKind.u8 n_46, Value.int IntKind.u8 n_47, Value.int IntKind.u8 n_48, Value.int IntKind.u8 n_49, Value.int IntKind.u8 n_50, Value.int IntKind.u8 n_51,
 Value.int IntKind.u8 n_52, Value.int IntKind.u8 n_53, Value.int IntKind.u8 n_54, Value.int IntKind.u8 n_55, Value.int IntKind.u8 n_56, Value.int IntKind.u8 n_57, Value.int IntKind.u8 n_58,
 Value.int IntKind.u8 n_59, Value.int IntKind.u8 n_60, Value.int IntKind.u8 n_61, Value.int IntKind.u8 n_62]))
 h'_4) := by kernel_rfl

def shp256 : Nat → List (Tmp × TypeId) := fun i => []
theorem vc256 (C : FuncId → List Value → Hp → (Value → Hp → Prop) → Prop)  (h : Hp) (K : Value → Hp → Prop) : vBody Tryz.prog C pf shp256 Tryz.f256 (Tryz.f256.body.getD .skip) [] h K = (
 ∀ (h' : Hp),
 h' = h.alloc [Value.slice none 0 0, Value.slice none 0 0] 377 →
 ∀ (h'_1 : Hp),
 h'_1 = h'.alloc [Value.int IntKind.u32 1779033703, Value.int IntKind.u32 3144134277, Value.int IntKind.u32 1013904242, Value.int IntKind.u32 2773480762, Value.int IntKind.u32 1359893119, Value.int IntKind.u32 2600822924, Value.int IntKind.u32 528734635, Value.int IntKind.u32 1541459225] 39 →
 ∀ (h'_2 : Hp),
 h'_2 =
 h'_1.alloc
 [Value.int IntKind.u32 1116352408, Value.int IntKind.u32 1899447441, Value.int IntKind.u32 3049323471, Value.int IntKind.u32 3921009573, Value.int IntKind.u32 961987163, Value.int IntKind.u32 1508970993, Value.int IntKind.u32 2453635748, Value.int IntKind.u32 2870763221, Value.int IntKind.u32 3624381080, Value.int IntKind.u32 310598401, Value.int IntKind.u32 607225278,
 Value.int IntKind.u32 1426881987, Value.int IntKind.u32 1925078388, Value.int IntKind.u32 2162078206, Value.int IntKind.u32 2614888103, Value.int IntKind.u32 3248222580, Value.int IntKind.u32 3835390401, Value.int IntKind.u32 4022224774, Value.int IntKind.u32 264347078, Value.int IntKind.u32 604807628, Value.int IntKind.u32 770255983, Value.int IntKind.u32 1249150122,
 Value.int IntKind.u32 1555081692, Value.int IntKind.u32 1996064986, Value.int IntKind.u32 2554220882, Value.int IntKind.u32 2821834349, Value.int IntKind.u32 2952996808, Value.int IntKind.u32 3210313671, Value.int IntKind.u32 3336571891, Value.int IntKind.u32 3584528711, Value.int IntKind.u32 113926993, Value.int IntKind.u32 338241895, Value.int IntKind.u32 666307205,
 Value.int IntKind.u32 773529912, Value.int IntKind.u32 1294757372, Value.int IntKind.u32 1396182291, Value.int IntKind.u32 1695183700, Value.int IntKind.u32 1986661051, Value.int IntKind.u32 2177026350, Value.int IntKind.u32 2456956037, Value.int IntKind.u32 2730485921, Value.int IntKind.u32 2820302411, Value.int IntKind.u32 3259730800, Value.int IntKind.u32 3345764771,
 Value.int IntKind.u32 3516065817, Value.int IntKind.u32 3600352804, Value.int IntKind.u32 4094571909, Value.int IntKind.u32 275423344, Value.int IntKind.u32 430227734, Value.int IntKind.u32 506948616, Value.int IntKind.u32 659060556, Value.int IntKind.u32 883997877, Value.int IntKind.u32 958139571, Value.int IntKind.u32 1322822218, Value.int IntKind.u32 1537002063,
 Value.int IntKind.u32 1747873779, Value.int IntKind.u32 1955562222, Value.int IntKind.u32 2024104815, Value.int IntKind.u32 2227730452, Value.int IntKind.u32 2361852424, Value.int IntKind.u32 2428436474, Value.int IntKind.u32 2756734187, Value.int IntKind.u32 3204031479, Value.int IntKind.u32 3329325298]
 39 →
 plainA (some (Addr.mk h.next 0 none)) = true ∧
 ∃ (h'_3 : Hp),
 h'_2.store h.next 0 [Value.slice (some (Addr.mk h'.next 0 none)) 8 8, Value.slice (some (Addr.mk h'_1.next 0 none)) 64 64] = some h'_3 ∧
 ∃ (a : Option Addr), ∃ (l : Nat), ∃ (c : Nat), ∃ (a_1 : Option Addr), ∃ (l_1 : Nat), ∃ (c_1 : Nat), (plainA (some (Addr.mk h.next 0 none)) = true ∧ h'_3.cellsAt h.next 0 2 = some [Value.slice a l c, Value.slice a_1 l_1 c_1]) ∧ K (Value.agg (Array.mk [Value.slice a l c, Value.slice a_1 l_1 c_1])) h'_3) := by kernel_rfl
end Go.Proofs.YtpgedmighmolnaaGreat.vc

/- Contracts of the reference's sha256: words turned, and the padding. -/
set_option linter.unusedVariables false
namespace Go.Proofs.YtpgedmighmolnaaGreat.sb
open Go Go.Cn Go.Cn.Sha Go.Proofs Go.Proofs.YtpgedmighmolnaaGreat.vc

abbrev C := SCalls Tryz.prog
theorem fol : Tryz.prog.follows .mixedOrders = true := by kernel_rfl

theorem c269 {x n : Nat} (hx : W32 x) (h0 : 0 < n) (h1 : n < 32) (h : Hp) : C 269 [.int .u32 x, .int .i64 n] h fun v h' => v = .int .u32 (rot n x : Nat) ∧ h' = h := by
  refine SCalls_of_vw fol (pf := pf) (shp := shp269) (f := 269) (fn := Tryz.f269) (by kernel_rfl) (c := Tryz.f269.body.getD .skip) (by kernel_rfl) (by kernel_rfl) fun wf => ?_
  rw [vc269]
  have e1 : toW .u64 (n : Int) = (n : Nat) := by unfold toW; rw [wrap_u64, Nat.mod_eq_of_lt (by omega)]
  have e2 : subW .i64 32 (n : Int) = ((32 - n : Nat) : Int) := by rw [subW_small (by omega) (by omega)]; omega
  have e3 : toW .u64 ((32 - n : Nat) : Int) = ((32 - n : Nat) : Int) := by unfold toW; rw [wrap_u64, Nat.mod_eq_of_lt (by omega)]
  rw [e1, e2, e3, shrW_nat _ _ _ (show n ≤ 32 by omega), shlW_u32 _ _ (by omega), orW_u32 (hx.shr n) (.mod _)]
  exact ⟨Int.natCast_nonneg _, Int.natCast_nonneg _, rfl, rfl⟩

/-- Numbers as cells. -/
def u8 (n : Nat) : Value := .int .u8 n
def u32 (n : Nat) : Value := .int .u32 n
def bytes8 (s : ByteArray) : List Nat := s.data.toList.map UInt8.toNat

theorem byteCells_eq (s : ByteArray) : byteCells s = (bytes8 s).map u8 := by
  unfold byteCells bytes8
  simp [u8, List.map_map, Function.comp]

theorem app201 : AppT Tryz.prog 201 201 5 1 1 := AppT.of _ (by kernel_rfl)
theorem app78 : AppT Tryz.prog 78 78 39 1 4 := AppT.of _ (by kernel_rfl)

/-- append of one element to a slice that fills its block (it may be empty). -/
theorem full_append1 {h h1 : Hp} (wf : Wf h) {t xt elem e : TypeId} {w bytes l b g : Nat} (ht : AppT Tryz.prog t xt elem w bytes) {S : Nat → Prop} (hS : ∀ g, h.next ≤ g → S g) {cs : List Value} (hb : Blk h b (some g) cs) (hl : cs.length = l * w) (hg : S g)
    {new : List Value} (he : h1 = h.alloc new e) (hnl : new.length = w) (hv : new.all isCell = true) (hr : roomy (l + 1) bytes = true) :
    ∃ a' h', cappend Tryz.prog t xt (.slice (some ⟨b, 0, some w⟩) l l) (.slice (some ⟨h.next, 0, none⟩) 1 1) h1 = some (.slice a' (l + 1) (l + 1), h') ∧ Bd h' w S a' (l + 1) (l + 1) (cs ++ new) ∧ Keep S h h' ∧ Wf h' := by
  by_cases h0 : 0 < l
  · exact Bd.append1 wf ht hS (.inr ⟨b, g, rfl, hg, rfl, h0, hl, hb⟩) he hnl hv hr
  · have : l = 0 := by omega
    subst this
    subst he
    have hd := one_data wf hnl e
    have k := alloc_keep wf new e
    have wf1 := alloc_wf wf new e
    have hb1 := Kept.blk k hb
    rw [cappend_eq ht (Nat.le_refl _) hd (by omega) hr]
    simp only [Nat.zero_mul] at hl
    obtain ⟨h', x1, x2, x3, x4, x5, x6⟩ := hb1.extend wf1 (o := 0) (e := 0) (new := new) (Nat.le_refl _) (Nat.zero_le _) hv
    have hcs : cs = [] := List.eq_nil_of_length_eq_zero hl
    subst hcs
    refine ⟨some ⟨(h.alloc new e).next, 0, some w⟩, h', ?_, .inr ⟨_, g, rfl, hg, rfl, by omega, by simp [hnl], by simpa using x2⟩, ?_, x6⟩
    · simp only [Nat.zero_mul, Nat.zero_add, if_true]
      rw [if_neg (by omega), if_neg (by omega)]
      rw [x1]
      rfl
    · exact (k.mono wf (S' := S) fun _ _ hf => hf.elim).trans wf x4 fun x _ hx => by rw [hx]; exact hg

theorem isCell_u8 (l : List Nat) : (l.map u8).all isCell = true := by simp [u8, isCell]
theorem isCell_u32 (l : List Nat) : (l.map u32).all isCell = true := by simp [u32, isCell]

theorem lenBytes_take (n j : Nat) (hj : j < 8) : (lenBytes n).take (j + 1) = (lenBytes n).take j ++ [((n * 8) % 18446744073709551616) >>> (56 - 8 * j) % 256] := by
  match j, hj with
  | 0, _ | 1, _ | 2, _ | 3, _ | 4, _ | 5, _ | 6, _ | 7, _ => rfl

theorem rem64 (l : Nat) : remW (natI l) 64 = ((l % 64 : Nat) : Int) := by
  unfold remW natI
  rw [Int.tmod_eq_emod_of_nonneg (Int.natCast_nonneg _)]
  omega

theorem mul8 (n : Nat) : mulW .u64 (toW .u64 (n : Int)) 8 = ((n * 8 % 18446744073709551616 : Nat) : Int) := by
  unfold mulW toW
  rw [wrap_u64]
  have : (((n % 18446744073709551616 : Nat) : Int) * 8) = ((n % 18446744073709551616 * 8 : Nat) : Int) := (Int.natCast_mul _ 8).symm
  rw [this, wrap_u64, Nat.mod_mul_mod]

theorem c263 (s : ByteArray) (h : Hp) (hs : s.size ≤ 1073741824) : C 263 [.string s] h fun v h' => ∃ a l, v = .slice a l l ∧ l = (pad (bytes8 s)).length ∧ Bd h' 1 (h.next ≤ ·) a l l ((pad (bytes8 s)).map u8) ∧ Kept h h' := by
  refine SCalls_of_vw fol (pf := pf) (shp := shp263) (f := 263) (fn := Tryz.f263) (by kernel_rfl) (c := Tryz.f263.body.getD .skip) (by kernel_rfl) (by kernel_rfl) fun wf => ?_
  rw [vc263]
  intro h1 e1 h2 e2
  obtain ⟨b1, k1, n1, wf1⟩ := new_blk wf e1
  have hlen : (bytes8 s).length = s.size := by simp [bytes8]
  rw [byteCells_eq] at b1
  obtain ⟨a, h3, x1, x2, x3, x4⟩ := full_append1 wf1 app201 (S := (h.next ≤ ·)) (fun g hg => by omega) b1 (l := s.size) (by simp [hlen]) (Nat.le_refl _) e2 rfl rfl (roomy_of (by omega))
  refine ⟨a, s.size + 1, s.size + 1, h3, x1, ?_⟩
  have k3 : Kept h h3 := k1.trans wf x3 fun g hg hs => by omega
  refine ⟨fun vals m hh => ∃ (a : Option Addr) (j : Nat), [.slice a (s.size + 1 + j) (s.size + 1 + j)] = vals ∧ m = zeros s.size - j ∧ j ≤ zeros s.size ∧ Wf hh ∧ Kept h hh ∧ Bd hh 1 (h.next ≤ ·) a (s.size + 1 + j) (s.size + 1 + j) ((bytes8 s ++ 128 :: List.replicate j 0).map u8), ⟨zeros s.size, a, 0, rfl, rfl, Nat.zero_le _, x4, k3, by simpa [u8] using x2⟩, ?_⟩
  rintro a l c m hh ⟨a', j, e, rfl, hj, wfh, kh, bd⟩
  simp at e
  obtain ⟨rfl, rfl, rfl⟩ := e
  refine ⟨by simp [nonzero], ?_⟩
  have hz : zeros s.size < 64 := Nat.mod_lt _ (by decide)
  rw [rem64]
  by_cases hc : neI (((s.size + 1 + j) % 64 : Nat) : Int) 56 = true
  · rw [if_pos hc]
    rw [neI_iff] at hc
    have hjz : j < zeros s.size := by
      unfold zeros at *
      omega
    intro h4 e4
    obtain ⟨a2, h5, y1, y2, y3, y4⟩ := Bd.append1 wfh app201 (S := (h.next ≤ ·)) (fun g hg => by have := kh.next; omega) bd e4 rfl rfl (roomy_of (by omega))
    refine ⟨a2, _, _, h5, y1, zeros s.size - (j + 1), by simp only [lessN]; omega, a2, j + 1, rfl, rfl, by omega, y4, kh.trans wf y3 fun g hg hs => by omega, ?_⟩
    rw [List.replicate_succ']
    show Bd h5 1 (h.next ≤ ·) a2 (s.size + 1 + j + 1) (s.size + 1 + j + 1) _
    simpa [u8] using y2
  · rw [if_neg hc]
    have hc' : ((s.size + 1 + j) % 64 : Nat) = 56 := by
      by_cases hq : ((s.size + 1 + j) % 64 : Nat) = 56
      · exact hq
      · exact absurd (neI_iff.2 (by omega)) hc
    have hjz : j = zeros s.size := by
      unfold zeros at *
      omega
    subst hjz
    refine ⟨fun vals m hh => ∃ (a : Option Addr) (j : Nat), [.slice a (s.size + 1 + zeros s.size + j) (s.size + 1 + zeros s.size + j), .int .i64 (7 - (j : Int))] = vals ∧ m = 8 - j ∧ j ≤ 8 ∧ Wf hh ∧ Kept h hh ∧ Bd hh 1 (h.next ≤ ·) a (s.size + 1 + zeros s.size + j) (s.size + 1 + zeros s.size + j) ((bytes8 s ++ 128 :: (List.replicate (zeros s.size) 0 ++ (lenBytes s.size).take j)).map u8), ⟨8, a', 0, rfl, rfl, Nat.zero_le _, wfh, kh, by simpa using bd⟩, ?_⟩
    rintro a l c n m h6 ⟨a3, j, e, rfl, hj, wf6, k6, bd6⟩
    simp at e
    obtain ⟨⟨rfl, rfl, rfl⟩, rfl⟩ := e
    by_cases hg : geI (7 - (j : Int)) 0 = true
    · rw [if_pos hg]
      rw [geI_iff] at hg
      have hj8 : j < 8 := by omega
      have m1 : mulW .i64 8 (7 - (j : Int)) = ((56 - 8 * j : Nat) : Int) := by
        unfold mulW
        rw [show (8 * (7 - (j : Int))) = ((56 - 8 * j : Nat) : Int) by omega]
        have := addW_small (a := ((56 - 8 * j : Nat) : Int)) (b := 0) (by omega) (by omega)
        unfold addW at this
        simpa using this
      have m2 : toW .u64 ((56 - 8 * j : Nat) : Int) = ((56 - 8 * j : Nat) : Int) := by unfold toW; rw [wrap_u64, Nat.mod_eq_of_lt (by omega)]
      have m3 : mulW .u64 (toW .u64 (natI (lenS s))) 8 = ((s.size * 8 % 18446744073709551616 : Nat) : Int) := mul8 s.size
      rw [m1, m2, m3, shrW_nat _ _ _ (show 56 - 8 * j ≤ 64 by omega)]
      have m4 : ∀ x : Nat, toW .u8 (x : Int) = ((x % 256 : Nat) : Int) := fun x => by unfold toW; rw [wrap_u8]
      rw [m4]
      refine ⟨Int.natCast_nonneg _, ?_⟩
      have m5 := lenBytes_take s.size j hj8
      generalize (s.size * 8 % 18446744073709551616) >>> (56 - 8 * j) % 256 = bt at m5 ⊢
      clear m1 m2 m3 m4
      intro h7 e7
      obtain ⟨a2, h8, y1, y2, y3, y4⟩ := Bd.append1 wf6 app201 (S := (h.next ≤ ·)) (fun g hg => by have := k6.next; omega) bd6 e7 rfl rfl (roomy_of (by omega))
      refine ⟨a2, _, _, h8, y1, 8 - (j + 1), by simp only [lessN]; omega, a2, j + 1, ?_, rfl, by omega, y4, k6.trans wf y3 fun g hg hs => by omega, ?_⟩
      · rw [subW_small (by omega) (by omega), show (7 - (j : Int) - 1) = 7 - ((j + 1 : Nat) : Int) by omega]
        rfl
      · rw [m5]
        show Bd h8 1 (h.next ≤ ·) a2 (s.size + 1 + zeros s.size + j + 1) (s.size + 1 + zeros s.size + j + 1) _
        simpa [u8] using y2
    · rw [if_neg hg]
      have hj8 : j = 8 := by
        by_cases hq : j = 8
        · exact hq
        · exact absurd (geI_iff.2 (by omega)) hg
      subst hj8
      have hl8 : (lenBytes s.size).length = 8 := rfl
      have hp : (bytes8 s ++ 128 :: (List.replicate (zeros s.size) 0 ++ (lenBytes s.size).take 8)) = pad (bytes8 s) := by
        unfold pad
        rw [hlen, List.take_of_length_le (by rw [hl8]; omega)]
      rw [hp] at bd6
      have hpl : (pad (bytes8 s)).length = s.size + 1 + zeros s.size + 8 := by
        unfold pad
        simp only [List.length_append, List.length_cons, List.length_replicate, hlen, hl8]
        omega
      exact ⟨a3, _, rfl, hpl.symm, bd6, k6⟩
end Go.Proofs.YtpgedmighmolnaaGreat.sb

/- Contract of the reference's block of sha256. -/
set_option linter.unusedVariables false
namespace Go.Proofs.YtpgedmighmolnaaGreat.sb
open Go Go.Cn Go.Cn.Sha Go.Proofs Go.Proofs.YtpgedmighmolnaaGreat.vc

theorem flat_map {f : Nat → Value} : ∀ L : List Nat, L.map f = L.flatMap fun n => [f n]
  | [] => rfl
  | x :: L => by simp [flat_map L]

theorem rdx {f : Nat → Value} {h : Hp} {g : Option Nat} {a : Option Addr} {l c : Nat} {L : List Nat} (s : SlT (fun n => [f n]) 1 h g a l c L) {i x : Nat} (hx : L[i]? = some x) :
    (a.isSome = true ∧ inR (i : Int) l) ∧ (plainA (some (Addr.mk (blk a) (plusI (off a) (i : Int) 1) none)) = true ∧ h.cellsAt (blk a) (plusI (off a) (i : Int) 1) 1 = some [f x]) := by
  have hr := SlT.get (enc := fun n => [f n]) (w := 1) (fun _ => rfl) s hx (j := 0) (m := 1) (Nat.le_refl 1)
  have hi : i < l := by rw [← s.len]; exact (List.getElem?_eq_some_iff.1 hx).1
  exact ⟨⟨hr.1, Int.natCast_nonneg _, Int.ofNat_lt.2 hi⟩, rfl, hr.2.trans rfl⟩

abbrev SL8 (h : Hp) (g : Option Nat) (a : Option Addr) (l c : Nat) (L : List Nat) : Prop := SlT (fun n => [u8 n]) 1 h g a l c L
abbrev SL32 (h : Hp) (g : Option Nat) (a : Option Addr) (l c : Nat) (L : List Nat) : Prop := SlT (fun n => [u32 n]) 1 h g a l c L

theorem bd_sl {f : Nat → Value} {h : Hp} {S : Nat → Prop} {a : Option Addr} {l c : Nat} {L : List Nat} (s : Bd h 1 S a l c (L.map f)) (hl : L.length = l) : ∃ g : Option Nat, SlT (fun n => [f n]) 1 h g a l c L := by
  rw [flat_map] at s
  obtain ⟨g, _, s⟩ := s.slT hl
  exact ⟨g, s⟩

theorem words_get : ∀ (i : Nat) (bs : List Nat) {b0 b1 b2 b3 : Nat}, bs[4 * i]? = some b0 → bs[4 * i + 1]? = some b1 → bs[4 * i + 2]? = some b2 → bs[4 * i + 3]? = some b3 → (words bs)[i]? = some (word b0 b1 b2 b3)
  | i, [], b0, b1, b2, b3, h0, h1, h2, h3 => by simp at h3
  | i, [a], b0, b1, b2, b3, h0, h1, h2, h3 => by simp at h3
  | i, [a, b], b0, b1, b2, b3, h0, h1, h2, h3 => by simp at h3
  | i, [a, b, c], b0, b1, b2, b3, h0, h1, h2, h3 => by simp at h3
  | 0, a :: b :: c :: d :: r, b0, b1, b2, b3, h0, h1, h2, h3 => by
    simp at h0 h1 h2 h3
    subst h0 h1 h2 h3
    rfl
  | i + 1, a :: b :: c :: d :: r, b0, b1, b2, b3, h0, h1, h2, h3 => by
    simp only [words, List.getElem?_cons_succ]
    refine words_get i r ?_ ?_ ?_ ?_
    · rw [show 4 * (i + 1) = 4 * i + 4 by omega] at h0; simpa using h0
    · rw [show 4 * (i + 1) + 1 = 4 * i + 1 + 4 by omega] at h1; simpa using h1
    · rw [show 4 * (i + 1) + 2 = 4 * i + 2 + 4 by omega] at h2; simpa using h2
    · rw [show 4 * (i + 1) + 3 = 4 * i + 3 + 4 by omega] at h3; simpa using h3

theorem words_len : ∀ (n : Nat) (bs : List Nat), bs.length = 4 * n → (words bs).length = n
  | 0, bs, h => by
    have : bs = [] := List.eq_nil_of_length_eq_zero (by omega)
    subst this; rfl
  | n + 1, a :: b :: c :: d :: r, h => by simp only [words, List.length_cons] at h ⊢; rw [words_len n r (by omega)]
  | n + 1, [], h => by simp at h
  | n + 1, [a], h => by simp only [List.length_cons, List.length_nil] at h; omega
  | n + 1, [a, b], h => by simp only [List.length_cons, List.length_nil] at h; omega
  | n + 1, [a, b, c], h => by simp only [List.length_cons, List.length_nil] at h; omega

theorem w_byte {a : Nat} (h : a < 256) : W32 a := by unfold W32; omega
theorem w_word {a b c d : Nat} (h : d < 256) : W32 (word a b c d) := (((W32.mod _).or (.mod _)).or (.mod _)).or (w_byte h)

theorem words_ok : ∀ (n : Nat) (bs : List Nat), bs.length = 4 * n → (∀ b ∈ bs, b < 256) → ∀ w ∈ words bs, W32 w
  | 0, bs, h, hb, w, hw => by
    have : bs = [] := List.eq_nil_of_length_eq_zero (by omega)
    subst this; simp [words] at hw
  | n + 1, a :: b :: c :: d :: r, h, hb, w, hw => by
    simp only [words, List.mem_cons] at hw
    rcases hw with rfl | hw
    · exact w_word (hb d (by simp))
    · exact words_ok n r (by simp only [List.length_cons] at h; omega) (fun x hx => hb x (by simp [hx])) w hw
  | n + 1, [], h, hb, w, hw => by simp at h
  | n + 1, [a], h, hb, w, hw => by simp [words] at hw
  | n + 1, [a, b], h, hb, w, hw => by simp [words] at hw
  | n + 1, [a, b, c], h, hb, w, hw => by simp [words] at hw

theorem word_eq {a b c d : Nat} (ha : a < 256) (hb : b < 256) (hc : c < 256) (hd : d < 256) : orW .u32 (orW .u32 (orW .u32 (shlW .u32 (toW .u32 (a : Int)) 24) (shlW .u32 (toW .u32 (b : Int)) 16)) (shlW .u32 (toW .u32 (c : Int)) 8)) (toW .u32 (d : Int)) = ((word a b c d : Nat) : Int) := by
  have e : ∀ {x : Nat}, x < 256 → toW .u32 (x : Int) = (x : Int) := fun hx => by unfold toW; rw [wrap_u32, Nat.mod_eq_of_lt (by omega)]
  rw [e ha, e hb, e hc, e hd]
  have s1 := shlW_u32 a 24 (by omega)
  have s2 := shlW_u32 b 16 (by omega)
  have s3 := shlW_u32 c 8 (by omega)
  simp only [Int.cast_ofNat_Int] at s1 s2 s3
  rw [s1, s2, s3, orW_u32 (.mod _) (.mod _), orW_u32 ((W32.mod _).or (.mod _)) (.mod _), orW_u32 (((W32.mod _).or (.mod _)).or (.mod _)) (w_byte hd)]
  rfl

theorem plan_len : ∀ (n : Nat) (r : List Nat), (plan n r).length = n + r.length
  | 0, r => by simp [plan]
  | n + 1, r => by simp only [plan, plan_len n, List.length_cons]; omega
theorem plan_ok : ∀ (n : Nat) (r : List Nat), (∀ w ∈ r, W32 w) → ∀ w ∈ plan n r, W32 w
  | 0, r, h => h
  | n + 1, r, h => plan_ok n _ fun w hw => by
    rcases List.mem_cons.1 hw with rfl | hw
    · exact .add _ _
    · exact h w hw

theorem rev_get {r : List Nat} {k : Nat} (hk : k < r.length) : r.reverse[r.length - 1 - k]? = some (r.getD k 0) := by
  rw [List.getElem?_reverse (by omega), show r.length - 1 - (r.length - 1 - k) = k by omega, List.getD_eq_getElem?_getD, List.getElem?_eq_getElem hk]
  rfl

theorem getD_ok {r : List Nat} (h : ∀ w ∈ r, W32 w) (k : Nat) : W32 (r.getD k 0) := by
  rw [List.getD_eq_getElem?_getD]
  cases hq : r[k]? with
  | none => exact (by unfold W32; simp)
  | some x => exact h x (List.mem_of_getElem? hq)

theorem s0_eq {x : Nat} (hx : W32 x) : xorW .u32 (xorW .u32 ((rot 7 x : Nat) : Int) ((rot 18 x : Nat) : Int)) (shrW .u32 (x : Int) 3) = ((s0 x : Nat) : Int) := by
  have := shrW_nat .u32 x 3 (by decide)
  simp only [Int.cast_ofNat_Int] at this
  rw [this, xorW_u32 (hx.rot _) (hx.rot _), xorW_u32 ((hx.rot _).xor (hx.rot _)) (hx.shr _)]
  rfl
theorem s1_eq {x : Nat} (hx : W32 x) : xorW .u32 (xorW .u32 ((rot 17 x : Nat) : Int) ((rot 19 x : Nat) : Int)) (shrW .u32 (x : Int) 10) = ((s1 x : Nat) : Int) := by
  have := shrW_nat .u32 x 10 (by decide)
  simp only [Int.cast_ofNat_Int] at this
  rw [this, xorW_u32 (hx.rot _) (hx.rot _), xorW_u32 ((hx.rot _).xor (hx.rot _)) (hx.shr _)]
  rfl
theorem x3_eq {a b c x : Nat} (hx : W32 x) : xorW .u32 (xorW .u32 ((rot a x : Nat) : Int) ((rot b x : Nat) : Int)) ((rot c x : Nat) : Int) = (((rot a x ^^^ rot b x) ^^^ rot c x : Nat) : Int) := by
  rw [xorW_u32 (hx.rot _) (hx.rot _), xorW_u32 ((hx.rot _).xor (hx.rot _)) (hx.rot _)]
theorem ch_eq {e f g : Nat} (he : W32 e) (hf : W32 f) (hg : W32 g) : xorW .u32 (andW .u32 (e : Int) (f : Int)) (andW .u32 (comW .u32 (e : Int)) (g : Int)) = ((ch e f g : Nat) : Int) := by
  rw [comW_u32 he, andW_u32 he hf, andW_u32 he.com hg, xorW_u32 (.and hf) (.and hg)]
  rfl
theorem maj_eq {a b c : Nat} (ha : W32 a) (hb : W32 b) (hc : W32 c) : xorW .u32 (xorW .u32 (andW .u32 (a : Int) (b : Int)) (andW .u32 (a : Int) (c : Int))) (andW .u32 (b : Int) (c : Int)) = ((maj a b c : Nat) : Int) := by
  rw [andW_u32 ha hb, andW_u32 ha hc, andW_u32 hb hc, xorW_u32 (.and hb) (.and hc), xorW_u32 ((W32.and hb).xor (.and hc)) (.and hc)]
  rfl

theorem mul4 {i : Nat} (hi : i < 16) : mulW .i64 4 (i : Int) = ((4 * i : Nat) : Int) := by
  unfold mulW
  have := addW_small (a := ((4 * i : Nat) : Int)) (b := 0) (by omega) (by omega)
  unfold addW at this
  rw [show (4 * (i : Int)) = ((4 * i : Nat) : Int) by omega]
  simpa using this
theorem addN {a : Nat} (b : Nat) (h : a + b < 4294967296) : addW .i64 (a : Int) (b : Int) = ((a + b : Nat) : Int) := by
  rw [addW_small (by omega) (by omega)]; omega
theorem subN {a b : Nat} (h : b ≤ a) (ha : a < 4294967296) : subW .i64 (a : Int) (b : Int) = ((a - b : Nat) : Int) := by
  rw [subW_small (by omega) (by omega)]; omega
end Go.Proofs.YtpgedmighmolnaaGreat.sb

/- Contract of the reference's block of sha256 (2). -/
set_option linter.unusedVariables false
namespace Go.Proofs.YtpgedmighmolnaaGreat.sb
open Go Go.Cn Go.Cn.Sha Go.Proofs Go.Proofs.YtpgedmighmolnaaGreat.vc

/-- The round's state, and what goes on. -/
def W8 (s : St) : Prop := W32 s.a ∧ W32 s.b ∧ W32 s.c ∧ W32 s.d ∧ W32 s.e ∧ W32 s.f ∧ W32 s.g ∧ W32 s.h

theorem W8.round {s : St} (h : W8 s) (k w : Nat) : W8 (round s k w) := ⟨.add _ _, h.1, h.2.1, h.2.2.1, .add _ _, h.2.2.2.2.1, h.2.2.2.2.2.1, h.2.2.2.2.2.2.1⟩
theorem rounds_ok : ∀ (ks ws : List Nat) {s : St}, W8 s → W8 (rounds ks ws s)
  | [], _, s, h => by simpa [rounds] using h
  | k :: ks, [], s, h => by simpa [rounds] using h
  | k :: ks, w :: ws, s, h => rounds_ok ks ws (h.round k w)

theorem of_to {hs : List Nat} (h : hs.length = 8) : ofSt (toSt hs) = hs := by
  match hs, h with
  | [a, b, c, d, e, f, g, x], _ => rfl
theorem to_ok {hs : List Nat} (h : hs.length = 8) (hw : ∀ w ∈ hs, W32 w) : W8 (toSt hs) := by
  match hs, h with
  | [a, b, c, d, e, f, g, x], _ => exact ⟨hw a (by simp), hw b (by simp), hw c (by simp), hw d (by simp), hw e (by simp), hw f (by simp), hw g (by simp), hw x (by simp)⟩

theorem zip_take {xs ys : List Nat} {i a b : Nat} (ha : xs[i]? = some a) (hb : ys[i]? = some b) : (List.zipWith add xs ys).take (i + 1) = (List.zipWith add xs ys).take i ++ [add a b] := by
  rw [List.take_add_one, List.getElem?_zipWith, ha, hb]
  rfl

theorem drop_get {L : List Nat} {t k : Nat} (h : L[t]? = some k) : L.drop t = k :: L.drop (t + 1) := by
  obtain ⟨hi, hx⟩ := List.getElem?_eq_some_iff.1 h
  rw [List.drop_eq_getElem_cons hi, hx]

theorem K_len : K.length = 64 := rfl

/-- The words of a block's plan. -/
def wplan (bs : List Nat) : List Nat := (plan 48 (words bs).reverse).reverse

set_option maxRecDepth 4000 in
theorem c264 {h : Hp} {g0 g1 g2 : Option Nat} {a0 a1 a2 : Option Addr} {c0 c1 c2 : Nat} {hs bs : List Nat} (s0 : SL32 h g0 a0 8 c0 hs) (s1 : SL32 h g1 a1 64 c1 K) (s2 : SL8 h g2 a2 64 c2 bs) (hb : ∀ b ∈ bs, b < 256) (hw : ∀ w ∈ hs, W32 w) :
    C 264 [.slice a0 8 c0, .slice a1 64 c1, .slice a2 64 c2] h fun v h' => ∃ a, v = .slice a 8 8 ∧ Bd h' 1 (h.next ≤ ·) a 8 8 ((block hs bs).map u32) ∧ Kept h h' := by
  refine SCalls_of_vw fol (pf := pf) (shp := shp264) (f := 264) (fn := Tryz.f264) (by kernel_rfl) (c := Tryz.f264.body.getD .skip) (by kernel_rfl) (by kernel_rfl) fun wf => ?_
  rw [vc264]
  have hbl : bs.length = 64 := s2.len
  have hhl : hs.length = 8 := s0.len
  have hwl := words_len 16 bs hbl
  have hwo := words_ok 16 bs hbl hb
  refine ⟨fun vals m hh => ∃ (a : Option Addr) (i : Nat), [.slice a i i, .int .i64 (i : Int)] = vals ∧ m = 16 - i ∧ i ≤ 16 ∧ Wf hh ∧ Kept h hh ∧ Bd hh 1 (h.next ≤ ·) a i i (((words bs).take i).map u32), ⟨16, none, 0, rfl, rfl, Nat.zero_le _, wf, Keep.refl _ _, Bd.nil _ _ _⟩, ?_⟩
  rintro a l c n m h1 ⟨a', i, e, rfl, hi, wf1, k1, bd1⟩
  simp at e
  obtain ⟨⟨rfl, rfl, rfl⟩, rfl⟩ := e
  by_cases hc : ltI (i : Int) 16 = true
  · rw [if_pos hc]
    have hi16 : i < 16 := by rw [ltI_iff] at hc; omega
    have q0 := mul4 hi16
    have q1 : addW .i64 ((4 * i : Nat) : Int) 1 = ((4 * i + 1 : Nat) : Int) := addN 1 (by omega)
    have q2 : addW .i64 ((4 * i : Nat) : Int) 2 = ((4 * i + 2 : Nat) : Int) := addN 2 (by omega)
    have q3 : addW .i64 ((4 * i : Nat) : Int) 3 = ((4 * i + 3 : Nat) : Int) := addN 3 (by omega)
    rw [q0, q1, q2, q3]
    have e0 : bs[4 * i]? = some (bs[4 * i]'(by omega)) := List.getElem?_eq_getElem _
    have e1 : bs[4 * i + 1]? = some (bs[4 * i + 1]'(by omega)) := List.getElem?_eq_getElem _
    have e2 : bs[4 * i + 2]? = some (bs[4 * i + 2]'(by omega)) := List.getElem?_eq_getElem _
    have e3 : bs[4 * i + 3]? = some (bs[4 * i + 3]'(by omega)) := List.getElem?_eq_getElem _
    generalize bs[4 * i]'(by omega) = b0 at e0
    generalize bs[4 * i + 1]'(by omega) = b1 at e1
    generalize bs[4 * i + 2]'(by omega) = b2 at e2
    generalize bs[4 * i + 3]'(by omega) = b3 at e3
    have t2 := s2.keep k1 fun _ _ hf => hf
    refine ⟨(rdx t2 e0).1, _, (rdx t2 e0).2, by simp [nonneg], (rdx t2 e1).1, _, (rdx t2 e1).2, by simp [nonneg], (rdx t2 e2).1, _, (rdx t2 e2).2, by simp [nonneg], (rdx t2 e3).1, _, (rdx t2 e3).2, ?_⟩
    intro h4 e4
    rw [word_eq (hb _ (List.mem_of_getElem? e0)) (hb _ (List.mem_of_getElem? e1)) (hb _ (List.mem_of_getElem? e2)) (hb _ (List.mem_of_getElem? e3))] at e4
    obtain ⟨a2, h5, y1, y2, y3, y4⟩ := Bd.append1 wf1 app78 (S := (h.next ≤ ·)) (fun g hg => by have := k1.next; omega) bd1 e4 rfl rfl (roomy_of (by omega))
    refine ⟨a2, _, _, h5, y1, 16 - (i + 1), by simp only [lessN]; omega, a2, i + 1, ?_, rfl, by omega, y4, k1.trans wf y3 fun g hg hs => by omega, ?_⟩
    · rw [show addW .i64 (i : Int) 1 = ((i + 1 : Nat) : Int) from addN 1 (by omega)]
    · rw [List.take_add_one, words_get i bs e0 e1 e2 e3]
      simpa [u32] using y2
  · rw [if_neg hc]
    have hi16 : i = 16 := by
      by_cases hq : i = 16
      · exact hq
      · exact absurd (ltI_iff.2 (by omega)) hc
    subst hi16
    rw [List.take_of_length_le (by omega)] at bd1
    refine ⟨fun vals m hh => ∃ (a : Option Addr) (i : Nat) (r : List Nat), [.slice a i i, .int .i64 (i : Int)] = vals ∧ m = 64 - i ∧ 16 ≤ i ∧ i ≤ 64 ∧ r.length = i ∧ (∀ w ∈ r, W32 w) ∧ plan (64 - i) r = plan 48 (words bs).reverse ∧ Wf hh ∧ Kept h hh ∧ Bd hh 1 (h.next ≤ ·) a i i (r.reverse.map u32),
      ⟨48, a', 16, (words bs).reverse, rfl, rfl, Nat.le_refl _, by omega, by simp [hwl], fun w hx => hwo w (List.mem_reverse.1 hx), rfl, wf1, k1, by rw [List.reverse_reverse]; exact bd1⟩, ?_⟩
    rintro a l c n m h2 ⟨a3, i, r, e, rfl, hi1, hi2, hrl, hro, hpl, wf2, k2, bd2⟩
    simp at e
    obtain ⟨⟨rfl, rfl, rfl⟩, rfl⟩ := e
    by_cases hc : ltI (i : Int) 64 = true
    · rw [if_pos hc]
      have hi64 : i < 64 := by rw [ltI_iff] at hc; omega
      have q15 : subW .i64 (i : Int) 15 = ((i - 15 : Nat) : Int) := subN (b := 15) (by omega) (by omega)
      have q2 : subW .i64 (i : Int) 2 = ((i - 2 : Nat) : Int) := subN (b := 2) (by omega) (by omega)
      have q16 : subW .i64 (i : Int) 16 = ((i - 16 : Nat) : Int) := subN (b := 16) (by omega) (by omega)
      have q7 : subW .i64 (i : Int) 7 = ((i - 7 : Nat) : Int) := subN (b := 7) (by omega) (by omega)
      rw [q15, q2, q16, q7]
      obtain ⟨g, t⟩ := bd_sl bd2 (by simp [hrl])
      have r15 := rdx t (i := i - 15) (by rw [show i - 15 = r.length - 1 - 14 by omega]; exact rev_get (by omega))
      have r2 := rdx t (i := i - 2) (by rw [show i - 2 = r.length - 1 - 1 by omega]; exact rev_get (by omega))
      have r16 := rdx t (i := i - 16) (by rw [show i - 16 = r.length - 1 - 15 by omega]; exact rev_get (by omega))
      have r7 := rdx t (i := i - 7) (by rw [show i - 7 = r.length - 1 - 6 by omega]; exact rev_get (by omega))
      have w14 := getD_ok hro 14
      have w1 := getD_ok hro 1
      refine ⟨r15.1, _, r15.2, r15.1, _, r15.2, r15.1, _, r15.2, by simp [nonneg], ?_⟩
      refine (c269 w14 (n := 7) (by omega) (by omega) h2).mono fun v h3 ⟨e1, e2⟩ => ?_
      subst e2
      refine ⟨_, e1, r15.2, r15.2, ?_⟩
      refine (c269 w14 (n := 18) (by omega) (by omega) h3).mono fun v h4 ⟨e1, e2⟩ => ?_
      subst e2
      refine ⟨_, e1, r15.2, r2.1, _, r2.2, r2.1, _, r2.2, r2.1, _, r2.2, by simp [nonneg], ?_⟩
      refine (c269 w1 (n := 17) (by omega) (by omega) h4).mono fun v h5 ⟨e1, e2⟩ => ?_
      subst e2
      refine ⟨_, e1, r2.2, r2.2, ?_⟩
      refine (c269 w1 (n := 19) (by omega) (by omega) h5).mono fun v h6 ⟨e1, e2⟩ => ?_
      subst e2
      refine ⟨_, e1, r2.2, r16.1, _, r16.2, r7.1, _, r7.2, ?_⟩
      intro h7 e7
      rw [s0_eq w14, s1_eq w1, addW_u32, addW_u32, addW_u32] at e7
      obtain ⟨a4, h8, y1, y2, y3, y4⟩ := Bd.append1 wf2 app78 (S := (h.next ≤ ·)) (fun g hg => by have := k2.next; omega) bd2 e7 rfl rfl (roomy_of (by omega))
      refine ⟨a4, _, _, h8, y1, 64 - (i + 1), by simp only [lessN]; omega, a4, i + 1, wnext r :: r, ?_, rfl, by omega, by omega, by simp [hrl], ?_, ?_, y4, k2.trans wf y3 fun g hg hs => by omega, ?_⟩
      · rw [show addW .i64 (i : Int) 1 = ((i + 1 : Nat) : Int) from addN 1 (by omega)]
      · intro w hx
        rcases List.mem_cons.1 hx with rfl | hx
        · exact .add _ _
        · exact hro w hx
      · rw [← hpl, show 64 - i = (64 - (i + 1)) + 1 by omega]
        rfl
      · rw [List.reverse_cons, List.map_append]
        exact y2
    · rw [if_neg hc]
      have hi64 : i = 64 := by
        by_cases hq : i = 64
        · exact hq
        · exact absurd (ltI_iff.2 (by omega)) hc
      subst hi64
      have hwp : r.reverse = wplan bs := by unfold wplan; rw [← hpl]; rfl
      rw [hwp] at bd2
      have hwpl : (wplan bs).length = 64 := by rw [← hwp]; simp [hrl]
      have bd2' := bd2.bound wf2
      have hd := dataOf_sl ((s0.keep k2 fun _ _ hf => hf).sl)
      obtain ⟨a4, h3, y1, y2, y3, y4⟩ := Bd.append wf2 app78 (S := (h2.next ≤ ·)) (fun g hg => hg) (Bd.nil _ _ _) hd (by rw [← flat_map]; simp [hhl]) (by rw [← flat_map]; exact isCell_u32 _) (roomy_of (by omega))
      refine ⟨a4, _, _, h3, y1, ?_⟩
      have k3 : Kept h h3 := k2.trans wf y3 fun g hg hs => by have := k2.next; omega
      obtain ⟨gw, tw⟩ := bd_sl (bd2'.keep y3 fun x hx q => by omega) hwpl
      rw [List.nil_append] at y2
      obtain ⟨gs, _, ts⟩ := y2.slT hhl
      have tsa : SL32 h3 gs a4 8 8 (ofSt (toSt hs)) := by rw [of_to hhl]; exact ts
      refine ⟨fun vals m hh => ∃ (a : Option Addr) (c t : Nat) (st : St), [.slice a 8 c, .int .i64 (t : Int)] = vals ∧ m = 64 - t ∧ t ≤ 64 ∧ W8 st ∧ rounds (K.drop t) ((wplan bs).drop t) st = rounds K (wplan bs) (toSt hs) ∧ Wf hh ∧ Kept h hh ∧ (∃ g, SL32 hh g a 8 c (ofSt st)) ∧ SL32 hh gw a3 64 64 (wplan bs),
        ⟨64, a4, 8, 0, toSt hs, rfl, rfl, Nat.zero_le _, to_ok hhl hw, rfl, y4, k3, ⟨gs, tsa⟩, tw⟩, ?_⟩
      clear y1 y2 y3 y4 tsa ts tw bd2 bd2' hd
      rintro a5 l c n m h4 ⟨a6, c6, t, st, e, rfl, ht, hst, hrs, wf4, k4, ⟨g4, t4⟩, tw⟩
      simp at e
      obtain ⟨⟨rfl, rfl, rfl⟩, rfl⟩ := e
      by_cases hc : ltI (t : Int) 64 = true
      · rw [if_pos hc]
        have ht64 : t < 64 := by rw [ltI_iff] at hc; omega
        have ek : K[t]? = some (K[t]'(by rw [K_len]; omega)) := List.getElem?_eq_getElem _
        generalize K[t]'(by rw [K_len]; omega) = k at ek
        have ew : (wplan bs)[t]? = some ((wplan bs)[t]'(by omega)) := List.getElem?_eq_getElem _
        generalize (wplan bs)[t]'(by omega) = w at ew
        have rk := rdx (s1.keep k4 fun _ _ hf => hf) ek
        have rw' := rdx tw ew
        have R0 := rdx t4 (i := 0) (x := st.a) rfl
        have R1 := rdx t4 (i := 1) (x := st.b) rfl
        have R2 := rdx t4 (i := 2) (x := st.c) rfl
        have R3 := rdx t4 (i := 3) (x := st.d) rfl
        have R4 := rdx t4 (i := 4) (x := st.e) rfl
        have R5 := rdx t4 (i := 5) (x := st.f) rfl
        have R6 := rdx t4 (i := 6) (x := st.g) rfl
        have R7 := rdx t4 (i := 7) (x := st.h) rfl
        obtain ⟨ha, hb', hc', hd, he, hf, hg, hh'⟩ := hst
        refine ⟨R4.1, _, R4.2, R4.1, _, R4.2, R4.1, _, R4.2, ?_⟩
        refine (c269 he (n := 6) (by omega) (by omega) h4).mono fun v h5 ⟨e1, e2⟩ => ?_
        subst e2
        refine ⟨_, e1, R4.2, R4.2, ?_⟩
        refine (c269 he (n := 11) (by omega) (by omega) h5).mono fun v h6 ⟨e1, e2⟩ => ?_
        subst e2
        refine ⟨_, e1, R4.2, ?_⟩
        refine (c269 he (n := 25) (by omega) (by omega) h6).mono fun v h7 ⟨e1, e2⟩ => ?_
        subst e2
        refine ⟨_, e1, R4.1, _, R4.2, R5.1, _, R5.2, R4.1, _, R4.2, R6.1, _, R6.2, R7.1, _, R7.2, rk.1, _, rk.2, rw'.1, _, rw'.2, R0.1, _, R0.2, R0.1, _, R0.2, R0.1, _, R0.2, ?_⟩
        refine (c269 ha (n := 2) (by omega) (by omega) h7).mono fun v h8 ⟨e1, e2⟩ => ?_
        subst e2
        refine ⟨_, e1, R0.2, R0.2, ?_⟩
        refine (c269 ha (n := 13) (by omega) (by omega) h8).mono fun v h9 ⟨e1, e2⟩ => ?_
        subst e2
        refine ⟨_, e1, R0.2, ?_⟩
        refine (c269 ha (n := 22) (by omega) (by omega) h9).mono fun v h10 ⟨e1, e2⟩ => ?_
        subst e2
        refine ⟨_, e1, R0.1, _, R0.2, R1.1, _, R1.2, R0.1, _, R0.2, R2.1, _, R2.2, R1.1, _, R1.2, R2.1, _, R2.2, R0.1, _, R0.2, R1.1, _, R1.2, R2.1, _, R2.2, R3.1, _, R3.2, R4.1, _, R4.2, R5.1, _, R5.2, R6.1, _, R6.2, ?_⟩
        intro h11 e11
        rw [x3_eq he, x3_eq ha, ch_eq he hf hg, maj_eq ha hb' hc'] at e11
        simp only [addW_u32] at e11
        obtain ⟨b1, kk, n1, wf11⟩ := new_blk wf4 e11
        refine ⟨64 - (t + 1), by simp only [lessN]; omega, some ⟨_, 0, none⟩, 8, t + 1, round st k w, ?_, rfl, by omega, W8.round ⟨ha, hb', hc', hd, he, hf, hg, hh'⟩ k w, ?_, wf11, k4.trans wf kk fun _ _ hf => hf, ⟨some _, ⟨Nat.le_refl _, rfl, .inl rfl, fun _ => ⟨_, b1, Nat.le_refl _, rfl⟩⟩, rfl⟩, tw.keep kk fun _ _ hf => hf⟩
        · rw [show addW .i64 (t : Int) 1 = ((t + 1 : Nat) : Int) from addN 1 (by omega)]
        · rw [← hrs, drop_get ek, drop_get ew]
          rfl
      · rw [if_neg hc]
        have ht64 : t = 64 := by
          by_cases hq : t = 64
          · exact hq
          · exact absurd (ltI_iff.2 (by omega)) hc
        subst ht64
        have hfin : st = rounds K (wplan bs) (toSt hs) := by
          rw [← hrs, List.drop_eq_nil_of_le (by rw [K_len]; exact Nat.le_refl _)]
          rfl
        have hblk : block hs bs = List.zipWith add hs (ofSt st) := by rw [hfin]; rfl
        have hbll : (block hs bs).length = 8 := by rw [hblk, List.length_zipWith, hhl]; rfl
        obtain ⟨g5, hg5, t5⟩ := t4.grp wf4
        refine ⟨fun vals m hh => ∃ (a : Option Addr) (i : Nat), [.slice a i i, .int .i64 (i : Int)] = vals ∧ m = 8 - i ∧ i ≤ 8 ∧ Wf hh ∧ Kept h hh ∧ h4.next ≤ hh.next ∧ SL32 hh g5 a6 8 c6 (ofSt st) ∧ Bd hh 1 (h4.next ≤ ·) a i i (((block hs bs).take i).map u32), ⟨8, none, 0, rfl, rfl, Nat.zero_le _, wf4, k4, Nat.le_refl _, t5, Bd.nil _ _ _⟩, ?_⟩
        rintro a l c n m h5 ⟨a7, i, e, rfl, hi, wf5, k5, hn5, t6, bd5⟩
        simp at e
        obtain ⟨⟨rfl, rfl, rfl⟩, rfl⟩ := e
        by_cases hc : ltI (i : Int) 8 = true
        · rw [if_pos hc]
          have hi8 : i < 8 := by rw [ltI_iff] at hc; omega
          have e1 : hs[i]? = some (hs[i]'(by omega)) := List.getElem?_eq_getElem _
          generalize hs[i]'(by omega) = x at e1
          have e2 : (ofSt st)[i]? = some ((ofSt st)[i]'(by show i < 8; omega)) := List.getElem?_eq_getElem _
          generalize (ofSt st)[i]'(by show i < 8; omega) = y at e2
          have r1 := rdx (s0.keep k5 fun _ _ hf => hf) e1
          have r2 := rdx t6 e2
          refine ⟨r1.1, _, r1.2, r2.1, _, r2.2, ?_⟩
          intro h6 e6
          rw [addW_u32] at e6
          obtain ⟨a8, h7, y1, y2, y3, y4⟩ := Bd.append1 wf5 app78 (S := (h4.next ≤ ·)) (fun g hg => by omega) bd5 e6 rfl rfl (roomy_of (by omega))
          refine ⟨a8, _, _, h7, y1, 8 - (i + 1), by simp only [lessN]; omega, a8, i + 1, ?_, rfl, by omega, y4, k5.trans wf y3 fun g hg hs => by have := k4.next; omega, Nat.le_trans hn5 y3.next, t6.keep y3 fun x hx q => by have := hg5 x hx; omega, ?_⟩
          · rw [show addW .i64 (i : Int) 1 = ((i + 1 : Nat) : Int) from addN 1 (by omega)]
          · rw [hblk, zip_take e1 e2, ← hblk, List.map_append]
            exact y2
        · rw [if_neg hc]
          have hi8 : i = 8 := by
            by_cases hq : i = 8
            · exact hq
            · exact absurd (ltI_iff.2 (by omega)) hc
          subst hi8
          rw [List.take_of_length_le (by omega)] at bd5
          exact ⟨_, rfl, bd5.mono fun g hg => Nat.le_trans k4.next hg, k5⟩
end Go.Proofs.YtpgedmighmolnaaGreat.sb

/- Contracts of the reference's sha256: the table, the sum by a table. -/
set_option linter.unusedVariables false
namespace Go.Proofs.YtpgedmighmolnaaGreat.sb
open Go Go.Cn Go.Cn.Sha Go.Proofs Go.Proofs.YtpgedmighmolnaaGreat.vc

theorem new_sl {f : Nat → Value} {h h1 : Hp} (wf : Wf h) {L : List Nat} {e : TypeId} (he : h1 = h.alloc (L.map f) e) {l : Nat} (hl : L.length = l) : SlT (fun n => [f n]) 1 h1 (some h.next) (some ⟨h.next, 0, none⟩) l l L := by
  obtain ⟨b1, k1, n1, wf1⟩ := new_blk wf he
  refine ⟨⟨Nat.le_refl _, by rw [← flat_map]; simp [hl], .inl rfl, fun _ => ⟨_, b1, by simp [hl], ?_⟩⟩, hl⟩
  rw [List.drop_zero, List.take_of_length_le (by simp [hl]), flat_map]

theorem H0_map : H0.map u32 = [Value.int .u32 1779033703, .int .u32 3144134277, .int .u32 1013904242, .int .u32 2773480762, .int .u32 1359893119, .int .u32 2600822924, .int .u32 528734635, .int .u32 1541459225] := rfl

/-- The table of the reference. -/
def Tab (h : Hp) (v : Value) : Prop := ∃ g0 g1 a0 a1 c0 c1, v = .agg #[.slice a0 8 c0, .slice a1 64 c1] ∧ SL32 h g0 a0 8 c0 H0 ∧ SL32 h g1 a1 64 c1 K

theorem c256 (h : Hp) : C 256 [] h fun v h' => Tab h' v ∧ Kept h h' := by
  refine SCalls_of_vw fol (pf := pf) (shp := shp256) (f := 256) (fn := Tryz.f256) (by kernel_rfl) (c := Tryz.f256.body.getD .skip) (by kernel_rfl) (by kernel_rfl) fun wf => ?_
  rw [vc256]
  intro h1 e1 h2 e2 h3 e3
  obtain ⟨b1, k1, n1, wf1⟩ := new_blk wf e1
  obtain ⟨b2, k2, n2, wf2⟩ := new_blk wf1 e2
  obtain ⟨b3, k3, n3, wf3⟩ := new_blk wf2 e3
  have t2 := new_sl (f := u32) (L := H0) wf1 e2 (l := 8) rfl
  have t3 := new_sl (f := u32) (L := K) wf2 e3 (l := 64) rfl
  have k12 := k1.trans wf k2 fun _ _ hf => hf
  have k123 := k12.trans wf k3 fun _ _ hf => hf
  have b1' := Kept.blk k3 (Kept.blk k2 b1)
  obtain ⟨h4, y1, y2, y3, y4, y5, y6⟩ := set_blk wf3 b1' k123 wf (Nat.le_refl _) (vs := [.slice (some ⟨h1.next, 0, none⟩) 8 8, .slice (some ⟨h2.next, 0, none⟩) 64 64]) rfl rfl
  refine ⟨rfl, h4, y1, _, _, _, _, _, _, ⟨rfl, (y2.cells (Nat.le_of_ble_eq_true rfl)).trans rfl⟩, ⟨some h1.next, some h2.next, _, _, _, _, rfl, ?_, ?_⟩, y3⟩
  · exact (t2.keep k3 fun _ _ hf => hf).keep y4 fun x hx q => by simp at hx; omega
  · exact t3.keep y4 fun x hx q => by simp at hx; omega

theorem cut_sl {f : Nat → Value} {h : Hp} {g : Option Nat} {a : Option Addr} {l c : Nat} {L : List Nat} (s : SlT (fun n => [f n]) 1 h g a l c L) {i k : Nat} (hi : i + k ≤ l) : SlT (fun n => [f n]) 1 h g (cutA (i : Int) 1 a) k (c - i) ((L.drop i).take k) := by
  have hl := s.len
  have hlc := s.sl.le
  have hm := s.sl.mem
  have hk : ((L.drop i).take k).length = k := by rw [List.length_take, List.length_drop]; omega
  refine ⟨⟨by omega, by rw [← flat_map, List.length_map, hk, Nat.mul_one], ?_⟩, hk⟩
  rw [← flat_map] at hm ⊢
  cases a with
  | none => simp only [cutA, Option.map_none] at hm ⊢; omega
  | some q =>
    obtain ⟨b, o, sp⟩ := q
    simp only [cutA, Option.map_some, Int.toNat_natCast, Nat.mul_one] at hm ⊢
    refine ⟨hm.1, fun h0 => ?_⟩
    obtain ⟨CS, hb, hc, hx⟩ := hm.2 (by omega)
    refine ⟨CS, hb, by omega, ?_⟩
    rw [take_drop_sub hx hi, List.map_take, List.map_drop]

theorem lenBytes_ok (n : Nat) : ∀ b ∈ lenBytes n, b < 256 := by
  intro b hb
  simp only [lenBytes, List.mem_map] at hb
  obtain ⟨s, _, rfl⟩ := hb
  exact Nat.mod_lt _ (by decide)
theorem pad_ok {bs : List Nat} (h : ∀ b ∈ bs, b < 256) : ∀ b ∈ pad bs, b < 256 := by
  intro b hb
  simp only [pad, List.mem_append, List.mem_cons, List.mem_replicate] at hb
  rcases hb with hb | rfl | hb | hb
  · exact h b hb
  · decide
  · omega
  · exact lenBytes_ok _ b hb
theorem pad_len (bs : List Nat) : ∃ n, (pad bs).length = 64 * n := by
  have hl8 : (lenBytes bs.length).length = 8 := rfl
  refine ⟨(bs.length + 1 + zeros bs.length + 8) / 64, ?_⟩
  unfold pad
  simp only [List.length_append, List.length_cons, List.length_replicate, hl8]
  unfold zeros
  omega
theorem bytes8_ok (s : ByteArray) : ∀ b ∈ bytes8 s, b < 256 := by
  intro b hb
  simp only [bytes8, List.mem_map] at hb
  obtain ⟨x, _, rfl⟩ := hb
  exact x.toNat_lt

theorem block_ok (hs bs : List Nat) : ∀ w ∈ block hs bs, W32 w := by
  intro w hw
  unfold block at hw
  obtain ⟨i, hi, rfl⟩ := List.getElem_of_mem hw
  rw [List.getElem_zipWith]
  exact .add _ _
theorem block_len {hs bs : List Nat} (h : hs.length = 8) : (block hs bs).length = 8 := by
  unfold block
  rw [List.length_zipWith, h]
  rfl
theorem H0_ok : ∀ w ∈ H0, W32 w := by
  intro w hw
  simp only [H0, List.mem_cons, List.not_mem_nil, or_false] at hw
  unfold W32
  omega

theorem out_get {H : List Nat} : ∀ {i w : Nat} {H : List Nat}, H[i / 4]? = some w → ((H.map outBytes).flatten)[i]? = some ((w >>> (24 - 8 * (i % 4))) % 256)
  | i, w, [], h => by simp at h
  | i, w, x :: H, h => by
    by_cases hi : i < 4
    · have : i / 4 = 0 := by omega
      rw [this] at h
      simp at h
      subst h
      match i, hi with
      | 0, _ | 1, _ | 2, _ | 3, _ => rfl
    · rw [show i / 4 = (i - 4) / 4 + 1 by omega, List.getElem?_cons_succ] at h
      have ih := out_get (H := []) h
      rw [show i % 4 = (i - 4) % 4 by omega, ← ih]
      simp only [List.map_cons, List.flatten_cons]
      rw [List.getElem?_append_right (by show 4 ≤ i; omega)]
      rfl
end Go.Proofs.YtpgedmighmolnaaGreat.sb

/- Contracts of the reference's sha256: the sum. -/
set_option linter.unusedVariables false
namespace Go.Proofs.YtpgedmighmolnaaGreat.sb
open Go Go.Cn Go.Cn.Sha Go.Proofs Go.Proofs.YtpgedmighmolnaaGreat.vc

theorem blocks_ok : ∀ (n : Nat) {hs bs : List Nat}, hs.length = 8 → (∀ w ∈ hs, W32 w) → (blocks n hs bs).length = 8 ∧ ∀ w ∈ blocks n hs bs, W32 w
  | 0, hs, bs, h, hw => ⟨h, hw⟩
  | n + 1, hs, bs, h, hw => blocks_ok n (block_len h) (block_ok hs _)

theorem fill_step {L : List Nat} {i x : Nat} (hx : L[i]? = some x) (n : Nat) (hn : L.length = n) : ((L.take i ++ List.replicate (n - i) 0).map u8).set i (u8 x) = (L.take (i + 1) ++ List.replicate (n - (i + 1)) 0).map u8 := by
  have hi : i < L.length := (List.getElem?_eq_some_iff.1 hx).1
  have hx' := (List.getElem?_eq_some_iff.1 hx).2
  rw [show n - i = (n - (i + 1)) + 1 by omega, List.replicate_succ]
  have hl : ((L.take i).map u8).length = i := by simp; omega
  rw [List.map_append, List.set_append_right _ _ (by omega), hl, Nat.sub_self, List.take_add_one, hx]
  simp [List.map_append]

theorem quo4 {i : Nat} (hi : i < 32) : quoW .i64 (i : Int) 4 = ((i / 4 : Nat) : Int) := by
  unfold quoW
  rw [Int.tdiv_eq_ediv_of_nonneg (Int.natCast_nonneg _)]
  have := addW_small (a := ((i / 4 : Nat) : Int)) (b := 0) (by omega) (by omega)
  unfold addW at this
  rw [show ((i : Int) / 4) = ((i / 4 : Nat) : Int) by omega]
  simpa using this
theorem sh4 {i : Nat} (hi : i < 32) : toW .u64 (subW .i64 24 (mulW .i64 8 (remW (i : Int) 4))) = ((24 - 8 * (i % 4) : Nat) : Int) := by
  have e1 : remW (i : Int) 4 = ((i % 4 : Nat) : Int) := by unfold remW; rw [Int.tmod_eq_emod_of_nonneg (Int.natCast_nonneg _)]; omega
  have e2 : mulW .i64 8 ((i % 4 : Nat) : Int) = ((8 * (i % 4) : Nat) : Int) := by
    unfold mulW
    have := addW_small (a := ((8 * (i % 4) : Nat) : Int)) (b := 0) (by omega) (by omega)
    unfold addW at this
    rw [show (8 * ((i % 4 : Nat) : Int)) = ((8 * (i % 4) : Nat) : Int) by omega]
    simpa using this
  have e3 : subW .i64 24 ((8 * (i % 4) : Nat) : Int) = ((24 - 8 * (i % 4) : Nat) : Int) := subN (a := 24) (by omega) (by omega)
  rw [e1, e2, e3]
  unfold toW
  rw [wrap_u64, Nat.mod_eq_of_lt (by omega)]

set_option maxRecDepth 20000 in
theorem c255 {h : Hp} {g0 g1 : Option Nat} {a0 a1 : Option Addr} {c0 c1 : Nat} (s0 : SL32 h g0 a0 8 c0 H0) (s1 : SL32 h g1 a1 64 c1 K) (s : ByteArray) (hs : s.size ≤ 1073741824) :
    C 255 [.agg #[.slice a0 8 c0, .slice a1 64 c1], .string s] h fun v h' => v = .agg ((sum (bytes8 s)).map u8).toArray ∧ Kept h h' := by
  refine SCalls_of_vw fol (pf := pf) (shp := shp255) (f := 255) (fn := Tryz.f255) (by kernel_rfl) (c := Tryz.f255.body.getD .skip) (by kernel_rfl) (by kernel_rfl) fun wf => ?_
  rw [vc255]
  intro h1 e1 h2 e2
  obtain ⟨b1, k1, n1, wf1⟩ := new_blk wf e1
  obtain ⟨b2, k2, n2, wf2⟩ := new_blk wf1 e2
  have k02 := k1.trans wf k2 fun _ _ hf => hf
  refine (c263 s h2 hs).wf fun v h3 wf3 _ ⟨a, l, e3, hl, bd3, k3⟩ => ?_
  have k03 := k02.trans wf k3 fun _ _ hf => hf
  have hp64 := pad_len (bytes8 s)
  obtain ⟨N, hN⟩ := hp64
  have b1' := Kept.blk k3 (Kept.blk k2 b1)
  have b2' := Kept.blk k3 b2
  obtain ⟨gp, tp⟩ := bd_sl bd3 hl.symm
  refine ⟨a, l, l, e3, rfl, a0, 8, c0, ⟨rfl, (b1'.cells (Nat.le_of_ble_eq_true rfl)).trans rfl⟩, ?_⟩
  have hN' : N < 33554432 := by
    have : (pad (bytes8 s)).length ≤ s.size + 200 := by
      have hl8 : (lenBytes (bytes8 s).length).length = 8 := rfl
      have hlen : (bytes8 s).length = s.size := by simp [bytes8]
      have hz : zeros (bytes8 s).length < 64 := Nat.mod_lt _ (by decide)
      unfold pad
      simp only [List.length_append, List.length_cons, List.length_replicate, hl8]
      omega
    omega
  refine ⟨fun vals m hh => ∃ (a : Option Addr) (c j : Nat) (cur : List Nat), [.slice a 8 c, .int .i64 ((64 * j : Nat) : Int)] = vals ∧ m = N - j ∧ j ≤ N ∧ cur.length = 8 ∧ (∀ w ∈ cur, W32 w) ∧ blocks (N - j) cur ((pad (bytes8 s)).drop (64 * j)) = blocks N H0 (pad (bytes8 s)) ∧ Wf hh ∧ Kept h3 hh ∧ (∃ g, SL32 hh g a 8 c cur),
    ⟨N, a0, c0, 0, H0, rfl, rfl, Nat.zero_le _, rfl, H0_ok, rfl, wf3, Keep.refl _ _, ⟨g0, s0.keep k03 fun _ _ hf => hf⟩⟩, ?_⟩
  rintro a2 l2 c2 n m h4 ⟨a3, c3, j, cur, e, rfl, hj, hcl, hco, hbl, wf4, k4, ⟨g4, t4⟩⟩
  simp at e
  obtain ⟨⟨rfl, rfl, rfl⟩, rfl⟩ := e
  have k04 := k03.trans wf k4 fun _ _ hf => hf
  by_cases hc : ltI (64 * (j : Int)) (natI l) = true
  · rw [if_pos hc]
    have hjN : j < N := by rw [ltI_iff, natI_eq] at hc; omega
    have q1 : addW .i64 (64 * (j : Int)) 64 = ((64 * (j + 1) : Nat) : Int) := by rw [addW_small (by omega) (by omega)]; omega
    have q0 : (64 * (j : Int)) = ((64 * j : Nat) : Int) := by omega
    rw [q1, q0]
    have b1'' := Kept.blk k4 b1'
    have tc := cut_sl (tp.keep k4 fun _ _ hf => hf) (i := 64 * j) (k := 64) (by omega)
    refine ⟨rfl, a1, 64, c1, ⟨rfl, (b1''.cells (Nat.le_of_ble_eq_true rfl)).trans rfl⟩, ⟨⟨by omega, by omega, by rw [natI_eq]; omega, Int.le_refl _⟩, ?_⟩, ?_⟩
    · have hm := tp.sl.mem
      unfold spotOk
      cases a with
      | none => trivial
      | some q => obtain ⟨b, o, sp⟩ := q; exact hm.1
    · have d1 : diffN ((64 * (j + 1) : Nat) : Int) ((64 * j : Nat) : Int) = 64 := by unfold diffN; omega
      have d2 : diffN (natI l) ((64 * j : Nat) : Int) = l - 64 * j := by unfold diffN; rw [natI_eq]; omega
      rw [d1, d2]
      refine (c264 t4 (s1.keep k04 fun _ _ hf => hf) tc (fun b hb => pad_ok (bytes8_ok s) b (List.mem_of_mem_drop (List.mem_of_mem_take hb))) hco).wf fun v h5 wf5 _ ⟨a5, e5, bd5, k5⟩ => ?_
      obtain ⟨g5, t5⟩ := bd_sl bd5 (block_len hcl)
      refine ⟨a5, 8, 8, e5, N - (j + 1), by simp only [lessN]; omega, a5, 8, j + 1, block cur (((pad (bytes8 s)).drop (64 * j)).take 64), rfl, rfl, by omega, block_len hcl, block_ok _ _, ?_, wf5, k4.trans wf3 k5 fun _ _ hf => hf, ⟨g5, t5⟩⟩
      rw [← hbl, show N - j = (N - (j + 1)) + 1 by omega]
      show _ = blocks (N - (j + 1)) (block cur (((pad (bytes8 s)).drop (64 * j)).take 64)) (((pad (bytes8 s)).drop (64 * j)).drop 64)
      rw [List.drop_drop, show 64 * j + 64 = 64 * (j + 1) by omega]
  · rw [if_neg hc]
    have hjN : j = N := by
      by_cases hq : j = N
      · exact hq
      · exact absurd (ltI_iff.2 (by rw [natI_eq]; omega)) hc
    subst hjN
    have hcur : cur = blocks j H0 (pad (bytes8 s)) := by rw [← hbl, Nat.sub_self]; rfl
    have hsum : sum (bytes8 s) = (cur.map outBytes).flatten := by
      unfold sum
      rw [hN, Nat.mul_div_cancel_left _ (by omega), ← hcur]
    rw [hsum]
    have hol : ((cur.map outBytes).flatten).length = 32 := by
      match cur, hcl with
      | [a, b, c, d, e, f, g, x], _ => rfl
    generalize hout : (cur.map outBytes).flatten = out at hol
    intro h5 e5
    obtain ⟨b5, k5, n5, wf5⟩ := new_blk wf4 e5
    refine ⟨fun vals m hh => ∃ i : Nat, [.int .i64 (i : Int)] = vals ∧ m = 32 - i ∧ i ≤ 32 ∧ Wf hh ∧ Kept h4 hh ∧ Blk hh h4.next (some h4.next) ((out.take i ++ List.replicate (32 - i) 0).map u8), ⟨32, 0, rfl, rfl, Nat.zero_le _, wf5, k5, by simpa [u8] using b5⟩, ?_⟩
    rintro n m h6 ⟨i, e, rfl, hi, wf6, k6, b6⟩
    simp at e
    subst e
    by_cases hc : ltI (i : Int) 32 = true
    · rw [if_pos hc]
      have hi32 : i < 32 := by rw [ltI_iff] at hc; omega
      rw [quo4 hi32, sh4 hi32]
      have ew : cur[i / 4]? = some (cur[i / 4]'(by omega)) := List.getElem?_eq_getElem _
      generalize cur[i / 4]'(by omega) = w at ew
      have ro := rdx (t4.keep k6 fun _ _ hf => hf) ew
      have eo : out[i]? = some ((w >>> (24 - 8 * (i % 4))) % 256) := by rw [← hout]; exact out_get (H := []) ew
      have m4 : toW .u8 ((w >>> (24 - 8 * (i % 4)) : Nat) : Int) = ((w >>> (24 - 8 * (i % 4)) % 256 : Nat) : Int) := by unfold toW; rw [wrap_u8]
      refine ⟨by simp [nonzero], ro.1, _, ro.2, by simp [nonzero], Int.natCast_nonneg _, ⟨rfl, Int.natCast_nonneg _, by omega⟩, rfl, ?_⟩
      rw [shrW_nat _ _ _ (show 24 - 8 * (i % 4) ≤ 32 by omega), m4]
      have hlen : ((out.take i ++ List.replicate (32 - i) 0).map u8).length = 32 := by simp; omega
      obtain ⟨h7, y1, y2, y3, y4, y5⟩ := b6.set (o := i) (by omega) (v := u8 (w >>> (24 - 8 * (i % 4)) % 256)) rfl
      rw [fill_step eo 32 hol] at y2
      have hpi : plusI 0 (i : Int) 1 = i := by simp [plusI]
      rw [hpi]
      refine ⟨h7, y1, 32 - (i + 1), by simp only [lessN]; omega, i + 1, ?_, rfl, by omega, y5 wf6, k6.trans wf4 y3 fun g hg hs => by omega, y2⟩
      rw [show addW .i64 (i : Int) 1 = ((i + 1 : Nat) : Int) from addN 1 (by omega)]
    · rw [if_neg hc]
      have hi32 : i = 32 := by
        by_cases hq : i = 32
        · exact hq
        · exact absurd (ltI_iff.2 (by omega)) hc
      subst hi32
      rw [List.take_of_length_le (by omega), Nat.sub_self, List.replicate_zero, List.append_nil] at b6
      have k06 : Kept h h6 := k04.trans wf k6 fun _ _ hf => hf
      have b2'' := Kept.blk k6 (Kept.blk k4 b2')
      obtain ⟨h7, y1, y2, y3, y4, y5, y6⟩ := set_blk wf6 b2'' k06 wf (by omega) (vs := out.map u8) (by simp [hol]) (by simp [u8, isCell])
      clear hout hsum hcur hbl
      match out, hol with
      | [x0, x1, x2, x3, x4, x5, x6, x7, x8, x9, x10, x11, x12, x13, x14, x15, x16, x17, x18, x19, x20, x21, x22, x23, x24, x25, x26, x27, x28, x29, x30, x31], _ =>
        exact ⟨_, _, _, _, _, _, _, _, _, _, _, _, _, _, _, _, _, _, _, _, _, _, _, _, _, _, _, _, _, _, _, _, ⟨rfl, (b6.cells (Nat.le_of_ble_eq_true rfl)).trans rfl⟩, rfl, h7, y1, _, _, _, _, _, _, _, _, _, _, _, _, _, _, _, _, _, _, _, _, _, _, _, _, _, _, _, _, _, _, _, _, ⟨rfl, (y2.cells (Nat.le_of_ble_eq_true rfl)).trans rfl⟩, rfl, y3⟩
end Go.Proofs.YtpgedmighmolnaaGreat.sb

/- The conditions of the symbolic runs of functions of the program (printed by a program of ours, vcgen.py; checked by the kernel). -/
set_option linter.unusedVariables false
set_option maxRecDepth 100000
namespace Go.Proofs.YtpgedmighmolnaaGreat.vc
open Go Go.Cn Go.Proofs

def shp242 : Nat → List (Tmp × TypeId) := fun i => []
theorem vc242 (C : FuncId → List Value → Hp → (Value → Hp → Prop) → Prop) (s : ByteArray) (h : Hp) (K : Value → Hp → Prop) : vBody Tryz.prog C pf shp242 Tryz.f242 (Tryz.f242.body.getD .skip) [.string s] h K = (
 ∀ (h' : Hp),
 h' =
 h.alloc
 [Value.int IntKind.u8 (Int.ofNat 0), Value.int IntKind.u8 (Int.ofNat 0), Value.int IntKind.u8 (Int.ofNat 0), Value.int IntKind.u8 (Int.ofNat 0), Value.int IntKind.u8 (Int.ofNat 0), Value.int IntKind.u8 (Int.ofNat 0), Value.int IntKind.u8 (Int.ofNat 0), Value.int IntKind.u8 (Int.ofNat 0), Value.int IntKind.u8 (Int.ofNat 0), Value.int IntKind.u8 (Int.ofNat 0),
 Value.int IntKind.u8 (Int.ofNat 0), Value.int IntKind.u8 (Int.ofNat 0), Value.int IntKind.u8 (Int.ofNat 0), Value.int IntKind.u8 (Int.ofNat 0), Value.int IntKind.u8 (Int.ofNat 0), Value.int IntKind.u8 (Int.ofNat 0), Value.int IntKind.u8 (Int.ofNat 0), Value.int IntKind.u8 (Int.ofNat 0), Value.int IntKind.u8 (Int.ofNat 0), Value.int IntKind.u8 (Int.ofNat 0),
 Value.int IntKind.u8 (Int.ofNat 0), Value.int IntKind.u8 (Int.ofNat 0), Value.int IntKind.u8 (Int.ofNat 0), Value.int IntKind.u8 (Int.ofNat 0), Value.int IntKind.u8 (Int.ofNat 0), Value.int IntKind.u8 (Int.ofNat 0), Value.int IntKind.u8 (Int.ofNat 0), Value.int IntKind.u8 (Int.ofNat 0), Value.int IntKind.u8 (Int.ofNat 0), Value.int IntKind.u8 (Int.ofNat 0),
 Value.int IntKind.u8 (Int.ofNat 0), Value.int IntKind.u8 (Int.ofNat 0)]
 41 →
 C 256 [] h' fun (v : Value) (h' : Hp) =>
 ∃ (a : Option Addr),
 ∃ (l : Nat),
 ∃ (c : Nat),
 ∃ (a_1 : Option Addr),
 ∃ (l_1 : Nat),
 ∃ (c_1 : Nat),
 v = Value.agg (Array.mk [Value.slice a l c, Value.slice a_1 l_1 c_1]) ∧
 C 255 [Value.agg (Array.mk [Value.slice a l c, Value.slice a_1 l_1 c_1]), Value.string s] h' fun (v : Value) (h' : Hp) =>
 ∃ (n : Int),
 ∃ (n_1 : Int),
 ∃ (n_2 : Int),
 ∃ (n_3 : Int),
 ∃ (n_4 : Int),
 ∃ (n_5 : Int),
 ∃ (n_6 : Int),
 ∃ (n_7 : Int),
 ∃ (n_8 : Int),
 ∃ (n_9 : Int),
 ∃ (n_10 : Int),
 ∃ (n_11 : Int),
 ∃ (n_12 : Int),
 ∃ (n_13 : Int),
 ∃ (n_14 : Int),
 ∃ (n_15 : Int),
 ∃ (n_16 : Int),
 ∃ (n_17 : Int),
 ∃ (n_18 : Int),
 ∃ (n_19 : Int),
 ∃ (n_20 : Int),
 ∃ (n_21 : Int),
 ∃ (n_22 : Int),
 ∃ (n_23 : Int),
 ∃ (n_24 : Int),
 ∃ (n_25 : Int),
 ∃ (n_26 : Int),
 ∃ (n_27 : Int),
 ∃ (n_28 : Int),
 ∃ (n_29 : Int),
 ∃ (n_30 : Int),
 ∃ (n_31 : Int),
 v =
 Value.agg
 (Array.mk
 [Value.int IntKind.u8 n, Value.int IntKind.u8 n_1, Value.int IntKind.u8 n_2, Value.int IntKind.u8 n_3, Value.int IntKind.u8 n_4, Value.int IntKind.u8 n_5, Value.int IntKind.u8 n_6, Value.int IntKind.u8 n_7, Value.int IntKind.u8 n_8, Value.int IntKind.u8 n_9, Value.int IntKind.u8 n_10,
 Value.int IntKind.u8 n_11, Value.int IntKind.u8 n_12, Value.int IntKind.u8 n_13, Value.int IntKind.u8 n_14, Value.int IntKind.u8 n_15, Value.int IntKind.u8 n_16, Value.int IntKind.u8 n_17, Value.int IntKind.u8 n_18, Value.int IntKind.u8 n_19, Value.int IntKind.u8 n_20, Value.int IntKind.u8 n_21,
 Value.int IntKind.u8 n_22, Value.int IntKind.u8 n_23, Value.int IntKind.u8 n_24, Value.int IntKind.u8 n_25, Value.int IntKind.u8 n_26, Value.int IntKind.u8 n_27, Value.int IntKind.u8 n_28, Value.int IntKind.u8 n_29, Value.int IntKind.u8 n_30, Value.int IntKind.u8 n_31]) ∧
 plainA (some (Addr.mk h.next 0 none)) = true ∧
 ∃ (h'_1 : Hp),
 h'.store h.next 0
 [Value.int IntKind.u8 n, Value.int IntKind.u8 n_1, Value.int IntKind.u8 n_2, Value.int IntKind.u8 n_3, Value.int IntKind.u8 n_4, Value.int IntKind.u8 n_5, Value.int IntKind.u8 n_6, Value.int IntKind.u8 n_7, Value.int IntKind.u8 n_8, Value.int IntKind.u8 n_9, Value.int IntKind.u8 n_10,
 Value.int IntKind.u8 n_11, Value.int IntKind.u8 n_12, Value.int IntKind.u8 n_13, Value.int IntKind.u8 n_14, Value.int IntKind.u8 n_15, Value.int IntKind.u8 n_16, Value.int IntKind.u8 n_17, Value.int IntKind.u8 n_18, Value.int IntKind.u8 n_19, Value.int IntKind.u8 n_20, Value.int IntKind.u8 n_21,
 Value.int IntKind.u8 n_22, Value.int IntKind.u8 n_23, Value.int IntKind.u8 n_24, Value.int IntKind.u8 n_25, Value.int IntKind.u8 n_26, Value.int IntKind.u8 n_27, Value.int IntKind.u8 n_28, Value.int IntKind.u8 n_29, Value.int IntKind.u8 n_30, Value.int IntKind.u8 n_31] =
 some h'_1 ∧
 ∃ (n : Int),
 ∃ (n_32 : Int),
 ∃ (n_33 : Int),
 ∃ (n_34 : Int),
 ∃ (n_35 : Int),
 ∃ (n_36 : Int),
 ∃ (n_37 : Int),
 ∃ (n_38 : Int),
 ∃ (n_39 : Int),
 ∃ (n_40 : Int),
 ∃ (n_41 : Int),
 ∃ (n_42 : Int),
 ∃ (n_43 : Int),
 ∃ (n_44 : Int),
 ∃ (n_45 : Int),
 ∃ (n_46 : Int),
 ∃ (n_47 : Int),
 ∃ (n_48 : Int),
 ∃ (n_49 : Int),
 ∃ (n_50 : Int),
 ∃ (n_51 : Int),
 ∃ (n_52 : Int),
 ∃ (n_53 : Int),
 ∃ (n_54 : Int),
 ∃ (n_55 : Int),
 ∃ (n_56 : Int),
 ∃ (n_57 : Int),
 ∃ (n_58 : Int),
 ∃ (n_59 : Int),
 ∃ (n_60 : Int),
 ∃ (n_61 : Int),
 ∃ (n_62 : Int),
 (plainA (some (Addr.mk h.next 0 none)) = true ∧
 h'_1.cellsAt h.next 0 32 =
 some
 [Value.int IntKind.u8 n, Value.int IntKind.u8 n_32, Value.int IntKind.u8 n_33, Value.int IntKind.u8 n_34, Value.int IntKind.u8 n_35, Value.int IntKind.u8 n_36, Value.int IntKind.u8 n_37, Value.int IntKind.u8 n_38,
 Value.int IntKind.u8 n_39, Value.int IntKind.u8 n_40, Value.int IntKind.u8 n_41, Value.int IntKind.u8 n_42, Value.int IntKind.u8 n_43, Value.int IntKind.u8 n_44, Value.int IntKind.u8 n_45, Value.int IntKind.u8 n_46,
 Value.int IntKind.u8 n_47, Value.int IntKind.u8 n_48, Value.int IntKind.u8 n_49, Value.int IntKind.u8 n_50, Value.int IntKind.u8 n_51, Value.int IntKind.u8 n_52, Value.int IntKind.u8 n_53, Value.int IntKind.u8 n_54,
 Value.int IntKind.u8 n_55, Value.int IntKind.u8 n_56, Value.int IntKind.u8 n_57, Value.int IntKind.u8 n_58, Value.int IntKind.u8 n_59, Value.int IntKind.u8 n_60, Value.int IntKind.u8 n_61, Value.int IntKind.u8 n_62]) ∧
 K
 (Value.agg
 (Array.mk
 [Value.int IntKind.u8 n, Value.int IntKind.u8 n_32, Value.int IntKind.u8 n_33, Value.int IntKind.u8 n_34, Value.int IntKind.u8 n_35, Value.int IntKind.u8 n_36, Value.int IntKind.u8 n_37, Value.int IntKind.u8 n_38,
 Value.int IntKind.u8 n_39, Value.int IntKind.u8 n_40, Value.int IntKind.u8 n_41, Value.int IntKind.u8 n_42, Value.int IntKind.u8 n_43, Value.int IntKind.u8 n_44, Value.int IntKind.u8 n_45, Value.int IntKind.u8 n_46,
 Value.int IntKind.u8 n_47, Value.int IntKind.u8 n_48, Value.int IntKind.u8 n_49, Value.int IntKind.u8 n_50, Value.int IntKind.u8 n_51, Value.int IntKind.u8 n_52, Value.int IntKind.u8 n_53, Value.int IntKind.u8 n_54,
 Value.int IntKind.u8 n_55, Value.int IntKind.u8 n_56, Value.int IntKind.u8 n_57, Value.int IntKind.u8 n_58, Value.int IntKind.u8 n_59, Value.int IntKind.u8 n_60, Value.int IntKind.u8 n_61, Value.int IntKind.u8 n_62]))
 h'_1) := by kernel_rfl

def shp270 : Nat → List (Tmp × TypeId) := fun i => []
theorem vc270 (C : FuncId → List Value → Hp → (Value → Hp → Prop) → Prop) (x n : Int) (h : Hp) (K : Value → Hp → Prop) : vBody Tryz.prog C pf shp270 Tryz.f270 (Tryz.f270.body.getD .skip) [.int .u32 x, .int .i64 n] h K = (
 nonneg (andW IntKind.u64 (toW IntKind.u64 n) 31) ∧ nonneg (subW IntKind.u64 32 (andW IntKind.u64 (toW IntKind.u64 n) 31)) ∧ K (Value.int IntKind.u32 (orW IntKind.u32 (shlW IntKind.u32 x (andW IntKind.u64 (toW IntKind.u64 n) 31)) (shrW IntKind.u32 x (subW IntKind.u64 32 (andW IntKind.u64 (toW IntKind.u64 n) 31))))) h) := by kernel_rfl

def shp271 : Nat → List (Tmp × TypeId) := fun i => []
theorem vc271 (C : FuncId → List Value → Hp → (Value → Hp → Prop) → Prop)  (h : Hp) (K : Value → Hp → Prop) : vBody Tryz.prog C pf shp271 Tryz.f271 (Tryz.f271.body.getD .skip) [] h K = (
 ∀ (h' : Hp),
 h' =
 h.alloc
 [Value.int IntKind.u32 (Int.ofNat 0), Value.int IntKind.u32 (Int.ofNat 0), Value.int IntKind.u32 (Int.ofNat 0), Value.int IntKind.u32 (Int.ofNat 0), Value.int IntKind.u32 (Int.ofNat 0), Value.int IntKind.u32 (Int.ofNat 0), Value.int IntKind.u32 (Int.ofNat 0), Value.int IntKind.u32 (Int.ofNat 0), Value.int IntKind.u32 (Int.ofNat 0), Value.int IntKind.u32 (Int.ofNat 0),
 Value.int IntKind.u32 (Int.ofNat 0), Value.int IntKind.u32 (Int.ofNat 0), Value.int IntKind.u32 (Int.ofNat 0), Value.int IntKind.u32 (Int.ofNat 0), Value.int IntKind.u32 (Int.ofNat 0), Value.int IntKind.u32 (Int.ofNat 0), Value.int IntKind.u32 (Int.ofNat 0), Value.int IntKind.u32 (Int.ofNat 0), Value.int IntKind.u32 (Int.ofNat 0), Value.int IntKind.u32 (Int.ofNat 0),
 Value.int IntKind.u32 (Int.ofNat 0), Value.int IntKind.u32 (Int.ofNat 0), Value.int IntKind.u32 (Int.ofNat 0), Value.int IntKind.u32 (Int.ofNat 0), Value.int IntKind.u32 (Int.ofNat 0), Value.int IntKind.u32 (Int.ofNat 0), Value.int IntKind.u32 (Int.ofNat 0), Value.int IntKind.u32 (Int.ofNat 0), Value.int IntKind.u32 (Int.ofNat 0), Value.int IntKind.u32 (Int.ofNat 0),
 Value.int IntKind.u32 (Int.ofNat 0), Value.int IntKind.u32 (Int.ofNat 0), Value.int IntKind.u32 (Int.ofNat 0), Value.int IntKind.u32 (Int.ofNat 0), Value.int IntKind.u32 (Int.ofNat 0), Value.int IntKind.u32 (Int.ofNat 0), Value.int IntKind.u32 (Int.ofNat 0), Value.int IntKind.u32 (Int.ofNat 0), Value.int IntKind.u32 (Int.ofNat 0), Value.int IntKind.u32 (Int.ofNat 0),
 Value.int IntKind.u32 (Int.ofNat 0), Value.int IntKind.u32 (Int.ofNat 0), Value.int IntKind.u32 (Int.ofNat 0), Value.int IntKind.u32 (Int.ofNat 0), Value.int IntKind.u32 (Int.ofNat 0), Value.int IntKind.u32 (Int.ofNat 0), Value.int IntKind.u32 (Int.ofNat 0), Value.int IntKind.u32 (Int.ofNat 0), Value.int IntKind.u32 (Int.ofNat 0), Value.int IntKind.u32 (Int.ofNat 0),
 Value.int IntKind.u32 (Int.ofNat 0), Value.int IntKind.u32 (Int.ofNat 0), Value.int IntKind.u32 (Int.ofNat 0), Value.int IntKind.u32 (Int.ofNat 0), Value.int IntKind.u32 (Int.ofNat 0), Value.int IntKind.u32 (Int.ofNat 0), Value.int IntKind.u32 (Int.ofNat 0), Value.int IntKind.u32 (Int.ofNat 0), Value.int IntKind.u32 (Int.ofNat 0), Value.int IntKind.u32 (Int.ofNat 0),
 Value.int IntKind.u32 (Int.ofNat 0), Value.int IntKind.u32 (Int.ofNat 0), Value.int IntKind.u32 (Int.ofNat 0), Value.int IntKind.u32 (Int.ofNat 0)]
 397 →
 plainA (some (Addr.mk h.next 0 none)) = true ∧
 ∃ (h'_1 : Hp),
 h'.store h.next 0
 [Value.int IntKind.u32 1116352408, Value.int IntKind.u32 1899447441, Value.int IntKind.u32 3049323471, Value.int IntKind.u32 3921009573, Value.int IntKind.u32 961987163, Value.int IntKind.u32 1508970993, Value.int IntKind.u32 2453635748, Value.int IntKind.u32 2870763221, Value.int IntKind.u32 3624381080, Value.int IntKind.u32 310598401, Value.int IntKind.u32 607225278,
 Value.int IntKind.u32 1426881987, Value.int IntKind.u32 1925078388, Value.int IntKind.u32 2162078206, Value.int IntKind.u32 2614888103, Value.int IntKind.u32 3248222580, Value.int IntKind.u32 3835390401, Value.int IntKind.u32 4022224774, Value.int IntKind.u32 264347078, Value.int IntKind.u32 604807628, Value.int IntKind.u32 770255983, Value.int IntKind.u32 1249150122,
 Value.int IntKind.u32 1555081692, Value.int IntKind.u32 1996064986, Value.int IntKind.u32 2554220882, Value.int IntKind.u32 2821834349, Value.int IntKind.u32 2952996808, Value.int IntKind.u32 3210313671, Value.int IntKind.u32 3336571891, Value.int IntKind.u32 3584528711, Value.int IntKind.u32 113926993, Value.int IntKind.u32 338241895, Value.int IntKind.u32 666307205,
 Value.int IntKind.u32 773529912, Value.int IntKind.u32 1294757372, Value.int IntKind.u32 1396182291, Value.int IntKind.u32 1695183700, Value.int IntKind.u32 1986661051, Value.int IntKind.u32 2177026350, Value.int IntKind.u32 2456956037, Value.int IntKind.u32 2730485921, Value.int IntKind.u32 2820302411, Value.int IntKind.u32 3259730800, Value.int IntKind.u32 3345764771,
 Value.int IntKind.u32 3516065817, Value.int IntKind.u32 3600352804, Value.int IntKind.u32 4094571909, Value.int IntKind.u32 275423344, Value.int IntKind.u32 430227734, Value.int IntKind.u32 506948616, Value.int IntKind.u32 659060556, Value.int IntKind.u32 883997877, Value.int IntKind.u32 958139571, Value.int IntKind.u32 1322822218, Value.int IntKind.u32 1537002063,
 Value.int IntKind.u32 1747873779, Value.int IntKind.u32 1955562222, Value.int IntKind.u32 2024104815, Value.int IntKind.u32 2227730452, Value.int IntKind.u32 2361852424, Value.int IntKind.u32 2428436474, Value.int IntKind.u32 2756734187, Value.int IntKind.u32 3204031479, Value.int IntKind.u32 3329325298] =
 some h'_1 ∧
 ∃ (n : Int),
 ∃ (n_1 : Int),
 ∃ (n_2 : Int),
 ∃ (n_3 : Int),
 ∃ (n_4 : Int),
 ∃ (n_5 : Int),
 ∃ (n_6 : Int),
 ∃ (n_7 : Int),
 ∃ (n_8 : Int),
 ∃ (n_9 : Int),
 ∃ (n_10 : Int),
 ∃ (n_11 : Int),
 ∃ (n_12 : Int),
 ∃ (n_13 : Int),
 ∃ (n_14 : Int),
 ∃ (n_15 : Int),
 ∃ (n_16 : Int),
 ∃ (n_17 : Int),
 ∃ (n_18 : Int),
 ∃ (n_19 : Int),
 ∃ (n_20 : Int),
 ∃ (n_21 : Int),
 ∃ (n_22 : Int),
 ∃ (n_23 : Int),
 ∃ (n_24 : Int),
 ∃ (n_25 : Int),
 ∃ (n_26 : Int),
 ∃ (n_27 : Int),
 ∃ (n_28 : Int),
 ∃ (n_29 : Int),
 ∃ (n_30 : Int),
 ∃ (n_31 : Int),
 ∃ (n_32 : Int),
 ∃ (n_33 : Int),
 ∃ (n_34 : Int),
 ∃ (n_35 : Int),
 ∃ (n_36 : Int),
 ∃ (n_37 : Int),
 ∃ (n_38 : Int),
 ∃ (n_39 : Int),
 ∃ (n_40 : Int),
 ∃ (n_41 : Int),
 ∃ (n_42 : Int),
 ∃ (n_43 : Int),
 ∃ (n_44 : Int),
 ∃ (n_45 : Int),
 ∃ (n_46 : Int),
 ∃ (n_47 : Int),
 ∃ (n_48 : Int),
 ∃ (n_49 : Int),
 ∃ (n_50 : Int),
 ∃ (n_51 : Int),
 ∃ (n_52 : Int),
 ∃ (n_53 : Int),
 ∃ (n_54 : Int),
 ∃ (n_55 : Int),
 ∃ (n_56 : Int),
 ∃ (n_57 : Int),
 ∃ (n_58 : Int),
 ∃ (n_59 : Int),
 ∃ (n_60 : Int),
 ∃ (n_61 : Int),
 ∃ (n_62 : Int),
 ∃ (n_63 : Int),
 (plainA (some (Addr.mk h.next 0 none)) = true ∧
 h'_1.cellsAt h.next 0 64 =
 some
 [Value.int IntKind.u32 n, Value.int IntKind.u32 n_1, Value.int IntKind.u32 n_2, Value.int IntKind.u32 n_3, Value.int IntKind.u32 n_4, Value.int IntKind.u32 n_5, Value.int IntKind.u32 n_6, Value.int IntKind.u32 n_7, Value.int IntKind.u32 n_8,
 Value.int IntKind.u32 n_9, Value.int IntKind.u32 n_10, Value.int IntKind.u32 n_11, Value.int IntKind.u32 n_12, Value.int IntKind.u32 n_13, Value.int IntKind.u32 n_14, Value.int IntKind.u32 n_15, Value.int IntKind.u32 n_16, Value.int IntKind.u32 n_17,
 Value.int IntKind.u32 n_18, Value.int IntKind.u32 n_19, Value.int IntKind.u32 n_20, Value.int IntKind.u32 n_21, Value.int IntKind.u32 n_22, Value.int IntKind.u32 n_23, Value.int IntKind.u32 n_24, Value.int IntKind.u32 n_25, Value.int IntKind.u32 n_26,
 Value.int IntKind.u32 n_27, Value.int IntKind.u32 n_28, Value.int IntKind.u32 n_29, Value.int IntKind.u32 n_30, Value.int IntKind.u32 n_31, Value.int IntKind.u32 n_32, Value.int IntKind.u32 n_33, Value.int IntKind.u32 n_34, Value.int IntKind.u32 n_35,
 Value.int IntKind.u32 n_36, Value.int IntKind.u32 n_37, Value.int IntKind.u32 n_38, Value.int IntKind.u32 n_39, Value.int IntKind.u32 n_40, Value.int IntKind.u32 n_41, Value.int IntKind.u32 n_42, Value.int IntKind.u32 n_43, Value.int IntKind.u32 n_44,
 Value.int IntKind.u32 n_45, Value.int IntKind.u32 n_46, Value.int IntKind.u32 n_47, Value.int IntKind.u32 n_48, Value.int IntKind.u32 n_49, Value.int IntKind.u32 n_50, Value.int IntKind.u32 n_51, Value.int IntKind.u32 n_52, Value.int IntKind.u32 n_53,
 Value.int IntKind.u32 n_54, Value.int IntKind.u32 n_55, Value.int IntKind.u32 n_56, Value.int IntKind.u32 n_57, Value.int IntKind.u32 n_58, Value.int IntKind.u32 n_59, Value.int IntKind.u32 n_60, Value.int IntKind.u32 n_61, Value.int IntKind.u32 n_62,
 Value.int IntKind.u32 n_63]) ∧
 K
 (Value.agg
 (Array.mk
 [Value.int IntKind.u32 n, Value.int IntKind.u32 n_1, Value.int IntKind.u32 n_2, Value.int IntKind.u32 n_3, Value.int IntKind.u32 n_4, Value.int IntKind.u32 n_5, Value.int IntKind.u32 n_6, Value.int IntKind.u32 n_7, Value.int IntKind.u32 n_8,
 Value.int IntKind.u32 n_9, Value.int IntKind.u32 n_10, Value.int IntKind.u32 n_11, Value.int IntKind.u32 n_12, Value.int IntKind.u32 n_13, Value.int IntKind.u32 n_14, Value.int IntKind.u32 n_15, Value.int IntKind.u32 n_16, Value.int IntKind.u32 n_17,
 Value.int IntKind.u32 n_18, Value.int IntKind.u32 n_19, Value.int IntKind.u32 n_20, Value.int IntKind.u32 n_21, Value.int IntKind.u32 n_22, Value.int IntKind.u32 n_23, Value.int IntKind.u32 n_24, Value.int IntKind.u32 n_25, Value.int IntKind.u32 n_26,
 Value.int IntKind.u32 n_27, Value.int IntKind.u32 n_28, Value.int IntKind.u32 n_29, Value.int IntKind.u32 n_30, Value.int IntKind.u32 n_31, Value.int IntKind.u32 n_32, Value.int IntKind.u32 n_33, Value.int IntKind.u32 n_34, Value.int IntKind.u32 n_35,
 Value.int IntKind.u32 n_36, Value.int IntKind.u32 n_37, Value.int IntKind.u32 n_38, Value.int IntKind.u32 n_39, Value.int IntKind.u32 n_40, Value.int IntKind.u32 n_41, Value.int IntKind.u32 n_42, Value.int IntKind.u32 n_43, Value.int IntKind.u32 n_44,
 Value.int IntKind.u32 n_45, Value.int IntKind.u32 n_46, Value.int IntKind.u32 n_47, Value.int IntKind.u32 n_48, Value.int IntKind.u32 n_49, Value.int IntKind.u32 n_50, Value.int IntKind.u32 n_51, Value.int IntKind.u32 n_52, Value.int IntKind.u32 n_53,
 Value.int IntKind.u32 n_54, Value.int IntKind.u32 n_55, Value.int IntKind.u32 n_56, Value.int IntKind.u32 n_57, Value.int IntKind.u32 n_58, Value.int IntKind.u32 n_59, Value.int IntKind.u32 n_60, Value.int IntKind.u32 n_61, Value.int IntKind.u32 n_62,
 Value.int IntKind.u32 n_63]))
 h'_1) := by kernel_rfl

def shp257 : Nat → List (Tmp × TypeId) := fun i => []
theorem vc257 (C : FuncId → List Value → Hp → (Value → Hp → Prop) → Prop)  (h : Hp) (K : Value → Hp → Prop) : vBody Tryz.prog C pf shp257 Tryz.f257 (Tryz.f257.body.getD .skip) [] h K = (
 C 265 [] h fun (v : Value) (h' : Hp) =>
 ∃ (n : Int),
 ∃ (n_1 : Int),
 ∃ (n_2 : Int),
 ∃ (n_3 : Int),
 ∃ (n_4 : Int),
 ∃ (n_5 : Int),
 ∃ (n_6 : Int),
 ∃ (n_7 : Int),
 v = Value.agg (Array.mk [Value.int IntKind.u32 n, Value.int IntKind.u32 n_1, Value.int IntKind.u32 n_2, Value.int IntKind.u32 n_3, Value.int IntKind.u32 n_4, Value.int IntKind.u32 n_5, Value.int IntKind.u32 n_6, Value.int IntKind.u32 n_7]) ∧
 ∀ (h'_1 : Hp),
 h'_1 = h'.alloc [Value.bool true, Value.int IntKind.u32 n, Value.int IntKind.u32 n_1, Value.int IntKind.u32 n_2, Value.int IntKind.u32 n_3, Value.int IntKind.u32 n_4, Value.int IntKind.u32 n_5, Value.int IntKind.u32 n_6, Value.int IntKind.u32 n_7, Value.slice none 0 0, Value.int IntKind.i64 (Int.ofNat 0)] 391 → K (Value.pointer (some (Addr.mk h'.next 0 none))) h'_1) := by kernel_rfl

def shp266 : Nat → List (Tmp × TypeId) := fun i => []
theorem vc266 (C : FuncId → List Value → Hp → (Value → Hp → Prop) → Prop) (b : Nat) (h : Hp) (K : Value → Hp → Prop) : vBody Tryz.prog C pf shp266 Tryz.f266 (Tryz.f266.body.getD .skip) [.pointer (some ⟨b, 0, none⟩)] h K = (
 (notB (isN (some (Addr.mk b 0 none))) = true → (some (Addr.mk b 0 none)).isSome = true) ∧ (notB (isN (some (Addr.mk b 0 none))) = true → plainA (some (Addr.mk b 0 none)) = true) ∧ ∃ (b_1 : Bool), (notB (isN (some (Addr.mk b 0 none))) = true → plainA (some (Addr.mk b 0 none)) = true ∧ h.cellsAt b 0 1 = some [Value.bool b_1]) ∧ K (Value.bool (sel (isN (some (Addr.mk b 0 none))) true (notB b_1))) h) := by kernel_rfl
end Go.Proofs.YtpgedmighmolnaaGreat.vc

/- Contract of the reference's sha256. -/
set_option linter.unusedVariables false
namespace Go.Proofs.YtpgedmighmolnaaGreat.sb
open Go Go.Cn Go.Cn.Sha Go.Proofs Go.Proofs.YtpgedmighmolnaaGreat.vc

theorem stay_of {h h' : Hp} (k : Kept h h') : Stay h h' := by
  refine ⟨fun b cs t g hb hl => ?_, k.oth⟩
  cases g with
  | none => exact ⟨k.ro _ _ _ hb, rfl⟩
  | some g =>
    obtain ⟨h1, h2⟩ := k.rw _ _ _ _ hb id
    refine ⟨h1, ?_⟩
    simpa [Hp.live, h2] using hl

theorem sum_len (bs : List Nat) : (sum bs).length = 32 := by
  have hl := (blocks_ok ((pad bs).length / 64) (bs := pad bs) (hs := H0) rfl H0_ok).1
  unfold sum
  generalize blocks ((pad bs).length / 64) H0 (pad bs) = cur at hl
  match cur, hl with
  | [a, b, c, d, e, f, g, x], _ => rfl

theorem plain_arr : ∀ (l : List Value), (∀ v ∈ l, plainV 99 v = true) → plainV 100 (.agg l.toArray) = true := by
  intro l h
  show l.toArray.toList.all (plainV 99) = true
  simpa using h

/-- A sum as a value. -/
def sumV (s : ByteArray) : Value := .agg ((sum (bytes8 s)).map u8).toArray
theorem sumV_plain (s : ByteArray) : plainV 100 (sumV s) = true := by
  refine plain_arr _ fun v hv => ?_
  simp only [List.mem_map] at hv
  obtain ⟨x, _, rfl⟩ := hv
  rfl

set_option maxRecDepth 20000 in
theorem c242' (s : ByteArray) (h : Hp) (hs : s.size ≤ 1073741824) : C 242 [.string s] h fun v h' => v = sumV s ∧ Kept h h' := by
  refine SCalls_of_vw fol (pf := pf) (shp := shp242) (f := 242) (fn := Tryz.f242) (by kernel_rfl) (c := Tryz.f242.body.getD .skip) (by kernel_rfl) (by kernel_rfl) fun wf => ?_
  rw [vc242]
  intro h1 e1
  obtain ⟨b1, k1, n1, wf1⟩ := new_blk wf e1
  refine (c256 h1).wf fun v h2 wf2 _ ⟨⟨g0, g1, a0, a1, c0, c1, e2, s0, s1⟩, k2⟩ => ?_
  refine ⟨a0, 8, c0, a1, 64, c1, e2, ?_⟩
  refine (c255 s0 s1 s hs).wf fun v h3 wf3 _ ⟨e3, k3⟩ => ?_
  have hl := sum_len (bytes8 s)
  have k02 := k1.trans wf k2 fun _ _ hf => hf
  have k03 := k02.trans wf k3 fun _ _ hf => hf
  have b1' := Kept.blk k3 (Kept.blk k2 b1)
  obtain ⟨h4, y1, y2, y3, y4, y5, y6⟩ := set_blk wf3 b1' k03 wf (Nat.le_refl _) (vs := (sum (bytes8 s)).map u8) (by simp [hl]) (by simp [u8, isCell])
  unfold sumV
  generalize sum (bytes8 s) = out at *
  match out, hl with
  | [x0, x1, x2, x3, x4, x5, x6, x7, x8, x9, x10, x11, x12, x13, x14, x15, x16, x17, x18, x19, x20, x21, x22, x23, x24, x25, x26, x27, x28, x29, x30, x31], _ =>
    exact ⟨_, _, _, _, _, _, _, _, _, _, _, _, _, _, _, _, _, _, _, _, _, _, _, _, _, _, _, _, _, _, _, _, e3, rfl, h4, y1, _, _, _, _, _, _, _, _, _, _, _, _, _, _, _, _, _, _, _, _, _, _, _, _, _, _, _, _, _, _, _, _, ⟨rfl, (y2.cells (Nat.le_of_ble_eq_true rfl)).trans rfl⟩, rfl, y3⟩

theorem c242 (s : ByteArray) (h : Hp) (hs : s.size ≤ 1073741824) : C 242 [.string s] h fun v h' => v = sumV s ∧ h' = h :=
  (c242' s h hs).trim (of_decide_eq_true (by kernel_rfl)) fun v h' ⟨e, k⟩ => ⟨stay_of k, by rw [e]; exact sumV_plain s, e⟩
end Go.Proofs.YtpgedmighmolnaaGreat.sb

/- Contracts of the program's own sha256 (1): words turned, the constants. -/
set_option linter.unusedVariables false
namespace Go.Proofs.YtpgedmighmolnaaGreat.sb
open Go Go.Cn Go.Cn.Sha Go.Proofs Go.Proofs.YtpgedmighmolnaaGreat.vc

theorem mask31 : ∀ k : Fin 31, andW .u64 (toW .u64 (-((k.val + 1 : Nat) : Int))) 31 = ((31 - k.val : Nat) : Int) := by decide +kernel

theorem c270 {x k : Nat} (hx : W32 x) (h0 : 0 < k) (h1 : k < 32) (h : Hp) : C 270 [.int .u32 x, .int .i64 (-(k : Int))] h fun v h' => v = .int .u32 (rot k x : Nat) ∧ h' = h := by
  refine SCalls_of_vw fol (pf := pf) (shp := shp270) (f := 270) (fn := Tryz.f270) (by kernel_rfl) (c := Tryz.f270.body.getD .skip) (by kernel_rfl) (by kernel_rfl) fun wf => ?_
  rw [vc270]
  have e1 : andW .u64 (toW .u64 (-(k : Int))) 31 = ((32 - k : Nat) : Int) := by
    have := mask31 ⟨k - 1, by omega⟩
    simp only at this
    rw [show k - 1 + 1 = k by omega, show 31 - (k - 1) = 32 - k by omega] at this
    exact this
  have e2 : subW .u64 32 ((32 - k : Nat) : Int) = (k : Int) := by
    unfold subW
    rw [show (32 - ((32 - k : Nat) : Int)) = (k : Int) by omega, wrap_u64, Nat.mod_eq_of_lt (by omega)]
  rw [e1, e2, shlW_u32 _ _ (by omega), shrW_nat _ _ _ (show k ≤ 32 by omega), orW_u32 (.mod _) (hx.shr k), Nat.or_comm]
  exact ⟨Int.natCast_nonneg _, Int.natCast_nonneg _, rfl, rfl⟩

theorem add_assoc (a b c : Nat) : add (add a b) c = add a (add b c) := by unfold add; omega
theorem add_comm (a b : Nat) : add a b = add b a := by unfold add; omega

theorem c271 (h : Hp) : C 271 [] h fun v h' => v = .agg (K.map u32).toArray ∧ Kept h h' := by
  refine SCalls_of_vw fol (pf := pf) (shp := shp271) (f := 271) (fn := Tryz.f271) (by kernel_rfl) (c := Tryz.f271.body.getD .skip) (by kernel_rfl) (by kernel_rfl) fun wf => ?_
  rw [vc271]
  intro h1 e1
  obtain ⟨b1, k1, n1, wf1⟩ := new_blk wf e1
  obtain ⟨h4, y1, y2, y3, y4, y5, y6⟩ := set_blk wf1 b1 k1 wf (Nat.le_refl _) (vs := K.map u32) rfl rfl
  exact ⟨rfl, h4, y1, _, _, _, _, _, _, _, _, _, _, _, _, _, _, _, _, _, _, _, _, _, _, _, _, _, _, _, _, _, _, _, _, _, _, _, _, _, _, _, _, _, _, _, _, _, _, _, _, _, _, _, _, _, _, _, _, _, _, _, _, _, _, _, _, ⟨rfl, (y2.cells (Nat.le_of_ble_eq_true rfl)).trans rfl⟩, rfl, y3⟩

theorem wnext_eq (r : List Nat) : add (add (add (r.getD 15 0) (r.getD 6 0)) (s0 (r.getD 14 0))) (s1 (r.getD 1 0)) = wnext r := by
  unfold wnext
  congr 1
  rw [add_assoc, add_comm (r.getD 6 0), ← add_assoc]

theorem round_eq (s : St) (k w : Nat) : (⟨add (add (add (add (add s.h k) w) (S1 s.e)) (ch s.e s.f s.g)) (add (S0 s.a) (maj s.a s.b s.c)), s.a, s.b, s.c, add s.d (add (add (add (add s.h k) w) (S1 s.e)) (ch s.e s.f s.g)), s.e, s.f, s.g⟩ : St) = round s k w := by
  have e : add (add (add (add s.h k) w) (S1 s.e)) (ch s.e s.f s.g) = t1 s k w := by
    unfold t1
    unfold add
    omega
  rw [e]
  unfold round
  congr 1
  rw [add_assoc]
end Go.Proofs.YtpgedmighmolnaaGreat.sb
