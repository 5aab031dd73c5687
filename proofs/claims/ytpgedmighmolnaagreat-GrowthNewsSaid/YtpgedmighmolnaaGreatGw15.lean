/- Joined: GrowV, GrowA, GrowB, GrowC. -/
import Derived.Test.YtpgedmighmolnaaGreatGw14
import Derived.Test.YtpgedmighmolnaaGreatProg
import Derived.KernelRfl
/- The conditions of the symbolic runs of functions of the program (printed by a program of ours, vcgen.py; checked by the kernel). -/
set_option linter.unusedVariables false
set_option maxRecDepth 100000
namespace Go.Proofs.YtpgedmighmolnaaGreat.vc
open Go Go.Cn Go.Proofs
def pfg : FuncId → Bool := fun f => f == 26 || f == 27 || f == 28 || f == 29 || f == 30 || f == 61

def shp24 : Nat → List (Tmp × TypeId) := fun i => []
theorem vc24 (C : FuncId → List Value → Hp → (Value → Hp → Prop) → Prop) (p w : Int) (h : Hp) (K : Value → Hp → Prop) : vBody Tryz.prog C pfg shp24 Tryz.f24 (Tryz.f24.body.getD .skip) [.agg (Array.mk [.int .i64 p, .int .i64 w])] h K = (
 ∀ (h' : Hp),
 h' = h.alloc [Value.int IntKind.i64 p, Value.int IntKind.i64 w] 23 → ∃ (n : Int), ∃ (n_1 : Int), (plainA (some (Addr.mk h.next 0 none)) = true ∧ h'.cellsAt h.next 0 2 = some [Value.int IntKind.i64 n, Value.int IntKind.i64 n_1]) ∧ C 38 [Value.agg (Array.mk [Value.int IntKind.i64 n, Value.int IntKind.i64 n_1])] h' fun (v : Value) (h' : Hp) => ∃ (b : Bool), v = Value.bool b ∧ K (Value.bool b) h') := by kernel_rfl

def shp38 : Nat → List (Tmp × TypeId) := fun i => []
theorem vc38 (C : FuncId → List Value → Hp → (Value → Hp → Prop) → Prop) (p w : Int) (h : Hp) (K : Value → Hp → Prop) : vBody Tryz.prog C pfg shp38 Tryz.f38 (Tryz.f38.body.getD .skip) [.agg (Array.mk [.int .i64 p, .int .i64 w])] h K = (
 ∀ (h' : Hp),
 h' = h.alloc [Value.int IntKind.i64 p, Value.int IntKind.i64 w] 23 →
 plainA (some (Addr.mk h.next 0 none)) = true ∧
 ∃ (n : Int),
 (plainA (some (Addr.mk h.next 0 none)) = true ∧ h'.cellsAt h.next 0 1 = some [Value.int IntKind.i64 n]) ∧
 (notB (eqI n 1024) = true → plainA (some (Addr.mk h.next 0 none)) = true) ∧
 ∃ (n_1 : Int),
 (notB (eqI n 1024) = true → plainA (some (Addr.mk h.next 0 none)) = true ∧ h'.cellsAt h.next 0 1 = some [Value.int IntKind.i64 n_1]) ∧
 (notB (sel (eqI n 1024) true (eqI n_1 2048)) = true → plainA (some (Addr.mk h.next 0 none)) = true) ∧
 ∃ (n_2 : Int),
 (notB (sel (eqI n 1024) true (eqI n_1 2048)) = true → plainA (some (Addr.mk h.next 0 none)) = true ∧ h'.cellsAt h.next 0 1 = some [Value.int IntKind.i64 n_2]) ∧
 (notB (sel (sel (eqI n 1024) true (eqI n_1 2048)) true (eqI n_2 4096)) = true → plainA (some (Addr.mk h.next 0 none)) = true) ∧
 ∃ (n_3 : Int),
 (notB (sel (sel (eqI n 1024) true (eqI n_1 2048)) true (eqI n_2 4096)) = true → plainA (some (Addr.mk h.next 0 none)) = true ∧ h'.cellsAt h.next 0 1 = some [Value.int IntKind.i64 n_3]) ∧
 (sel (sel (sel (eqI n 1024) true (eqI n_1 2048)) true (eqI n_2 4096)) true (eqI n_3 8192) = true → plainA (some (Addr.mk h.next 0 none)) = true) ∧
 ∃ (n_4 : Int),
 (sel (sel (sel (eqI n 1024) true (eqI n_1 2048)) true (eqI n_2 4096)) true (eqI n_3 8192) = true → plainA (some (Addr.mk h.next 1 none)) = true ∧ h'.cellsAt h.next 1 1 = some [Value.int IntKind.i64 n_4]) ∧
 (sel (sel (sel (sel (eqI n 1024) true (eqI n_1 2048)) true (eqI n_2 4096)) true (eqI n_3 8192)) (geI n_4 1) false = true → plainA (some (Addr.mk h.next 0 none)) = true) ∧
 ∃ (n_5 : Int),
 (sel (sel (sel (sel (eqI n 1024) true (eqI n_1 2048)) true (eqI n_2 4096)) true (eqI n_3 8192)) (geI n_4 1) false = true → plainA (some (Addr.mk h.next 1 none)) = true ∧ h'.cellsAt h.next 1 1 = some [Value.int IntKind.i64 n_5]) ∧
 K (Value.bool (sel (sel (sel (sel (sel (eqI n 1024) true (eqI n_1 2048)) true (eqI n_2 4096)) true (eqI n_3 8192)) (geI n_4 1) false) (leI n_5 32) false)) h') := by kernel_rfl

def shp163 : Nat → List (Tmp × TypeId) := fun i => if i = 2 then [(8, 3)] else []
theorem vc163 (C : FuncId → List Value → Hp → (Value → Hp → Prop) → Prop) (a : Option Addr) (l c : Nat) (x : Int) (h : Hp) (K : Value → Hp → Prop) : vBody Tryz.prog C pfg shp163 Tryz.f163 (Tryz.f163.body.getD .skip) [.slice a l c, .int .i64 x] h K = (
 ∃ (I : List Value → Nat → Hp → Prop),
 (∃ (m : Nat), I [Value.int IntKind.i64 0] m h) ∧
 ∀ (n : Int) (m : Nat) (h : Hp),
 I [Value.int IntKind.i64 n] m h →
 if ltI n (natI l) = true then (a.isSome = true ∧ inR n l) ∧ ∃ (n_1 : Int), (plainA (some (Addr.mk (blk a) (plusI (off a) n 1) none)) = true ∧ h.cellsAt (blk a) (plusI (off a) n 1) 1 = some [Value.int IntKind.i64 n_1]) ∧ if eqI x n_1 = true then K (Value.int IntKind.i64 n) h else ∃ (m' : Nat), lessN m' m ∧ I [Value.int IntKind.i64 (addW IntKind.i64 n 1)] m' h
 else K (Value.int IntKind.i64 (-1)) h) := by kernel_rfl

def shp110 : Nat → List (Tmp × TypeId) := fun i => []
theorem vc110 (C : FuncId → List Value → Hp → (Value → Hp → Prop) → Prop) (a : Option Addr) (l c : Nat) (x : Int) (h : Hp) (K : Value → Hp → Prop) : vBody Tryz.prog C pfg shp110 Tryz.f110 (Tryz.f110.body.getD .skip) [.slice a l c, .int .i64 x] h K = (
 C 163 [Value.slice a l c, Value.int IntKind.i64 x] h fun (v : Value) (h' : Hp) => ∃ (n : Int), v = Value.int IntKind.i64 n ∧ K (Value.bool (geI n 0)) h') := by kernel_rfl

def shp59 : Nat → List (Tmp × TypeId) := fun i => []
theorem vc59 (C : FuncId → List Value → Hp → (Value → Hp → Prop) → Prop) (p w : Int) (h : Hp) (K : Value → Hp → Prop) : vBody Tryz.prog C pfg shp59 Tryz.f59 (Tryz.f59.body.getD .skip) [.agg (Array.mk [.int .i64 p, .int .i64 w])] h K = (
 ∀ (h' : Hp),
 h' = h.alloc [Value.int IntKind.i64 p, Value.int IntKind.i64 w] 23 →
 ∀ (h'_1 : Hp),
 h'_1 = h'.alloc [Value.int IntKind.i64 1024, Value.int IntKind.i64 2048, Value.int IntKind.i64 4096, Value.int IntKind.i64 8192] 3 →
 plainA (some (Addr.mk h.next 0 none)) = true ∧
 ∃ (n : Int),
 (plainA (some (Addr.mk h.next 0 none)) = true ∧ h'_1.cellsAt h.next 0 1 = some [Value.int IntKind.i64 n]) ∧
 C 110 [Value.slice (some (Addr.mk h'.next 0 none)) 4 4, Value.int IntKind.i64 n] h'_1 fun (v : Value) (h' : Hp) =>
 ∃ (b : Bool),
 v = Value.bool b ∧
 (b = true → plainA (some (Addr.mk h.next 0 none)) = true) ∧
 ∃ (n : Int),
 (b = true → plainA (some (Addr.mk h.next 1 none)) = true ∧ h'.cellsAt h.next 1 1 = some [Value.int IntKind.i64 n]) ∧
 (sel b (geI n 1) false = true → plainA (some (Addr.mk h.next 0 none)) = true) ∧ ∃ (n_1 : Int), (sel b (geI n 1) false = true → plainA (some (Addr.mk h.next 1 none)) = true ∧ h'.cellsAt h.next 1 1 = some [Value.int IntKind.i64 n_1]) ∧ K (Value.bool (sel (sel b (geI n 1) false) (leI n_1 32) false)) h') := by kernel_rfl

def shp61 : Nat → List (Tmp × TypeId) := fun i => []
theorem vc61 (C : FuncId → List Value → Hp → (Value → Hp → Prop) → Prop) (w : Int) (n0 n1 n2 n3 n4 n5 n6 n7 n8 n9 n10 n11 n12 n13 n14 n15 n16 n17 n18 n19 n20 n21 n22 n23 n24 n25 n26 n27 n28 n29 n30 n31 : Int) (h : Hp) (K : Value → Hp → Prop) : vBody Tryz.prog C pfg shp61 Tryz.f61 (Tryz.f61.body.getD .skip) [.int .i64 w, .agg (Array.mk [.int .u8 n0, .int .u8 n1, .int .u8 n2, .int .u8 n3, .int .u8 n4, .int .u8 n5, .int .u8 n6, .int .u8 n7, .int .u8 n8, .int .u8 n9, .int .u8 n10, .int .u8 n11, .int .u8 n12, .int .u8 n13, .int .u8 n14, .int .u8 n15, .int .u8 n16, .int .u8 n17, .int .u8 n18, .int .u8 n19, .int .u8 n20, .int .u8 n21, .int .u8 n22, .int .u8 n23, .int .u8 n24, .int .u8 n25, .int .u8 n26, .int .u8 n27, .int .u8 n28, .int .u8 n29, .int .u8 n30, .int .u8 n31])] h K = (
 ∀ (h' : Hp),
 h' =
 h.alloc
 [Value.int IntKind.u8 n0, Value.int IntKind.u8 n1, Value.int IntKind.u8 n2, Value.int IntKind.u8 n3, Value.int IntKind.u8 n4, Value.int IntKind.u8 n5, Value.int IntKind.u8 n6, Value.int IntKind.u8 n7, Value.int IntKind.u8 n8, Value.int IntKind.u8 n9, Value.int IntKind.u8 n10, Value.int IntKind.u8 n11, Value.int IntKind.u8 n12, Value.int IntKind.u8 n13, Value.int IntKind.u8 n14,
 Value.int IntKind.u8 n15, Value.int IntKind.u8 n16, Value.int IntKind.u8 n17, Value.int IntKind.u8 n18, Value.int IntKind.u8 n19, Value.int IntKind.u8 n20, Value.int IntKind.u8 n21, Value.int IntKind.u8 n22, Value.int IntKind.u8 n23, Value.int IntKind.u8 n24, Value.int IntKind.u8 n25, Value.int IntKind.u8 n26, Value.int IntKind.u8 n27, Value.int IntKind.u8 n28, Value.int IntKind.u8 n29,
 Value.int IntKind.u8 n30, Value.int IntKind.u8 n31]
 41 →
 ∃ (n : Int),
 ∃ (n_1 : Int),
 ∃ (n_2 : Int),
 ∃ (n_3 : Int),
 ∃ (n_4 : Int),
 ∃ (n_5 : Int),
 ∃ (n_6 : Int),
 ∃ (n_7 : Int),
 ∃ (n_8 : Int),
 ∃ (n_9 : Int),
 ∃ (n_10 : Int),
 ∃ (n_11 : Int),
 ∃ (n_12 : Int),
 ∃ (n_13 : Int),
 ∃ (n_14 : Int),
 ∃ (n_15 : Int),
 ∃ (n_16 : Int),
 ∃ (n_17 : Int),
 ∃ (n_18 : Int),
 ∃ (n_19 : Int),
 ∃ (n_20 : Int),
 ∃ (n_21 : Int),
 ∃ (n_22 : Int),
 ∃ (n_23 : Int),
 ∃ (n_24 : Int),
 ∃ (n_25 : Int),
 ∃ (n_26 : Int),
 ∃ (n_27 : Int),
 ∃ (n_28 : Int),
 ∃ (n_29 : Int),
 ∃ (n_30 : Int),
 ∃ (n_31 : Int),
 (plainA (some (Addr.mk h.next 0 none)) = true ∧
 h'.cellsAt h.next 0 32 =
 some
 [Value.int IntKind.u8 n, Value.int IntKind.u8 n_1, Value.int IntKind.u8 n_2, Value.int IntKind.u8 n_3, Value.int IntKind.u8 n_4, Value.int IntKind.u8 n_5, Value.int IntKind.u8 n_6, Value.int IntKind.u8 n_7, Value.int IntKind.u8 n_8, Value.int IntKind.u8 n_9, Value.int IntKind.u8 n_10, Value.int IntKind.u8 n_11,
 Value.int IntKind.u8 n_12, Value.int IntKind.u8 n_13, Value.int IntKind.u8 n_14, Value.int IntKind.u8 n_15, Value.int IntKind.u8 n_16, Value.int IntKind.u8 n_17, Value.int IntKind.u8 n_18, Value.int IntKind.u8 n_19, Value.int IntKind.u8 n_20, Value.int IntKind.u8 n_21, Value.int IntKind.u8 n_22,
 Value.int IntKind.u8 n_23, Value.int IntKind.u8 n_24, Value.int IntKind.u8 n_25, Value.int IntKind.u8 n_26, Value.int IntKind.u8 n_27, Value.int IntKind.u8 n_28, Value.int IntKind.u8 n_29, Value.int IntKind.u8 n_30, Value.int IntKind.u8 n_31]) ∧
 C 111
 [Value.int IntKind.i64 w,
 Value.agg
 (Array.mk
 [Value.int IntKind.u8 n, Value.int IntKind.u8 n_1, Value.int IntKind.u8 n_2, Value.int IntKind.u8 n_3, Value.int IntKind.u8 n_4, Value.int IntKind.u8 n_5, Value.int IntKind.u8 n_6, Value.int IntKind.u8 n_7, Value.int IntKind.u8 n_8, Value.int IntKind.u8 n_9, Value.int IntKind.u8 n_10, Value.int IntKind.u8 n_11,
 Value.int IntKind.u8 n_12, Value.int IntKind.u8 n_13, Value.int IntKind.u8 n_14, Value.int IntKind.u8 n_15, Value.int IntKind.u8 n_16, Value.int IntKind.u8 n_17, Value.int IntKind.u8 n_18, Value.int IntKind.u8 n_19, Value.int IntKind.u8 n_20, Value.int IntKind.u8 n_21, Value.int IntKind.u8 n_22,
 Value.int IntKind.u8 n_23, Value.int IntKind.u8 n_24, Value.int IntKind.u8 n_25, Value.int IntKind.u8 n_26, Value.int IntKind.u8 n_27, Value.int IntKind.u8 n_28, Value.int IntKind.u8 n_29, Value.int IntKind.u8 n_30, Value.int IntKind.u8 n_31])]
 h' fun (v : Value) (h' : Hp) =>
 ∃ (n : Int),
 ∃ (n_32 : Int),
 ∃ (n_33 : Int),
 ∃ (n_34 : Int),
 ∃ (n_35 : Int),
 ∃ (n_36 : Int),
 ∃ (n_37 : Int),
 ∃ (n_38 : Int),
 ∃ (n_39 : Int),
 ∃ (n_40 : Int),
 ∃ (n_41 : Int),
 ∃ (n_42 : Int),
 ∃ (n_43 : Int),
 ∃ (n_44 : Int),
 ∃ (n_45 : Int),
 ∃ (n_46 : Int),
 ∃ (n_47 : Int),
 ∃ (n_48 : Int),
 ∃ (n_49 : Int),
 ∃ (n_50 : Int),
 ∃ (n_51 : Int),
 ∃ (n_52 : Int),
 ∃ (n_53 : Int),
 ∃ (n_54 : Int),
 ∃ (n_55 : Int),
 ∃ (n_56 : Int),
 ∃ (n_57 : Int),
 ∃ (n_58 : Int),
 ∃ (n_59 : Int),
 ∃ (n_60 : Int),
 ∃ (n_61 : Int),
 ∃ (n_62 : Int),
 ∃ (n_63 : Int),
 v =
 Value.tuple
 (Array.mk
 [Value.agg
 (Array.mk
 [Value.int IntKind.u8 n, Value.int IntKind.u8 n_32, Value.int IntKind.u8 n_33, Value.int IntKind.u8 n_34, Value.int IntKind.u8 n_35, Value.int IntKind.u8 n_36, Value.int IntKind.u8 n_37, Value.int IntKind.u8 n_38, Value.int IntKind.u8 n_39,
 Value.int IntKind.u8 n_40, Value.int IntKind.u8 n_41, Value.int IntKind.u8 n_42, Value.int IntKind.u8 n_43, Value.int IntKind.u8 n_44, Value.int IntKind.u8 n_45, Value.int IntKind.u8 n_46, Value.int IntKind.u8 n_47, Value.int IntKind.u8 n_48,
 Value.int IntKind.u8 n_49, Value.int IntKind.u8 n_50, Value.int IntKind.u8 n_51, Value.int IntKind.u8 n_52, Value.int IntKind.u8 n_53, Value.int IntKind.u8 n_54, Value.int IntKind.u8 n_55, Value.int IntKind.u8 n_56, Value.int IntKind.u8 n_57,
 Value.int IntKind.u8 n_58, Value.int IntKind.u8 n_59, Value.int IntKind.u8 n_60, Value.int IntKind.u8 n_61, Value.int IntKind.u8 n_62]),
 Value.int IntKind.i64 n_63]) ∧
 ∀ (h'_1 : Hp),
 h'_1 =
 h'.alloc
 [Value.int IntKind.u8 (Int.ofNat 0), Value.int IntKind.u8 (Int.ofNat 0), Value.int IntKind.u8 (Int.ofNat 0), Value.int IntKind.u8 (Int.ofNat 0), Value.int IntKind.u8 (Int.ofNat 0), Value.int IntKind.u8 (Int.ofNat 0), Value.int IntKind.u8 (Int.ofNat 0),
 Value.int IntKind.u8 (Int.ofNat 0), Value.int IntKind.u8 (Int.ofNat 0), Value.int IntKind.u8 (Int.ofNat 0), Value.int IntKind.u8 (Int.ofNat 0), Value.int IntKind.u8 (Int.ofNat 0), Value.int IntKind.u8 (Int.ofNat 0),
 Value.int IntKind.u8 (Int.ofNat 0), Value.int IntKind.u8 (Int.ofNat 0), Value.int IntKind.u8 (Int.ofNat 0), Value.int IntKind.u8 (Int.ofNat 0), Value.int IntKind.u8 (Int.ofNat 0), Value.int IntKind.u8 (Int.ofNat 0),
 Value.int IntKind.u8 (Int.ofNat 0), Value.int IntKind.u8 (Int.ofNat 0), Value.int IntKind.u8 (Int.ofNat 0), Value.int IntKind.u8 (Int.ofNat 0), Value.int IntKind.u8 (Int.ofNat 0), Value.int IntKind.u8 (Int.ofNat 0),
 Value.int IntKind.u8 (Int.ofNat 0), Value.int IntKind.u8 (Int.ofNat 0), Value.int IntKind.u8 (Int.ofNat 0), Value.int IntKind.u8 (Int.ofNat 0), Value.int IntKind.u8 (Int.ofNat 0), Value.int IntKind.u8 (Int.ofNat 0),
 Value.int IntKind.u8 (Int.ofNat 0)]
 41 →
 plainA (some (Addr.mk h'.next 0 none)) = true ∧
 ∃ (h'_2 : Hp),
 h'_1.store h'.next 0
 [Value.int IntKind.u8 n, Value.int IntKind.u8 n_32, Value.int IntKind.u8 n_33, Value.int IntKind.u8 n_34, Value.int IntKind.u8 n_35, Value.int IntKind.u8 n_36, Value.int IntKind.u8 n_37, Value.int IntKind.u8 n_38, Value.int IntKind.u8 n_39,
 Value.int IntKind.u8 n_40, Value.int IntKind.u8 n_41, Value.int IntKind.u8 n_42, Value.int IntKind.u8 n_43, Value.int IntKind.u8 n_44, Value.int IntKind.u8 n_45, Value.int IntKind.u8 n_46, Value.int IntKind.u8 n_47, Value.int IntKind.u8 n_48,
 Value.int IntKind.u8 n_49, Value.int IntKind.u8 n_50, Value.int IntKind.u8 n_51, Value.int IntKind.u8 n_52, Value.int IntKind.u8 n_53, Value.int IntKind.u8 n_54, Value.int IntKind.u8 n_55, Value.int IntKind.u8 n_56, Value.int IntKind.u8 n_57,
 Value.int IntKind.u8 n_58, Value.int IntKind.u8 n_59, Value.int IntKind.u8 n_60, Value.int IntKind.u8 n_61, Value.int IntKind.u8 n_62] =
 some h'_2 ∧
 ∃ (n : Int),
 ∃ (n_64 : Int),
 ∃ (n_65 : Int),
 ∃ (n_66 : Int),
 ∃ (n_67 : Int),
 ∃ (n_68 : Int),
 ∃ (n_69 : Int),
 ∃ (n_70 : Int),
 ∃ (n_71 : Int),
 ∃ (n_72 : Int),
 ∃ (n_73 : Int),
 ∃ (n_74 : Int),
 ∃ (n_75 : Int),
 ∃ (n_76 : Int),
 ∃ (n_77 : Int),
 ∃ (n_78 : Int),
 ∃ (n_79 : Int),
 ∃ (n_80 : Int),
 ∃ (n_81 : Int),
 ∃ (n_82 : Int),
 ∃ (n_83 : Int),
 ∃ (n_84 : Int),
 ∃ (n_85 : Int),
 ∃ (n_86 : Int),
 ∃ (n_87 : Int),
 ∃ (n_88 : Int),
 ∃ (n_89 : Int),
 ∃ (n_90 : Int),
 ∃ (n_91 : Int),
 ∃ (n_92 : Int),
 ∃ (n_93 : Int),
 ∃ (n_94 : Int),
 (eqI n_63 0 = true →
 plainA (some (Addr.mk h'.next 0 none)) = true ∧
 h'_2.cellsAt h'.next 0 32 =
 some
 [Value.int IntKind.u8 n, Value.int IntKind.u8 n_64, Value.int IntKind.u8 n_65, Value.int IntKind.u8 n_66, Value.int IntKind.u8 n_67, Value.int IntKind.u8 n_68,
 Value.int IntKind.u8 n_69, Value.int IntKind.u8 n_70, Value.int IntKind.u8 n_71, Value.int IntKind.u8 n_72, Value.int IntKind.u8 n_73, Value.int IntKind.u8 n_74,
 Value.int IntKind.u8 n_75, Value.int IntKind.u8 n_76, Value.int IntKind.u8 n_77, Value.int IntKind.u8 n_78, Value.int IntKind.u8 n_79, Value.int IntKind.u8 n_80,
 Value.int IntKind.u8 n_81, Value.int IntKind.u8 n_82, Value.int IntKind.u8 n_83, Value.int IntKind.u8 n_84, Value.int IntKind.u8 n_85, Value.int IntKind.u8 n_86,
 Value.int IntKind.u8 n_87, Value.int IntKind.u8 n_88, Value.int IntKind.u8 n_89, Value.int IntKind.u8 n_90, Value.int IntKind.u8 n_91, Value.int IntKind.u8 n_92,
 Value.int IntKind.u8 n_93, Value.int IntKind.u8 n_94]) ∧
 ∃ (n_95 : Int),
 ∃ (n_96 : Int),
 ∃ (n_97 : Int),
 ∃ (n_98 : Int),
 ∃ (n_99 : Int),
 ∃ (n_100 : Int),
 ∃ (n_101 : Int),
 ∃ (n_102 : Int),
 ∃ (n_103 : Int),
 ∃ (n_104 : Int),
 ∃ (n_105 : Int),
 ∃ (n_106 : Int),
 ∃ (n_107 : Int),
 ∃ (n_108 : Int),
 ∃ (n_109 : Int),
 ∃ (n_110 : Int),
 ∃ (n_111 : Int),
 ∃ (n_112 : Int),
 ∃ (n_113 : Int),
 ∃ (n_114 : Int),
 ∃ (n_115 : Int),
 ∃ (n_116 : Int),
 ∃ (n_117 : Int),
 ∃ (n_118 : Int),
 ∃ (n_119 : Int),
 ∃ (n_120 : Int),
 ∃ (n_121 : Int),
 ∃ (n_122 : Int),
 ∃ (n_123 : Int),
 ∃ (n_124 : Int),
 ∃ (n_125 : Int),
 ∃ (n_126 : Int),
 (eqI n_63 0 = true →
 plainA (some (Addr.mk h.next 0 none)) = true ∧
 h'_2.cellsAt h.next 0 32 =
 some
 [Value.int IntKind.u8 n_95, Value.int IntKind.u8 n_96, Value.int IntKind.u8 n_97, Value.int IntKind.u8 n_98,
 Value.int IntKind.u8 n_99, Value.int IntKind.u8 n_100, Value.int IntKind.u8 n_101,
 Value.int IntKind.u8 n_102, Value.int IntKind.u8 n_103, Value.int IntKind.u8 n_104,
 Value.int IntKind.u8 n_105, Value.int IntKind.u8 n_106, Value.int IntKind.u8 n_107,
 Value.int IntKind.u8 n_108, Value.int IntKind.u8 n_109, Value.int IntKind.u8 n_110,
 Value.int IntKind.u8 n_111, Value.int IntKind.u8 n_112, Value.int IntKind.u8 n_113,
 Value.int IntKind.u8 n_114, Value.int IntKind.u8 n_115, Value.int IntKind.u8 n_116,
 Value.int IntKind.u8 n_117, Value.int IntKind.u8 n_118, Value.int IntKind.u8 n_119,
 Value.int IntKind.u8 n_120, Value.int IntKind.u8 n_121, Value.int IntKind.u8 n_122,
 Value.int IntKind.u8 n_123, Value.int IntKind.u8 n_124, Value.int IntKind.u8 n_125,
 Value.int IntKind.u8 n_126]) ∧
 K
 (Value.bool
 (sel (eqI n_63 0)
 (andB (eqI n n_95)
 (andB (eqI n_64 n_96)
 (andB (eqI n_65 n_97)
 (andB (eqI n_66 n_98)
 (andB (eqI n_67 n_99)
 (andB (eqI n_68 n_100)
 (andB (eqI n_69 n_101)
 (andB (eqI n_70 n_102)
 (andB (eqI n_71 n_103)
 (andB (eqI n_72 n_104)
 (andB (eqI n_73 n_105)
 (andB (eqI n_74 n_106)
 (andB (eqI n_75 n_107)
 (andB (eqI n_76 n_108)
 (andB (eqI n_77 n_109)
 (andB (eqI n_78 n_110)
 (andB (eqI n_79 n_111)
 (andB (eqI n_80 n_112)
 (andB (eqI n_81 n_113)
 (andB (eqI n_82 n_114)
 (andB (eqI n_83 n_115)
 (andB (eqI n_84 n_116)
 (andB (eqI n_85 n_117)
 (andB (eqI n_86 n_118)
 (andB (eqI n_87 n_119)
 (andB (eqI n_88 n_120)
 (andB (eqI n_89 n_121)
 (andB (eqI n_90 n_122)
 (andB (eqI n_91 n_123)
 (andB (eqI n_92 n_124)
 (andB (eqI n_93 n_125)
 (andB (eqI n_94 n_126)
 true))))))))))))))))))))))))))))))))
 false))
 h'_2) := by kernel_rfl

def shp25 : Nat → List (Tmp × TypeId) := fun i => []
theorem vc25 (C : FuncId → List Value → Hp → (Value → Hp → Prop) → Prop) (p w : Int) (n : Int) (h : Hp) (K : Value → Hp → Prop) : vBody Tryz.prog C pfg shp25 Tryz.f25 (Tryz.f25.body.getD .skip) [.agg (Array.mk [.int .i64 p, .int .i64 w]), .slice none 0 0, .int .u64 n] h K = (
 ∀ (h' : Hp),
 h' = h.alloc [Value.int IntKind.i64 p, Value.int IntKind.i64 w] 23 →
 ∀ (h'_1 : Hp),
 h'_1 = h'.alloc [Value.int IntKind.i64 (Int.ofNat 0), Value.int IntKind.i64 (Int.ofNat 0), Value.int IntKind.u64 (Int.ofNat 0), Value.slice none 0 0, Value.slice none 0 0] 74 →
 ∃ (n_1 : Int),
 ∃ (n_2 : Int),
 (plainA (some (Addr.mk h.next 0 none)) = true ∧ h'_1.cellsAt h.next 0 2 = some [Value.int IntKind.i64 n_1, Value.int IntKind.i64 n_2]) ∧
 plainA (some (Addr.mk h'.next 0 none)) = true ∧
 ∃ (h'_2 : Hp),
 h'_1.store h'.next 0 [Value.int IntKind.i64 n_1, Value.int IntKind.i64 n_2, Value.int IntKind.u64 n, Value.slice none 0 0, Value.slice none 0 0] = some h'_2 ∧
 ∃ (n : Int),
 ∃ (n_3 : Int),
 ∃ (n_4 : Int),
 ∃ (a : Option Addr),
 ∃ (l : Nat),
 ∃ (c : Nat),
 ∃ (a_1 : Option Addr),
 ∃ (l_1 : Nat),
 ∃ (c_1 : Nat),
 (plainA (some (Addr.mk h'.next 0 none)) = true ∧ h'_2.cellsAt h'.next 0 5 = some [Value.int IntKind.i64 n, Value.int IntKind.i64 n_3, Value.int IntKind.u64 n_4, Value.slice a l c, Value.slice a_1 l_1 c_1]) ∧ K (Value.agg (Array.mk [Value.int IntKind.i64 n, Value.int IntKind.i64 n_3, Value.int IntKind.u64 n_4, Value.slice a l c, Value.slice a_1 l_1 c_1])) h'_2) := by kernel_rfl

def shp26 : Nat → List (Tmp × TypeId) := fun i => []
theorem vc26 (C : FuncId → List Value → Hp → (Value → Hp → Prop) → Prop) (p w : Int) (n : Int) (h : Hp) (K : Value → Hp → Prop) : vBody Tryz.prog C pfg shp26 Tryz.f26 (Tryz.f26.body.getD .skip) [.agg (Array.mk [.int .i64 p, .int .i64 w, .int .u64 n, .slice none 0 0, .slice none 0 0])] h K = (
 ∀ (h' : Hp),
 h' = h.alloc [Value.int IntKind.i64 p, Value.int IntKind.i64 w, Value.int IntKind.u64 n, Value.slice none 0 0, Value.slice none 0 0] 74 →
 ∀ (h'_1 : Hp),
 h'_1 =
 h'.alloc
 [Value.int IntKind.u32 (Int.ofNat 0), Value.int IntKind.u8 (Int.ofNat 0), Value.int IntKind.u8 (Int.ofNat 0), Value.int IntKind.u8 (Int.ofNat 0), Value.int IntKind.u8 (Int.ofNat 0), Value.int IntKind.u8 (Int.ofNat 0), Value.int IntKind.u8 (Int.ofNat 0), Value.int IntKind.u8 (Int.ofNat 0), Value.int IntKind.u8 (Int.ofNat 0), Value.int IntKind.u8 (Int.ofNat 0),
 Value.int IntKind.u8 (Int.ofNat 0), Value.int IntKind.u8 (Int.ofNat 0), Value.int IntKind.u8 (Int.ofNat 0), Value.int IntKind.u8 (Int.ofNat 0), Value.int IntKind.u8 (Int.ofNat 0), Value.int IntKind.u8 (Int.ofNat 0), Value.int IntKind.u8 (Int.ofNat 0), Value.int IntKind.u8 (Int.ofNat 0), Value.int IntKind.u8 (Int.ofNat 0), Value.int IntKind.u8 (Int.ofNat 0),
 Value.int IntKind.u8 (Int.ofNat 0), Value.int IntKind.u8 (Int.ofNat 0), Value.int IntKind.u8 (Int.ofNat 0), Value.int IntKind.u8 (Int.ofNat 0), Value.int IntKind.u8 (Int.ofNat 0), Value.int IntKind.u8 (Int.ofNat 0), Value.int IntKind.u8 (Int.ofNat 0), Value.int IntKind.u8 (Int.ofNat 0), Value.int IntKind.u8 (Int.ofNat 0), Value.int IntKind.u8 (Int.ofNat 0),
 Value.int IntKind.u8 (Int.ofNat 0), Value.int IntKind.u8 (Int.ofNat 0), Value.int IntKind.u8 (Int.ofNat 0), Value.int IntKind.u64 (Int.ofNat 0), Value.int IntKind.u64 (Int.ofNat 0)]
 44 →
 plainA (some (Addr.mk h.next 0 none)) = true ∧
 ∃ (a : Option Addr),
 ∃ (l : Nat),
 ∃ (c : Nat),
 (plainA (some (Addr.mk h.next 4 none)) = true ∧ h'_1.cellsAt h.next 4 1 = some [Value.slice a l c]) ∧
 if eqI (natI l) 0 = true then
 plainA (some (Addr.mk h.next 0 none)) = true ∧
 ∃ (n : Int),
 ∃ (n_1 : Int),
 (plainA (some (Addr.mk h.next 0 none)) = true ∧ h'_1.cellsAt h.next 0 2 = some [Value.int IntKind.i64 n, Value.int IntKind.i64 n_1]) ∧
 C 62 [Value.agg (Array.mk [Value.int IntKind.i64 n, Value.int IntKind.i64 n_1])] h'_1 fun (v : Value) (h'_2 : Hp) =>
 ∃ (n : Int),
 ∃ (n_2 : Int),
 ∃ (n_3 : Int),
 ∃ (n_4 : Int),
 ∃ (n_5 : Int),
 ∃ (n_6 : Int),
 ∃ (n_7 : Int),
 ∃ (n_8 : Int),
 ∃ (n_9 : Int),
 ∃ (n_10 : Int),
 ∃ (n_11 : Int),
 ∃ (n_12 : Int),
 ∃ (n_13 : Int),
 ∃ (n_14 : Int),
 ∃ (n_15 : Int),
 ∃ (n_16 : Int),
 ∃ (n_17 : Int),
 ∃ (n_18 : Int),
 ∃ (n_19 : Int),
 ∃ (n_20 : Int),
 ∃ (n_21 : Int),
 ∃ (n_22 : Int),
 ∃ (n_23 : Int),
 ∃ (n_24 : Int),
 ∃ (n_25 : Int),
 ∃ (n_26 : Int),
 ∃ (n_27 : Int),
 ∃ (n_28 : Int),
 ∃ (n_29 : Int),
 ∃ (n_30 : Int),
 ∃ (n_31 : Int),
 ∃ (n_32 : Int),
 ∃ (n_33 : Int),
 v =
 Value.tuple
 (Array.mk
 [Value.agg
 (Array.mk
 [Value.int IntKind.u8 n, Value.int IntKind.u8 n_2, Value.int IntKind.u8 n_3, Value.int IntKind.u8 n_4, Value.int IntKind.u8 n_5, Value.int IntKind.u8 n_6, Value.int IntKind.u8 n_7, Value.int IntKind.u8 n_8, Value.int IntKind.u8 n_9, Value.int IntKind.u8 n_10, Value.int IntKind.u8 n_11,
 Value.int IntKind.u8 n_12, Value.int IntKind.u8 n_13, Value.int IntKind.u8 n_14, Value.int IntKind.u8 n_15, Value.int IntKind.u8 n_16, Value.int IntKind.u8 n_17, Value.int IntKind.u8 n_18, Value.int IntKind.u8 n_19, Value.int IntKind.u8 n_20, Value.int IntKind.u8 n_21,
 Value.int IntKind.u8 n_22, Value.int IntKind.u8 n_23, Value.int IntKind.u8 n_24, Value.int IntKind.u8 n_25, Value.int IntKind.u8 n_26, Value.int IntKind.u8 n_27, Value.int IntKind.u8 n_28, Value.int IntKind.u8 n_29, Value.int IntKind.u8 n_30, Value.int IntKind.u8 n_31,
 Value.int IntKind.u8 n_32]),
 Value.int IntKind.i64 n_33]) ∧
 ∀ (h'_3 : Hp),
 h'_3 =
 h'_2.alloc
 [Value.int IntKind.u8 (Int.ofNat 0), Value.int IntKind.u8 (Int.ofNat 0), Value.int IntKind.u8 (Int.ofNat 0), Value.int IntKind.u8 (Int.ofNat 0), Value.int IntKind.u8 (Int.ofNat 0), Value.int IntKind.u8 (Int.ofNat 0), Value.int IntKind.u8 (Int.ofNat 0), Value.int IntKind.u8 (Int.ofNat 0),
 Value.int IntKind.u8 (Int.ofNat 0), Value.int IntKind.u8 (Int.ofNat 0), Value.int IntKind.u8 (Int.ofNat 0), Value.int IntKind.u8 (Int.ofNat 0), Value.int IntKind.u8 (Int.ofNat 0), Value.int IntKind.u8 (Int.ofNat 0), Value.int IntKind.u8 (Int.ofNat 0), Value.int IntKind.u8 (Int.ofNat 0),
 Value.int IntKind.u8 (Int.ofNat 0), Value.int IntKind.u8 (Int.ofNat 0), Value.int IntKind.u8 (Int.ofNat 0), Value.int IntKind.u8 (Int.ofNat 0), Value.int IntKind.u8 (Int.ofNat 0), Value.int IntKind.u8 (Int.ofNat 0), Value.int IntKind.u8 (Int.ofNat 0), Value.int IntKind.u8 (Int.ofNat 0),
 Value.int IntKind.u8 (Int.ofNat 0), Value.int IntKind.u8 (Int.ofNat 0), Value.int IntKind.u8 (Int.ofNat 0), Value.int IntKind.u8 (Int.ofNat 0), Value.int IntKind.u8 (Int.ofNat 0), Value.int IntKind.u8 (Int.ofNat 0), Value.int IntKind.u8 (Int.ofNat 0), Value.int IntKind.u8 (Int.ofNat 0)]
 41 →
 plainA (some (Addr.mk h'_2.next 0 none)) = true ∧
 ∃ (h'_4 : Hp),
 h'_3.store h'_2.next 0
 [Value.int IntKind.u8 n, Value.int IntKind.u8 n_2, Value.int IntKind.u8 n_3, Value.int IntKind.u8 n_4, Value.int IntKind.u8 n_5, Value.int IntKind.u8 n_6, Value.int IntKind.u8 n_7, Value.int IntKind.u8 n_8, Value.int IntKind.u8 n_9, Value.int IntKind.u8 n_10, Value.int IntKind.u8 n_11,
 Value.int IntKind.u8 n_12, Value.int IntKind.u8 n_13, Value.int IntKind.u8 n_14, Value.int IntKind.u8 n_15, Value.int IntKind.u8 n_16, Value.int IntKind.u8 n_17, Value.int IntKind.u8 n_18, Value.int IntKind.u8 n_19, Value.int IntKind.u8 n_20, Value.int IntKind.u8 n_21,
 Value.int IntKind.u8 n_22, Value.int IntKind.u8 n_23, Value.int IntKind.u8 n_24, Value.int IntKind.u8 n_25, Value.int IntKind.u8 n_26, Value.int IntKind.u8 n_27, Value.int IntKind.u8 n_28, Value.int IntKind.u8 n_29, Value.int IntKind.u8 n_30, Value.int IntKind.u8 n_31,
 Value.int IntKind.u8 n_32] =
 some h'_4 ∧
 ∃ (n : Int),
 ∃ (n_34 : Int),
 ∃ (n_35 : Int),
 ∃ (n_36 : Int),
 ∃ (n_37 : Int),
 ∃ (n_38 : Int),
 ∃ (n_39 : Int),
 ∃ (n_40 : Int),
 ∃ (n_41 : Int),
 ∃ (n_42 : Int),
 ∃ (n_43 : Int),
 ∃ (n_44 : Int),
 ∃ (n_45 : Int),
 ∃ (n_46 : Int),
 ∃ (n_47 : Int),
 ∃ (n_48 : Int),
 ∃ (n_49 : Int),
 ∃ (n_50 : Int),
 ∃ (n_51 : Int),
 ∃ (n_52 : Int),
 ∃ (n_53 : Int),
 ∃ (n_54 : Int),
 ∃ (n_55 : Int),
 ∃ (n_56 : Int),
 ∃ (n_57 : Int),
 ∃ (n_58 : Int),
 ∃ (n_59 : Int),
 ∃ (n_60 : Int),
 ∃ (n_61 : Int),
 ∃ (n_62 : Int),
 ∃ (n_63 : Int),
 ∃ (n_64 : Int),
 (plainA (some (Addr.mk h'_2.next 0 none)) = true ∧
 h'_4.cellsAt h'_2.next 0 32 =
 some
 [Value.int IntKind.u8 n, Value.int IntKind.u8 n_34, Value.int IntKind.u8 n_35, Value.int IntKind.u8 n_36, Value.int IntKind.u8 n_37, Value.int IntKind.u8 n_38, Value.int IntKind.u8 n_39, Value.int IntKind.u8 n_40,
 Value.int IntKind.u8 n_41, Value.int IntKind.u8 n_42, Value.int IntKind.u8 n_43, Value.int IntKind.u8 n_44, Value.int IntKind.u8 n_45, Value.int IntKind.u8 n_46, Value.int IntKind.u8 n_47, Value.int IntKind.u8 n_48,
 Value.int IntKind.u8 n_49, Value.int IntKind.u8 n_50, Value.int IntKind.u8 n_51, Value.int IntKind.u8 n_52, Value.int IntKind.u8 n_53, Value.int IntKind.u8 n_54, Value.int IntKind.u8 n_55, Value.int IntKind.u8 n_56,
 Value.int IntKind.u8 n_57, Value.int IntKind.u8 n_58, Value.int IntKind.u8 n_59, Value.int IntKind.u8 n_60, Value.int IntKind.u8 n_61, Value.int IntKind.u8 n_62, Value.int IntKind.u8 n_63, Value.int IntKind.u8 n_64]) ∧
 plainA (some (Addr.mk h'.next 0 none)) = true ∧
 ∃ (h'_5 : Hp),
 h'_4.store h'.next 0
 [Value.int IntKind.u32 (Int.ofNat 0), Value.int IntKind.u8 n, Value.int IntKind.u8 n_34, Value.int IntKind.u8 n_35, Value.int IntKind.u8 n_36, Value.int IntKind.u8 n_37, Value.int IntKind.u8 n_38,
 Value.int IntKind.u8 n_39, Value.int IntKind.u8 n_40, Value.int IntKind.u8 n_41, Value.int IntKind.u8 n_42, Value.int IntKind.u8 n_43, Value.int IntKind.u8 n_44, Value.int IntKind.u8 n_45,
 Value.int IntKind.u8 n_46, Value.int IntKind.u8 n_47, Value.int IntKind.u8 n_48, Value.int IntKind.u8 n_49, Value.int IntKind.u8 n_50, Value.int IntKind.u8 n_51, Value.int IntKind.u8 n_52,
 Value.int IntKind.u8 n_53, Value.int IntKind.u8 n_54, Value.int IntKind.u8 n_55, Value.int IntKind.u8 n_56, Value.int IntKind.u8 n_57, Value.int IntKind.u8 n_58, Value.int IntKind.u8 n_59,
 Value.int IntKind.u8 n_60, Value.int IntKind.u8 n_61, Value.int IntKind.u8 n_62, Value.int IntKind.u8 n_63, Value.int IntKind.u8 n_64, Value.int IntKind.u64 (Int.ofNat 0), Value.int IntKind.u64 (Int.ofNat 0)] =
 some h'_5 ∧
 ∃ (n : Int),
 ∃ (n_65 : Int),
 ∃ (n_66 : Int),
 ∃ (n_67 : Int),
 ∃ (n_68 : Int),
 ∃ (n_69 : Int),
 ∃ (n_70 : Int),
 ∃ (n_71 : Int),
 ∃ (n_72 : Int),
 ∃ (n_73 : Int),
 ∃ (n_74 : Int),
 ∃ (n_75 : Int),
 ∃ (n_76 : Int),
 ∃ (n_77 : Int),
 ∃ (n_78 : Int),
 ∃ (n_79 : Int),
 ∃ (n_80 : Int),
 ∃ (n_81 : Int),
 ∃ (n_82 : Int),
 ∃ (n_83 : Int),
 ∃ (n_84 : Int),
 ∃ (n_85 : Int),
 ∃ (n_86 : Int),
 ∃ (n_87 : Int),
 ∃ (n_88 : Int),
 ∃ (n_89 : Int),
 ∃ (n_90 : Int),
 ∃ (n_91 : Int),
 ∃ (n_92 : Int),
 ∃ (n_93 : Int),
 ∃ (n_94 : Int),
 ∃ (n_95 : Int),
 ∃ (n_96 : Int),
 ∃ (n_97 : Int),
 ∃ (n_98 : Int),
 (plainA (some (Addr.mk h'.next 0 none)) = true ∧
 h'_5.cellsAt h'.next 0 35 =
 some
 [Value.int IntKind.u32 n, Value.int IntKind.u8 n_65, Value.int IntKind.u8 n_66, Value.int IntKind.u8 n_67, Value.int IntKind.u8 n_68,
 Value.int IntKind.u8 n_69, Value.int IntKind.u8 n_70, Value.int IntKind.u8 n_71, Value.int IntKind.u8 n_72, Value.int IntKind.u8 n_73,
 Value.int IntKind.u8 n_74, Value.int IntKind.u8 n_75, Value.int IntKind.u8 n_76, Value.int IntKind.u8 n_77, Value.int IntKind.u8 n_78,
 Value.int IntKind.u8 n_79, Value.int IntKind.u8 n_80, Value.int IntKind.u8 n_81, Value.int IntKind.u8 n_82, Value.int IntKind.u8 n_83,
 Value.int IntKind.u8 n_84, Value.int IntKind.u8 n_85, Value.int IntKind.u8 n_86, Value.int IntKind.u8 n_87, Value.int IntKind.u8 n_88,
 Value.int IntKind.u8 n_89, Value.int IntKind.u8 n_90, Value.int IntKind.u8 n_91, Value.int IntKind.u8 n_92, Value.int IntKind.u8 n_93,
 Value.int IntKind.u8 n_94, Value.int IntKind.u8 n_95, Value.int IntKind.u8 n_96, Value.int IntKind.u64 n_97, Value.int IntKind.u64 n_98]) ∧
 K
 (Value.agg
 (Array.mk
 [Value.int IntKind.u32 n, Value.int IntKind.u8 n_65, Value.int IntKind.u8 n_66, Value.int IntKind.u8 n_67, Value.int IntKind.u8 n_68,
 Value.int IntKind.u8 n_69, Value.int IntKind.u8 n_70, Value.int IntKind.u8 n_71, Value.int IntKind.u8 n_72, Value.int IntKind.u8 n_73,
 Value.int IntKind.u8 n_74, Value.int IntKind.u8 n_75, Value.int IntKind.u8 n_76, Value.int IntKind.u8 n_77, Value.int IntKind.u8 n_78,
 Value.int IntKind.u8 n_79, Value.int IntKind.u8 n_80, Value.int IntKind.u8 n_81, Value.int IntKind.u8 n_82, Value.int IntKind.u8 n_83,
 Value.int IntKind.u8 n_84, Value.int IntKind.u8 n_85, Value.int IntKind.u8 n_86, Value.int IntKind.u8 n_87, Value.int IntKind.u8 n_88,
 Value.int IntKind.u8 n_89, Value.int IntKind.u8 n_90, Value.int IntKind.u8 n_91, Value.int IntKind.u8 n_92, Value.int IntKind.u8 n_93,
 Value.int IntKind.u8 n_94, Value.int IntKind.u8 n_95, Value.int IntKind.u8 n_96, Value.int IntKind.u64 n_97, Value.int IntKind.u64 n_98]))
 h'_5
 else
 ∀ (h'_2 : Hp),
 h'_2 =
 h'_1.alloc
 [Value.int IntKind.u32 (Int.ofNat 0), Value.int IntKind.u8 (Int.ofNat 0), Value.int IntKind.u8 (Int.ofNat 0), Value.int IntKind.u8 (Int.ofNat 0), Value.int IntKind.u8 (Int.ofNat 0), Value.int IntKind.u8 (Int.ofNat 0), Value.int IntKind.u8 (Int.ofNat 0), Value.int IntKind.u8 (Int.ofNat 0), Value.int IntKind.u8 (Int.ofNat 0), Value.int IntKind.u8 (Int.ofNat 0),
 Value.int IntKind.u8 (Int.ofNat 0), Value.int IntKind.u8 (Int.ofNat 0), Value.int IntKind.u8 (Int.ofNat 0), Value.int IntKind.u8 (Int.ofNat 0), Value.int IntKind.u8 (Int.ofNat 0), Value.int IntKind.u8 (Int.ofNat 0), Value.int IntKind.u8 (Int.ofNat 0), Value.int IntKind.u8 (Int.ofNat 0), Value.int IntKind.u8 (Int.ofNat 0), Value.int IntKind.u8 (Int.ofNat 0),
 Value.int IntKind.u8 (Int.ofNat 0), Value.int IntKind.u8 (Int.ofNat 0), Value.int IntKind.u8 (Int.ofNat 0), Value.int IntKind.u8 (Int.ofNat 0), Value.int IntKind.u8 (Int.ofNat 0), Value.int IntKind.u8 (Int.ofNat 0), Value.int IntKind.u8 (Int.ofNat 0), Value.int IntKind.u8 (Int.ofNat 0), Value.int IntKind.u8 (Int.ofNat 0), Value.int IntKind.u8 (Int.ofNat 0),
 Value.int IntKind.u8 (Int.ofNat 0), Value.int IntKind.u8 (Int.ofNat 0), Value.int IntKind.u8 (Int.ofNat 0), Value.int IntKind.u64 (Int.ofNat 0), Value.int IntKind.u64 (Int.ofNat 0)]
 44 →
 plainA (some (Addr.mk h.next 0 none)) = true ∧
 ∃ (a : Option Addr),
 ∃ (l : Nat),
 ∃ (c : Nat),
 (plainA (some (Addr.mk h.next 4 none)) = true ∧ h'_2.cellsAt h.next 4 1 = some [Value.slice a l c]) ∧
 (a.isSome = true ∧ inR 0 l) ∧
 plainA (some (Addr.mk (blk a) (plusI (off a) 0 4) none)) = true ∧
 ∃ (n : Int),
 (plainA (some (Addr.mk (blk a) (plusI (off a) 0 4) none)) = true ∧ h'_2.cellsAt (blk a) (plusI (off a) 0 4) 1 = some [Value.int IntKind.u32 n]) ∧
 plainA (some (Addr.mk h.next 0 none)) = true ∧
 ∃ (n_1 : Int),
 ∃ (n_2 : Int),
 (plainA (some (Addr.mk h.next 0 none)) = true ∧ h'_2.cellsAt h.next 0 2 = some [Value.int IntKind.i64 n_1, Value.int IntKind.i64 n_2]) ∧
 plainA (some (Addr.mk h.next 0 none)) = true ∧
 ∃ (a_1 : Option Addr),
 ∃ (l_1 : Nat),
 ∃ (c_1 : Nat),
 (plainA (some (Addr.mk h.next 4 none)) = true ∧ h'_2.cellsAt h.next 4 1 = some [Value.slice a_1 l_1 c_1]) ∧
 (a_1.isSome = true ∧ inR 0 l_1) ∧
 ∃ (n_3 : Int),
 ∃ (a_2 : Option Addr),
 ∃ (l_2 : Nat),
 ∃ (c_2 : Nat),
 ∃ (a_3 : Option Addr),
 ∃ (l_3 : Nat),
 ∃ (c_3 : Nat),
 ∃ (a_4 : Option Addr),
 ∃ (l_4 : Nat),
 ∃ (c_4 : Nat),
 (plainA (some (Addr.mk (blk a_1) (plusI (off a_1) 0 4) none)) = true ∧ h'_2.cellsAt (blk a_1) (plusI (off a_1) 0 4) 4 = some [Value.int IntKind.u32 n_3, Value.slice a_2 l_2 c_2, Value.slice a_3 l_3 c_3, Value.slice a_4 l_4 c_4]) ∧
 plainA (some (Addr.mk h.next 0 none)) = true ∧
 ∃ (a_5 : Option Addr),
 ∃ (l_5 : Nat),
 ∃ (c_5 : Nat),
 (plainA (some (Addr.mk h.next 4 none)) = true ∧ h'_2.cellsAt h.next 4 1 = some [Value.slice a_5 l_5 c_5]) ∧
 (a_5.isSome = true ∧ inR 0 l_5) ∧
 ∃ (n_4 : Int),
 ∃ (a_6 : Option Addr),
 ∃ (l_6 : Nat),
 ∃ (c_6 : Nat),
 ∃ (a_7 : Option Addr),
 ∃ (l_7 : Nat),
 ∃ (c_7 : Nat),
 ∃ (a_8 : Option Addr),
 ∃ (l_8 : Nat),
 ∃ (c_8 : Nat),
 (plainA (some (Addr.mk (blk a_5) (plusI (off a_5) 0 4) none)) = true ∧ h'_2.cellsAt (blk a_5) (plusI (off a_5) 0 4) 4 = some [Value.int IntKind.u32 n_4, Value.slice a_6 l_6 c_6, Value.slice a_7 l_7 c_7, Value.slice a_8 l_8 c_8]) ∧
 C 63 [Value.agg (Array.mk [Value.int IntKind.i64 n_1, Value.int IntKind.i64 n_2]), Value.agg (Array.mk [Value.int IntKind.u32 n_3, Value.slice a_2 l_2 c_2, Value.slice a_3 l_3 c_3, Value.slice a_4 l_4 c_4])] h'_2 fun (v : Value) (h'_3 : Hp) =>
 ∃ (n_5 : Int),
 ∃ (n_6 : Int),
 ∃ (n_7 : Int),
 ∃ (n_8 : Int),
 ∃ (n_9 : Int),
 ∃ (n_10 : Int),
 ∃ (n_11 : Int),
 ∃ (n_12 : Int),
 ∃ (n_13 : Int),
 ∃ (n_14 : Int),
 ∃ (n_15 : Int),
 ∃ (n_16 : Int),
 ∃ (n_17 : Int),
 ∃ (n_18 : Int),
 ∃ (n_19 : Int),
 ∃ (n_20 : Int),
 ∃ (n_21 : Int),
 ∃ (n_22 : Int),
 ∃ (n_23 : Int),
 ∃ (n_24 : Int),
 ∃ (n_25 : Int),
 ∃ (n_26 : Int),
 ∃ (n_27 : Int),
 ∃ (n_28 : Int),
 ∃ (n_29 : Int),
 ∃ (n_30 : Int),
 ∃ (n_31 : Int),
 ∃ (n_32 : Int),
 ∃ (n_33 : Int),
 ∃ (n_34 : Int),
 ∃ (n_35 : Int),
 ∃ (n_36 : Int),
 v =
 Value.agg
 (Array.mk
 [Value.int IntKind.u8 n_5, Value.int IntKind.u8 n_6, Value.int IntKind.u8 n_7, Value.int IntKind.u8 n_8, Value.int IntKind.u8 n_9, Value.int IntKind.u8 n_10, Value.int IntKind.u8 n_11,
 Value.int IntKind.u8 n_12, Value.int IntKind.u8 n_13, Value.int IntKind.u8 n_14, Value.int IntKind.u8 n_15, Value.int IntKind.u8 n_16, Value.int IntKind.u8 n_17, Value.int IntKind.u8 n_18,
 Value.int IntKind.u8 n_19, Value.int IntKind.u8 n_20, Value.int IntKind.u8 n_21, Value.int IntKind.u8 n_22, Value.int IntKind.u8 n_23, Value.int IntKind.u8 n_24, Value.int IntKind.u8 n_25,
 Value.int IntKind.u8 n_26, Value.int IntKind.u8 n_27, Value.int IntKind.u8 n_28, Value.int IntKind.u8 n_29, Value.int IntKind.u8 n_30, Value.int IntKind.u8 n_31, Value.int IntKind.u8 n_32,
 Value.int IntKind.u8 n_33, Value.int IntKind.u8 n_34, Value.int IntKind.u8 n_35, Value.int IntKind.u8 n_36]) ∧
 (plainA (some (Addr.mk (blk a_5) (plusI (off a_5) 0 4) none)) = true ∧
 h'_3.cellsAt (blk a_5) (plusI (off a_5) 0 4) 4 = some [Value.int IntKind.u32 n_4, Value.slice a_6 l_6 c_6, Value.slice a_7 l_7 c_7, Value.slice a_8 l_8 c_8]) ∧
 (plainA (some (Addr.mk h.next 4 none)) = true ∧ h'_3.cellsAt h.next 4 1 = some [Value.slice a_5 l_5 c_5]) ∧
 (plainA (some (Addr.mk (blk a) (plusI (off a) 0 4) none)) = true ∧ h'_3.cellsAt (blk a) (plusI (off a) 0 4) 1 = some [Value.int IntKind.u32 n]) ∧
 (plainA (some (Addr.mk h.next 4 none)) = true ∧ h'_3.cellsAt h.next 4 1 = some [Value.slice a l c]) ∧
 C 64 [Value.agg (Array.mk [Value.int IntKind.u32 n_4, Value.slice a_6 l_6 c_6, Value.slice a_7 l_7 c_7, Value.slice a_8 l_8 c_8])] h'_3 fun (v : Value) (h'_4 : Hp) =>
 ∃ (a_9 : Option Addr),
 ∃ (l_9 : Nat),
 ∃ (c_9 : Nat),
 v = Value.slice a_9 l_9 c_9 ∧
 (plainA (some (Addr.mk (blk a) (plusI (off a) 0 4) none)) = true ∧ h'_4.cellsAt (blk a) (plusI (off a) 0 4) 1 = some [Value.int IntKind.u32 n]) ∧
 (plainA (some (Addr.mk h.next 4 none)) = true ∧ h'_4.cellsAt h.next 4 1 = some [Value.slice a l c]) ∧
 plainA (some (Addr.mk h'_1.next 0 none)) = true ∧
 ∃ (h'_5 : Hp),
 h'_4.store h'_1.next 0
 [Value.int IntKind.u32 n, Value.int IntKind.u8 n_5, Value.int IntKind.u8 n_6, Value.int IntKind.u8 n_7, Value.int IntKind.u8 n_8, Value.int IntKind.u8 n_9, Value.int IntKind.u8 n_10,
 Value.int IntKind.u8 n_11, Value.int IntKind.u8 n_12, Value.int IntKind.u8 n_13, Value.int IntKind.u8 n_14, Value.int IntKind.u8 n_15, Value.int IntKind.u8 n_16,
 Value.int IntKind.u8 n_17, Value.int IntKind.u8 n_18, Value.int IntKind.u8 n_19, Value.int IntKind.u8 n_20, Value.int IntKind.u8 n_21, Value.int IntKind.u8 n_22,
 Value.int IntKind.u8 n_23, Value.int IntKind.u8 n_24, Value.int IntKind.u8 n_25, Value.int IntKind.u8 n_26, Value.int IntKind.u8 n_27, Value.int IntKind.u8 n_28,
 Value.int IntKind.u8 n_29, Value.int IntKind.u8 n_30, Value.int IntKind.u8 n_31, Value.int IntKind.u8 n_32, Value.int IntKind.u8 n_33, Value.int IntKind.u8 n_34,
 Value.int IntKind.u8 n_35, Value.int IntKind.u8 n_36, Value.int IntKind.u64 (toW IntKind.u64 (natI l_9)), Value.int IntKind.u64 (Int.ofNat 0)] =
 some h'_5 ∧
 plainA (some (Addr.mk h'_1.next 0 none)) = true ∧
 ∃ (n : Int),
 (plainA (some (Addr.mk h'_1.next 0 none)) = true ∧ h'_5.cellsAt h'_1.next 0 1 = some [Value.int IntKind.u32 n]) ∧
 if neI n 0 = true then
 plainA (some (Addr.mk h.next 0 none)) = true ∧
 ∃ (n : Int),
 (plainA (some (Addr.mk h.next 2 none)) = true ∧ h'_5.cellsAt h.next 2 1 = some [Value.int IntKind.u64 n]) ∧
 plainA (some (Addr.mk h'_1.next 0 none)) = true ∧
 plainA (some (Addr.mk h'_1.next 34 none)) = true ∧
 ∃ (h'_6 : Hp),
 h'_5.store h'_1.next 34 [Value.int IntKind.u64 n] = some h'_6 ∧
 ∃ (n : Int),
 ∃ (n_37 : Int),
 ∃ (n_38 : Int),
 ∃ (n_39 : Int),
 ∃ (n_40 : Int),
 ∃ (n_41 : Int),
 ∃ (n_42 : Int),
 ∃ (n_43 : Int),
 ∃ (n_44 : Int),
 ∃ (n_45 : Int),
 ∃ (n_46 : Int),
 ∃ (n_47 : Int),
 ∃ (n_48 : Int),
 ∃ (n_49 : Int),
 ∃ (n_50 : Int),
 ∃ (n_51 : Int),
 ∃ (n_52 : Int),
 ∃ (n_53 : Int),
 ∃ (n_54 : Int),
 ∃ (n_55 : Int),
 ∃ (n_56 : Int),
 ∃ (n_57 : Int),
 ∃ (n_58 : Int),
 ∃ (n_59 : Int),
 ∃ (n_60 : Int),
 ∃ (n_61 : Int),
 ∃ (n_62 : Int),
 ∃ (n_63 : Int),
 ∃ (n_64 : Int),
 ∃ (n_65 : Int),
 ∃ (n_66 : Int),
 ∃ (n_67 : Int),
 ∃ (n_68 : Int),
 ∃ (n_69 : Int),
 ∃ (n_70 : Int),
 (plainA (some (Addr.mk h'_1.next 0 none)) = true ∧
 h'_6.cellsAt h'_1.next 0 35 =
 some
 [Value.int IntKind.u32 n, Value.int IntKind.u8 n_37, Value.int IntKind.u8 n_38,
 Value.int IntKind.u8 n_39, Value.int IntKind.u8 n_40, Value.int IntKind.u8 n_41,
 Value.int IntKind.u8 n_42, Value.int IntKind.u8 n_43, Value.int IntKind.u8 n_44,
 Value.int IntKind.u8 n_45, Value.int IntKind.u8 n_46, Value.int IntKind.u8 n_47,
 Value.int IntKind.u8 n_48, Value.int IntKind.u8 n_49, Value.int IntKind.u8 n_50,
 Value.int IntKind.u8 n_51, Value.int IntKind.u8 n_52, Value.int IntKind.u8 n_53,
 Value.int IntKind.u8 n_54, Value.int IntKind.u8 n_55, Value.int IntKind.u8 n_56,
 Value.int IntKind.u8 n_57, Value.int IntKind.u8 n_58, Value.int IntKind.u8 n_59,
 Value.int IntKind.u8 n_60, Value.int IntKind.u8 n_61, Value.int IntKind.u8 n_62,
 Value.int IntKind.u8 n_63, Value.int IntKind.u8 n_64, Value.int IntKind.u8 n_65,
 Value.int IntKind.u8 n_66, Value.int IntKind.u8 n_67, Value.int IntKind.u8 n_68,
 Value.int IntKind.u64 n_69, Value.int IntKind.u64 n_70]) ∧
 plainA (some (Addr.mk h'.next 0 none)) = true ∧
 ∃ (h'_7 : Hp),
 h'_6.store h'.next 0
 [Value.int IntKind.u32 n, Value.int IntKind.u8 n_37, Value.int IntKind.u8 n_38,
 Value.int IntKind.u8 n_39, Value.int IntKind.u8 n_40, Value.int IntKind.u8 n_41,
 Value.int IntKind.u8 n_42, Value.int IntKind.u8 n_43, Value.int IntKind.u8 n_44,
 Value.int IntKind.u8 n_45, Value.int IntKind.u8 n_46, Value.int IntKind.u8 n_47,
 Value.int IntKind.u8 n_48, Value.int IntKind.u8 n_49, Value.int IntKind.u8 n_50,
 Value.int IntKind.u8 n_51, Value.int IntKind.u8 n_52, Value.int IntKind.u8 n_53,
 Value.int IntKind.u8 n_54, Value.int IntKind.u8 n_55, Value.int IntKind.u8 n_56,
 Value.int IntKind.u8 n_57, Value.int IntKind.u8 n_58, Value.int IntKind.u8 n_59,
 Value.int IntKind.u8 n_60, Value.int IntKind.u8 n_61, Value.int IntKind.u8 n_62,
 Value.int IntKind.u8 n_63, Value.int IntKind.u8 n_64, Value.int IntKind.u8 n_65,
 Value.int IntKind.u8 n_66, Value.int IntKind.u8 n_67, Value.int IntKind.u8 n_68,
 Value.int IntKind.u64 n_69, Value.int IntKind.u64 n_70] =
 some h'_7 ∧
 ∃ (n : Int),
 ∃ (n_71 : Int),
 ∃ (n_72 : Int),
 ∃ (n_73 : Int),
 ∃ (n_74 : Int),
 ∃ (n_75 : Int),
 ∃ (n_76 : Int),
 ∃ (n_77 : Int),
 ∃ (n_78 : Int),
 ∃ (n_79 : Int),
 ∃ (n_80 : Int),
 ∃ (n_81 : Int),
 ∃ (n_82 : Int),
 ∃ (n_83 : Int),
 ∃ (n_84 : Int),
 ∃ (n_85 : Int),
 ∃ (n_86 : Int),
 ∃ (n_87 : Int),
 ∃ (n_88 : Int),
 ∃ (n_89 : Int),
 ∃ (n_90 : Int),
 ∃ (n_91 : Int),
 ∃ (n_92 : Int),
 ∃ (n_93 : Int),
 ∃ (n_94 : Int),
 ∃ (n_95 : Int),
 ∃ (n_96 : Int),
 ∃ (n_97 : Int),
 ∃ (n_98 : Int),
 ∃ (n_99 : Int),
 ∃ (n_100 : Int),
 ∃ (n_101 : Int),
 ∃ (n_102 : Int),
 ∃ (n_103 : Int),
 ∃ (n_104 : Int),
 (plainA
 (some
 (Addr.mk
 h'.next
 0
 none)) =
 true ∧
 h'_7.cellsAt
 h'.next
 0 35 =
 some
 [Value.int
 IntKind.u32
 n,
 Value.int
 IntKind.u8
 n_71,
 Value.int
 IntKind.u8
 n_72,
 Value.int
 IntKind.u8
 n_73,
 Value.int
 IntKind.u8
 n_74,
 Value.int
 IntKind.u8
 n_75,
 Value.int
 IntKind.u8
 n_76,
 Value.int
 IntKind.u8
 n_77,
 Value.int
 IntKind.u8
 n_78,
 Value.int
 IntKind.u8
 n_79,
 Value.int
 IntKind.u8
 n_80,
 Value.int
 IntKind.u8
 n_81,
 Value.int
 IntKind.u8
 n_82,
 Value.int
 IntKind.u8
 n_83,
 Value.int
 IntKind.u8
 n_84,
 Value.int
 IntKind.u8
 n_85,
 Value.int
 IntKind.u8
 n_86,
 Value.int
 IntKind.u8
 n_87,
 Value.int
 IntKind.u8
 n_88,
 Value.int
 IntKind.u8
 n_89,
 Value.int
 IntKind.u8
 n_90,
 Value.int
 IntKind.u8
 n_91,
 Value.int
 IntKind.u8
 n_92,
 Value.int
 IntKind.u8
 n_93,
 Value.int
 IntKind.u8
 n_94,
 Value.int
 IntKind.u8
 n_95,
 Value.int
 IntKind.u8
 n_96,
 Value.int
 IntKind.u8
 n_97,
 Value.int
 IntKind.u8
 n_98,
 Value.int
 IntKind.u8
 n_99,
 Value.int
 IntKind.u8
 n_100,
 Value.int
 IntKind.u8
 n_101,
 Value.int
 IntKind.u8
 n_102,
 Value.int
 IntKind.u64
 n_103,
 Value.int
 IntKind.u64
 n_104]) ∧
 K
 (Value.agg
 (Array.mk
 [Value.int
 IntKind.u32
 n,
 Value.int
 IntKind.u8
 n_71,
 Value.int
 IntKind.u8
 n_72,
 Value.int
 IntKind.u8
 n_73,
 Value.int
 IntKind.u8
 n_74,
 Value.int
 IntKind.u8
 n_75,
 Value.int
 IntKind.u8
 n_76,
 Value.int
 IntKind.u8
 n_77,
 Value.int
 IntKind.u8
 n_78,
 Value.int
 IntKind.u8
 n_79,
 Value.int
 IntKind.u8
 n_80,
 Value.int
 IntKind.u8
 n_81,
 Value.int
 IntKind.u8
 n_82,
 Value.int
 IntKind.u8
 n_83,
 Value.int
 IntKind.u8
 n_84,
 Value.int
 IntKind.u8
 n_85,
 Value.int
 IntKind.u8
 n_86,
 Value.int
 IntKind.u8
 n_87,
 Value.int
 IntKind.u8
 n_88,
 Value.int
 IntKind.u8
 n_89,
 Value.int
 IntKind.u8
 n_90,
 Value.int
 IntKind.u8
 n_91,
 Value.int
 IntKind.u8
 n_92,
 Value.int
 IntKind.u8
 n_93,
 Value.int
 IntKind.u8
 n_94,
 Value.int
 IntKind.u8
 n_95,
 Value.int
 IntKind.u8
 n_96,
 Value.int
 IntKind.u8
 n_97,
 Value.int
 IntKind.u8
 n_98,
 Value.int
 IntKind.u8
 n_99,
 Value.int
 IntKind.u8
 n_100,
 Value.int
 IntKind.u8
 n_101,
 Value.int
 IntKind.u8
 n_102,
 Value.int
 IntKind.u64
 n_103,
 Value.int
 IntKind.u64
 n_104]))
 h'_7
 else
 ∃ (n : Int),
 ∃ (n_37 : Int),
 ∃ (n_38 : Int),
 ∃ (n_39 : Int),
 ∃ (n_40 : Int),
 ∃ (n_41 : Int),
 ∃ (n_42 : Int),
 ∃ (n_43 : Int),
 ∃ (n_44 : Int),
 ∃ (n_45 : Int),
 ∃ (n_46 : Int),
 ∃ (n_47 : Int),
 ∃ (n_48 : Int),
 ∃ (n_49 : Int),
 ∃ (n_50 : Int),
 ∃ (n_51 : Int),
 ∃ (n_52 : Int),
 ∃ (n_53 : Int),
 ∃ (n_54 : Int),
 ∃ (n_55 : Int),
 ∃ (n_56 : Int),
 ∃ (n_57 : Int),
 ∃ (n_58 : Int),
 ∃ (n_59 : Int),
 ∃ (n_60 : Int),
 ∃ (n_61 : Int),
 ∃ (n_62 : Int),
 ∃ (n_63 : Int),
 ∃ (n_64 : Int),
 ∃ (n_65 : Int),
 ∃ (n_66 : Int),
 ∃ (n_67 : Int),
 ∃ (n_68 : Int),
 ∃ (n_69 : Int),
 ∃ (n_70 : Int),
 (plainA (some (Addr.mk h'_1.next 0 none)) = true ∧
 h'_5.cellsAt h'_1.next 0 35 =
 some
 [Value.int IntKind.u32 n, Value.int IntKind.u8 n_37, Value.int IntKind.u8 n_38,
 Value.int IntKind.u8 n_39, Value.int IntKind.u8 n_40, Value.int IntKind.u8 n_41,
 Value.int IntKind.u8 n_42, Value.int IntKind.u8 n_43, Value.int IntKind.u8 n_44,
 Value.int IntKind.u8 n_45, Value.int IntKind.u8 n_46, Value.int IntKind.u8 n_47,
 Value.int IntKind.u8 n_48, Value.int IntKind.u8 n_49, Value.int IntKind.u8 n_50,
 Value.int IntKind.u8 n_51, Value.int IntKind.u8 n_52, Value.int IntKind.u8 n_53,
 Value.int IntKind.u8 n_54, Value.int IntKind.u8 n_55, Value.int IntKind.u8 n_56,
 Value.int IntKind.u8 n_57, Value.int IntKind.u8 n_58, Value.int IntKind.u8 n_59,
 Value.int IntKind.u8 n_60, Value.int IntKind.u8 n_61, Value.int IntKind.u8 n_62,
 Value.int IntKind.u8 n_63, Value.int IntKind.u8 n_64, Value.int IntKind.u8 n_65,
 Value.int IntKind.u8 n_66, Value.int IntKind.u8 n_67, Value.int IntKind.u8 n_68,
 Value.int IntKind.u64 n_69, Value.int IntKind.u64 n_70]) ∧
 plainA (some (Addr.mk h'.next 0 none)) = true ∧
 ∃ (h'_6 : Hp),
 h'_5.store h'.next 0
 [Value.int IntKind.u32 n, Value.int IntKind.u8 n_37, Value.int IntKind.u8 n_38,
 Value.int IntKind.u8 n_39, Value.int IntKind.u8 n_40, Value.int IntKind.u8 n_41,
 Value.int IntKind.u8 n_42, Value.int IntKind.u8 n_43, Value.int IntKind.u8 n_44,
 Value.int IntKind.u8 n_45, Value.int IntKind.u8 n_46, Value.int IntKind.u8 n_47,
 Value.int IntKind.u8 n_48, Value.int IntKind.u8 n_49, Value.int IntKind.u8 n_50,
 Value.int IntKind.u8 n_51, Value.int IntKind.u8 n_52, Value.int IntKind.u8 n_53,
 Value.int IntKind.u8 n_54, Value.int IntKind.u8 n_55, Value.int IntKind.u8 n_56,
 Value.int IntKind.u8 n_57, Value.int IntKind.u8 n_58, Value.int IntKind.u8 n_59,
 Value.int IntKind.u8 n_60, Value.int IntKind.u8 n_61, Value.int IntKind.u8 n_62,
 Value.int IntKind.u8 n_63, Value.int IntKind.u8 n_64, Value.int IntKind.u8 n_65,
 Value.int IntKind.u8 n_66, Value.int IntKind.u8 n_67, Value.int IntKind.u8 n_68,
 Value.int IntKind.u64 n_69, Value.int IntKind.u64 n_70] =
 some h'_6 ∧
 ∃ (n : Int),
 ∃ (n_71 : Int),
 ∃ (n_72 : Int),
 ∃ (n_73 : Int),
 ∃ (n_74 : Int),
 ∃ (n_75 : Int),
 ∃ (n_76 : Int),
 ∃ (n_77 : Int),
 ∃ (n_78 : Int),
 ∃ (n_79 : Int),
 ∃ (n_80 : Int),
 ∃ (n_81 : Int),
 ∃ (n_82 : Int),
 ∃ (n_83 : Int),
 ∃ (n_84 : Int),
 ∃ (n_85 : Int),
 ∃ (n_86 : Int),
 ∃ (n_87 : Int),
 ∃ (n_88 : Int),
 ∃ (n_89 : Int),
 ∃ (n_90 : Int),
 ∃ (n_91 : Int),
 ∃ (n_92 : Int),
 ∃ (n_93 : Int),
 ∃ (n_94 : Int),
 ∃ (n_95 : Int),
 ∃ (n_96 : Int),
 ∃ (n_97 : Int),
 ∃ (n_98 : Int),
 ∃ (n_99 : Int),
 ∃ (n_100 : Int),
 ∃ (n_101 : Int),
 ∃ (n_102 : Int),
 ∃ (n_103 : Int),
 ∃ (n_104 : Int),
 (plainA
 (some
 (Addr.mk h'.next 0
 none)) =
 true ∧
 h'_6.cellsAt h'.next 0
 35 =
 some
 [Value.int IntKind.u32
 n,
 Value.int IntKind.u8
 n_71,
 Value.int IntKind.u8
 n_72,
 Value.int IntKind.u8
 n_73,
 Value.int IntKind.u8
 n_74,
 Value.int IntKind.u8
 n_75,
 Value.int IntKind.u8
 n_76,
 Value.int IntKind.u8
 n_77,
 Value.int IntKind.u8
 n_78,
 Value.int IntKind.u8
 n_79,
 Value.int IntKind.u8
 n_80,
 Value.int IntKind.u8
 n_81,
 Value.int IntKind.u8
 n_82,
 Value.int IntKind.u8
 n_83,
 Value.int IntKind.u8
 n_84,
 Value.int IntKind.u8
 n_85,
 Value.int IntKind.u8
 n_86,
 Value.int IntKind.u8
 n_87,
 Value.int IntKind.u8
 n_88,
 Value.int IntKind.u8
 n_89,
 Value.int IntKind.u8
 n_90,
 Value.int IntKind.u8
 n_91,
 Value.int IntKind.u8
 n_92,
 Value.int IntKind.u8
 n_93,
 Value.int IntKind.u8
 n_94,
 Value.int IntKind.u8
 n_95,
 Value.int IntKind.u8
 n_96,
 Value.int IntKind.u8
 n_97,
 Value.int IntKind.u8
 n_98,
 Value.int IntKind.u8
 n_99,
 Value.int IntKind.u8
 n_100,
 Value.int IntKind.u8
 n_101,
 Value.int IntKind.u8
 n_102,
 Value.int
 IntKind.u64 n_103,
 Value.int
 IntKind.u64
 n_104]) ∧
 K
 (Value.agg
 (Array.mk
 [Value.int IntKind.u32
 n,
 Value.int IntKind.u8
 n_71,
 Value.int IntKind.u8
 n_72,
 Value.int IntKind.u8
 n_73,
 Value.int IntKind.u8
 n_74,
 Value.int IntKind.u8
 n_75,
 Value.int IntKind.u8
 n_76,
 Value.int IntKind.u8
 n_77,
 Value.int IntKind.u8
 n_78,
 Value.int IntKind.u8
 n_79,
 Value.int IntKind.u8
 n_80,
 Value.int IntKind.u8
 n_81,
 Value.int IntKind.u8
 n_82,
 Value.int IntKind.u8
 n_83,
 Value.int IntKind.u8
 n_84,
 Value.int IntKind.u8
 n_85,
 Value.int IntKind.u8
 n_86,
 Value.int IntKind.u8
 n_87,
 Value.int IntKind.u8
 n_88,
 Value.int IntKind.u8
 n_89,
 Value.int IntKind.u8
 n_90,
 Value.int IntKind.u8
 n_91,
 Value.int IntKind.u8
 n_92,
 Value.int IntKind.u8
 n_93,
 Value.int IntKind.u8
 n_94,
 Value.int IntKind.u8
 n_95,
 Value.int IntKind.u8
 n_96,
 Value.int IntKind.u8
 n_97,
 Value.int IntKind.u8
 n_98,
 Value.int IntKind.u8
 n_99,
 Value.int IntKind.u8
 n_100,
 Value.int IntKind.u8
 n_101,
 Value.int IntKind.u8
 n_102,
 Value.int
 IntKind.u64 n_103,
 Value.int
 IntKind.u64
 n_104]))
 h'_6) := by kernel_rfl

def shp23 : Nat → List (Tmp × TypeId) := fun i => []
theorem vc23 (C : FuncId → List Value → Hp → (Value → Hp → Prop) → Prop) (p w : Int) (q c v : Int) (n0 n1 n2 n3 n4 n5 n6 n7 n8 n9 n10 n11 n12 n13 n14 n15 n16 n17 n18 n19 n20 n21 n22 n23 n24 n25 n26 n27 n28 n29 n30 n31 : Int) (i : Value) (h : Hp) (K : Value → Hp → Prop) : vBody Tryz.prog C pfg shp23 Tryz.f23 (Tryz.f23.body.getD .skip) [.agg (Array.mk [.int .i64 p, .int .i64 w]), .iface 68 i, .agg (Array.mk [.int .u32 q, .int .u8 n0, .int .u8 n1, .int .u8 n2, .int .u8 n3, .int .u8 n4, .int .u8 n5, .int .u8 n6, .int .u8 n7, .int .u8 n8, .int .u8 n9, .int .u8 n10, .int .u8 n11, .int .u8 n12, .int .u8 n13, .int .u8 n14, .int .u8 n15, .int .u8 n16, .int .u8 n17, .int .u8 n18, .int .u8 n19, .int .u8 n20, .int .u8 n21, .int .u8 n22, .int .u8 n23, .int .u8 n24, .int .u8 n25, .int .u8 n26, .int .u8 n27, .int .u8 n28, .int .u8 n29, .int .u8 n30, .int .u8 n31, .int .u64 c, .int .u64 v])] h K = (
 ∀ (h' : Hp),
 h' = h.alloc [Value.int IntKind.i64 p, Value.int IntKind.i64 w] 23 →
 ∀ (h'_1 : Hp),
 h'_1 =
 h'.alloc
 [Value.int IntKind.u32 q, Value.int IntKind.u8 n0, Value.int IntKind.u8 n1, Value.int IntKind.u8 n2, Value.int IntKind.u8 n3, Value.int IntKind.u8 n4, Value.int IntKind.u8 n5, Value.int IntKind.u8 n6, Value.int IntKind.u8 n7, Value.int IntKind.u8 n8, Value.int IntKind.u8 n9, Value.int IntKind.u8 n10, Value.int IntKind.u8 n11, Value.int IntKind.u8 n12, Value.int IntKind.u8 n13,
 Value.int IntKind.u8 n14, Value.int IntKind.u8 n15, Value.int IntKind.u8 n16, Value.int IntKind.u8 n17, Value.int IntKind.u8 n18, Value.int IntKind.u8 n19, Value.int IntKind.u8 n20, Value.int IntKind.u8 n21, Value.int IntKind.u8 n22, Value.int IntKind.u8 n23, Value.int IntKind.u8 n24, Value.int IntKind.u8 n25, Value.int IntKind.u8 n26, Value.int IntKind.u8 n27,
 Value.int IntKind.u8 n28, Value.int IntKind.u8 n29, Value.int IntKind.u8 n30, Value.int IntKind.u8 n31, Value.int IntKind.u64 c, Value.int IntKind.u64 v]
 44 →
 ∃ (n : Int),
 ∃ (n_1 : Int),
 (plainA (some (Addr.mk h.next 0 none)) = true ∧ h'_1.cellsAt h.next 0 2 = some [Value.int IntKind.i64 n, Value.int IntKind.i64 n_1]) ∧
 C 59 [Value.agg (Array.mk [Value.int IntKind.i64 n, Value.int IntKind.i64 n_1])] h'_1 fun (v : Value) (h'_2 : Hp) =>
 ∃ (b : Bool),
 v = Value.bool b ∧
 if notB b = true then K (Value.tuple (Array.mk [Value.pointer none, Value.int IntKind.i64 2])) h'_2
 else
 ∃ (n : Int),
 ∃ (n_2 : Int),
 (plainA (some (Addr.mk h.next 0 none)) = true ∧ h'_2.cellsAt h.next 0 2 = some [Value.int IntKind.i64 n, Value.int IntKind.i64 n_2]) ∧
 C 60 [Value.agg (Array.mk [Value.int IntKind.i64 n, Value.int IntKind.i64 n_2])] h'_2 fun (v : Value) (h'_3 : Hp) =>
 ∃ (n : Int),
 ∃ (n_3 : Int),
 ∃ (n_4 : Int),
 ∃ (n_5 : Int),
 ∃ (n_6 : Int),
 ∃ (n_7 : Int),
 ∃ (n_8 : Int),
 ∃ (n_9 : Int),
 ∃ (n_10 : Int),
 ∃ (n_11 : Int),
 ∃ (n_12 : Int),
 ∃ (n_13 : Int),
 ∃ (n_14 : Int),
 ∃ (n_15 : Int),
 ∃ (n_16 : Int),
 ∃ (n_17 : Int),
 ∃ (n_18 : Int),
 ∃ (n_19 : Int),
 ∃ (n_20 : Int),
 ∃ (n_21 : Int),
 ∃ (n_22 : Int),
 ∃ (n_23 : Int),
 ∃ (n_24 : Int),
 ∃ (n_25 : Int),
 ∃ (n_26 : Int),
 ∃ (n_27 : Int),
 ∃ (n_28 : Int),
 ∃ (n_29 : Int),
 ∃ (n_30 : Int),
 ∃ (n_31 : Int),
 ∃ (n_32 : Int),
 ∃ (n_33 : Int),
 ∃ (n_34 : Int),
 v =
 Value.tuple
 (Array.mk
 [Value.agg
 (Array.mk
 [Value.int IntKind.u8 n, Value.int IntKind.u8 n_3, Value.int IntKind.u8 n_4, Value.int IntKind.u8 n_5, Value.int IntKind.u8 n_6, Value.int IntKind.u8 n_7, Value.int IntKind.u8 n_8, Value.int IntKind.u8 n_9, Value.int IntKind.u8 n_10, Value.int IntKind.u8 n_11, Value.int IntKind.u8 n_12,
 Value.int IntKind.u8 n_13, Value.int IntKind.u8 n_14, Value.int IntKind.u8 n_15, Value.int IntKind.u8 n_16, Value.int IntKind.u8 n_17, Value.int IntKind.u8 n_18, Value.int IntKind.u8 n_19, Value.int IntKind.u8 n_20, Value.int IntKind.u8 n_21, Value.int IntKind.u8 n_22,
 Value.int IntKind.u8 n_23, Value.int IntKind.u8 n_24, Value.int IntKind.u8 n_25, Value.int IntKind.u8 n_26, Value.int IntKind.u8 n_27, Value.int IntKind.u8 n_28, Value.int IntKind.u8 n_29, Value.int IntKind.u8 n_30, Value.int IntKind.u8 n_31, Value.int IntKind.u8 n_32,
 Value.int IntKind.u8 n_33]),
 Value.int IntKind.i64 n_34]) ∧
 ∀ (h'_4 : Hp),
 h'_4 =
 h'_3.alloc
 [Value.int IntKind.u8 (Int.ofNat 0), Value.int IntKind.u8 (Int.ofNat 0), Value.int IntKind.u8 (Int.ofNat 0), Value.int IntKind.u8 (Int.ofNat 0), Value.int IntKind.u8 (Int.ofNat 0), Value.int IntKind.u8 (Int.ofNat 0), Value.int IntKind.u8 (Int.ofNat 0), Value.int IntKind.u8 (Int.ofNat 0),
 Value.int IntKind.u8 (Int.ofNat 0), Value.int IntKind.u8 (Int.ofNat 0), Value.int IntKind.u8 (Int.ofNat 0), Value.int IntKind.u8 (Int.ofNat 0), Value.int IntKind.u8 (Int.ofNat 0), Value.int IntKind.u8 (Int.ofNat 0), Value.int IntKind.u8 (Int.ofNat 0), Value.int IntKind.u8 (Int.ofNat 0),
 Value.int IntKind.u8 (Int.ofNat 0), Value.int IntKind.u8 (Int.ofNat 0), Value.int IntKind.u8 (Int.ofNat 0), Value.int IntKind.u8 (Int.ofNat 0), Value.int IntKind.u8 (Int.ofNat 0), Value.int IntKind.u8 (Int.ofNat 0), Value.int IntKind.u8 (Int.ofNat 0), Value.int IntKind.u8 (Int.ofNat 0),
 Value.int IntKind.u8 (Int.ofNat 0), Value.int IntKind.u8 (Int.ofNat 0), Value.int IntKind.u8 (Int.ofNat 0), Value.int IntKind.u8 (Int.ofNat 0), Value.int IntKind.u8 (Int.ofNat 0), Value.int IntKind.u8 (Int.ofNat 0), Value.int IntKind.u8 (Int.ofNat 0), Value.int IntKind.u8 (Int.ofNat 0)]
 41 →
 plainA (some (Addr.mk h'_3.next 0 none)) = true ∧
 ∃ (h'_5 : Hp),
 h'_4.store h'_3.next 0
 [Value.int IntKind.u8 n, Value.int IntKind.u8 n_3, Value.int IntKind.u8 n_4, Value.int IntKind.u8 n_5, Value.int IntKind.u8 n_6, Value.int IntKind.u8 n_7, Value.int IntKind.u8 n_8, Value.int IntKind.u8 n_9, Value.int IntKind.u8 n_10, Value.int IntKind.u8 n_11, Value.int IntKind.u8 n_12,
 Value.int IntKind.u8 n_13, Value.int IntKind.u8 n_14, Value.int IntKind.u8 n_15, Value.int IntKind.u8 n_16, Value.int IntKind.u8 n_17, Value.int IntKind.u8 n_18, Value.int IntKind.u8 n_19, Value.int IntKind.u8 n_20, Value.int IntKind.u8 n_21, Value.int IntKind.u8 n_22,
 Value.int IntKind.u8 n_23, Value.int IntKind.u8 n_24, Value.int IntKind.u8 n_25, Value.int IntKind.u8 n_26, Value.int IntKind.u8 n_27, Value.int IntKind.u8 n_28, Value.int IntKind.u8 n_29, Value.int IntKind.u8 n_30, Value.int IntKind.u8 n_31, Value.int IntKind.u8 n_32,
 Value.int IntKind.u8 n_33] =
 some h'_5 ∧
 plainA (some (Addr.mk h'.next 0 none)) = true ∧
 ∃ (n : Int),
 (plainA (some (Addr.mk h'.next 0 none)) = true ∧ h'_5.cellsAt h'.next 0 1 = some [Value.int IntKind.u32 n]) ∧
 (geI n 2 = true → plainA (some (Addr.mk h'.next 0 none)) = true) ∧
 ∃ (n_35 : Int),
 (geI n 2 = true → plainA (some (Addr.mk h'.next 0 none)) = true ∧ h'_5.cellsAt h'.next 0 1 = some [Value.int IntKind.u32 n_35]) ∧
 (sel (geI n 2) (ltI n_35 2147483648) false = true → plainA (some (Addr.mk h'.next 0 none)) = true) ∧
 ∃ (n_36 : Int),
 (sel (geI n 2) (ltI n_35 2147483648) false = true → plainA (some (Addr.mk h'.next 33 none)) = true ∧ h'_5.cellsAt h'.next 33 1 = some [Value.int IntKind.u64 n_36]) ∧
 (sel (sel (geI n 2) (ltI n_35 2147483648) false) (gtI n_36 0) false = true → plainA (some (Addr.mk h'.next 0 none)) = true) ∧
 ∃ (n_37 : Int),
 (sel (sel (geI n 2) (ltI n_35 2147483648) false) (gtI n_36 0) false = true → plainA (some (Addr.mk h'.next 34 none)) = true ∧ h'_5.cellsAt h'.next 34 1 = some [Value.int IntKind.u64 n_37]) ∧
 (sel (sel (sel (geI n 2) (ltI n_35 2147483648) false) (gtI n_36 0) false) (geI n_37 1) false = true → plainA (some (Addr.mk h'.next 0 none)) = true) ∧
 ∃ (n_38 : Int),
 (sel (sel (sel (geI n 2) (ltI n_35 2147483648) false) (gtI n_36 0) false) (geI n_37 1) false = true → plainA (some (Addr.mk h'.next 34 none)) = true ∧ h'_5.cellsAt h'.next 34 1 = some [Value.int IntKind.u64 n_38]) ∧
 (sel (sel (sel (sel (geI n 2) (ltI n_35 2147483648) false) (gtI n_36 0) false) (geI n_37 1) false) (leI n_38 1099511627776) false = true → plainA (some (Addr.mk h.next 0 none)) = true) ∧
 ∃ (n_39 : Int),
 (sel (sel (sel (sel (geI n 2) (ltI n_35 2147483648) false) (gtI n_36 0) false) (geI n_37 1) false) (leI n_38 1099511627776) false = true → plainA (some (Addr.mk h.next 1 none)) = true ∧ h'_5.cellsAt h.next 1 1 = some [Value.int IntKind.i64 n_39]) ∧
 (sel (sel (sel (sel (geI n 2) (ltI n_35 2147483648) false) (gtI n_36 0) false) (geI n_37 1) false) (leI n_38 1099511627776) false = true → plainA (some (Addr.mk h'.next 0 none)) = true) ∧
 ∃ (n_40 : Int),
 ∃ (n_41 : Int),
 ∃ (n_42 : Int),
 ∃ (n_43 : Int),
 ∃ (n_44 : Int),
 ∃ (n_45 : Int),
 ∃ (n_46 : Int),
 ∃ (n_47 : Int),
 ∃ (n_48 : Int),
 ∃ (n_49 : Int),
 ∃ (n_50 : Int),
 ∃ (n_51 : Int),
 ∃ (n_52 : Int),
 ∃ (n_53 : Int),
 ∃ (n_54 : Int),
 ∃ (n_55 : Int),
 ∃ (n_56 : Int),
 ∃ (n_57 : Int),
 ∃ (n_58 : Int),
 ∃ (n_59 : Int),
 ∃ (n_60 : Int),
 ∃ (n_61 : Int),
 ∃ (n_62 : Int),
 ∃ (n_63 : Int),
 ∃ (n_64 : Int),
 ∃ (n_65 : Int),
 ∃ (n_66 : Int),
 ∃ (n_67 : Int),
 ∃ (n_68 : Int),
 ∃ (n_69 : Int),
 ∃ (n_70 : Int),
 ∃ (n_71 : Int),
 (sel (sel (sel (sel (geI n 2) (ltI n_35 2147483648) false) (gtI n_36 0) false) (geI n_37 1) false) (leI n_38 1099511627776) false = true →
 plainA (some (Addr.mk h'.next 1 none)) = true ∧
 h'_5.cellsAt h'.next 1 32 =
 some
 [Value.int IntKind.u8 n_40, Value.int IntKind.u8 n_41, Value.int IntKind.u8 n_42, Value.int IntKind.u8 n_43, Value.int IntKind.u8 n_44, Value.int IntKind.u8 n_45,
 Value.int IntKind.u8 n_46, Value.int IntKind.u8 n_47, Value.int IntKind.u8 n_48, Value.int IntKind.u8 n_49, Value.int IntKind.u8 n_50, Value.int IntKind.u8 n_51,
 Value.int IntKind.u8 n_52, Value.int IntKind.u8 n_53, Value.int IntKind.u8 n_54, Value.int IntKind.u8 n_55, Value.int IntKind.u8 n_56, Value.int IntKind.u8 n_57,
 Value.int IntKind.u8 n_58, Value.int IntKind.u8 n_59, Value.int IntKind.u8 n_60, Value.int IntKind.u8 n_61, Value.int IntKind.u8 n_62, Value.int IntKind.u8 n_63,
 Value.int IntKind.u8 n_64, Value.int IntKind.u8 n_65, Value.int IntKind.u8 n_66, Value.int IntKind.u8 n_67, Value.int IntKind.u8 n_68, Value.int IntKind.u8 n_69,
 Value.int IntKind.u8 n_70, Value.int IntKind.u8 n_71]) ∧
 ∃ (b : Bool),
 (sel (sel (sel (sel (geI n 2) (ltI n_35 2147483648) false) (gtI n_36 0) false) (geI n_37 1) false) (leI n_38 1099511627776) false = true →
 C 61
 [Value.int IntKind.i64 n_39,
 Value.agg
 (Array.mk
 [Value.int IntKind.u8 n_40, Value.int IntKind.u8 n_41, Value.int IntKind.u8 n_42, Value.int IntKind.u8 n_43, Value.int IntKind.u8 n_44, Value.int IntKind.u8 n_45,
 Value.int IntKind.u8 n_46, Value.int IntKind.u8 n_47, Value.int IntKind.u8 n_48, Value.int IntKind.u8 n_49, Value.int IntKind.u8 n_50, Value.int IntKind.u8 n_51,
 Value.int IntKind.u8 n_52, Value.int IntKind.u8 n_53, Value.int IntKind.u8 n_54, Value.int IntKind.u8 n_55, Value.int IntKind.u8 n_56, Value.int IntKind.u8 n_57,
 Value.int IntKind.u8 n_58, Value.int IntKind.u8 n_59, Value.int IntKind.u8 n_60, Value.int IntKind.u8 n_61, Value.int IntKind.u8 n_62, Value.int IntKind.u8 n_63,
 Value.int IntKind.u8 n_64, Value.int IntKind.u8 n_65, Value.int IntKind.u8 n_66, Value.int IntKind.u8 n_67, Value.int IntKind.u8 n_68, Value.int IntKind.u8 n_69,
 Value.int IntKind.u8 n_70, Value.int IntKind.u8 n_71])]
 h'_5 fun (v : Value) (h' : Hp) => v = Value.bool b ∧ h' = h'_5) ∧
 ∃ (n_72 : Int),
 ∃ (n_73 : Int),
 ∃ (n_74 : Int),
 ∃ (n_75 : Int),
 ∃ (n_76 : Int),
 ∃ (n_77 : Int),
 ∃ (n_78 : Int),
 ∃ (n_79 : Int),
 ∃ (n_80 : Int),
 ∃ (n_81 : Int),
 ∃ (n_82 : Int),
 ∃ (n_83 : Int),
 ∃ (n_84 : Int),
 ∃ (n_85 : Int),
 ∃ (n_86 : Int),
 ∃ (n_87 : Int),
 ∃ (n_88 : Int),
 ∃ (n_89 : Int),
 ∃ (n_90 : Int),
 ∃ (n_91 : Int),
 ∃ (n_92 : Int),
 ∃ (n_93 : Int),
 ∃ (n_94 : Int),
 ∃ (n_95 : Int),
 ∃ (n_96 : Int),
 ∃ (n_97 : Int),
 ∃ (n_98 : Int),
 ∃ (n_99 : Int),
 ∃ (n_100 : Int),
 ∃ (n_101 : Int),
 ∃ (n_102 : Int),
 ∃ (n_103 : Int),
 ∃ (n_104 : Int),
 ∃ (n_105 : Int),
 ∃ (n_106 : Int),
 (notB
 (sel
 (sel (sel (sel (sel (geI n 2) (ltI n_35 2147483648) false) (gtI n_36 0) false) (geI n_37 1) false)
 (leI n_38 1099511627776) false)
 b false) =
 true →
 plainA (some (Addr.mk h'.next 0 none)) = true ∧
 h'_5.cellsAt h'.next 0 35 =
 some
 [Value.int IntKind.u32 n_72, Value.int IntKind.u8 n_73, Value.int IntKind.u8 n_74,
 Value.int IntKind.u8 n_75, Value.int IntKind.u8 n_76, Value.int IntKind.u8 n_77,
 Value.int IntKind.u8 n_78, Value.int IntKind.u8 n_79, Value.int IntKind.u8 n_80,
 Value.int IntKind.u8 n_81, Value.int IntKind.u8 n_82, Value.int IntKind.u8 n_83,
 Value.int IntKind.u8 n_84, Value.int IntKind.u8 n_85, Value.int IntKind.u8 n_86,
 Value.int IntKind.u8 n_87, Value.int IntKind.u8 n_88, Value.int IntKind.u8 n_89,
 Value.int IntKind.u8 n_90, Value.int IntKind.u8 n_91, Value.int IntKind.u8 n_92,
 Value.int IntKind.u8 n_93, Value.int IntKind.u8 n_94, Value.int IntKind.u8 n_95,
 Value.int IntKind.u8 n_96, Value.int IntKind.u8 n_97, Value.int IntKind.u8 n_98,
 Value.int IntKind.u8 n_99, Value.int IntKind.u8 n_100, Value.int IntKind.u8 n_101,
 Value.int IntKind.u8 n_102, Value.int IntKind.u8 n_103, Value.int IntKind.u8 n_104,
 Value.int IntKind.u64 n_105, Value.int IntKind.u64 n_106]) ∧
 ∃ (n_107 : Int),
 ∃ (n_108 : Int),
 ∃ (n_109 : Int),
 ∃ (n_110 : Int),
 ∃ (n_111 : Int),
 ∃ (n_112 : Int),
 ∃ (n_113 : Int),
 ∃ (n_114 : Int),
 ∃ (n_115 : Int),
 ∃ (n_116 : Int),
 ∃ (n_117 : Int),
 ∃ (n_118 : Int),
 ∃ (n_119 : Int),
 ∃ (n_120 : Int),
 ∃ (n_121 : Int),
 ∃ (n_122 : Int),
 ∃ (n_123 : Int),
 ∃ (n_124 : Int),
 ∃ (n_125 : Int),
 ∃ (n_126 : Int),
 ∃ (n_127 : Int),
 ∃ (n_128 : Int),
 ∃ (n_129 : Int),
 ∃ (n_130 : Int),
 ∃ (n_131 : Int),
 ∃ (n_132 : Int),
 ∃ (n_133 : Int),
 ∃ (n_134 : Int),
 ∃ (n_135 : Int),
 ∃ (n_136 : Int),
 ∃ (n_137 : Int),
 ∃ (n_138 : Int),
 (notB
 (sel
 (sel
 (sel
 (sel
 (sel (geI n 2)
 (ltI n_35 2147483648) false)
 (gtI n_36 0) false)
 (geI n_37 1) false)
 (leI n_38 1099511627776) false)
 b false) =
 true →
 plainA (some (Addr.mk h'_3.next 0 none)) =
 true ∧
 h'_5.cellsAt h'_3.next 0 32 =
 some
 [Value.int IntKind.u8 n_107,
 Value.int IntKind.u8 n_108,
 Value.int IntKind.u8 n_109,
 Value.int IntKind.u8 n_110,
 Value.int IntKind.u8 n_111,
 Value.int IntKind.u8 n_112,
 Value.int IntKind.u8 n_113,
 Value.int IntKind.u8 n_114,
 Value.int IntKind.u8 n_115,
 Value.int IntKind.u8 n_116,
 Value.int IntKind.u8 n_117,
 Value.int IntKind.u8 n_118,
 Value.int IntKind.u8 n_119,
 Value.int IntKind.u8 n_120,
 Value.int IntKind.u8 n_121,
 Value.int IntKind.u8 n_122,
 Value.int IntKind.u8 n_123,
 Value.int IntKind.u8 n_124,
 Value.int IntKind.u8 n_125,
 Value.int IntKind.u8 n_126,
 Value.int IntKind.u8 n_127,
 Value.int IntKind.u8 n_128,
 Value.int IntKind.u8 n_129,
 Value.int IntKind.u8 n_130,
 Value.int IntKind.u8 n_131,
 Value.int IntKind.u8 n_132,
 Value.int IntKind.u8 n_133,
 Value.int IntKind.u8 n_134,
 Value.int IntKind.u8 n_135,
 Value.int IntKind.u8 n_136,
 Value.int IntKind.u8 n_137,
 Value.int IntKind.u8 n_138]) ∧
 if
 sel
 (notB
 (sel
 (sel
 (sel
 (sel
 (sel (geI n 2)
 (ltI n_35 2147483648)
 false)
 (gtI n_36 0) false)
 (geI n_37 1) false)
 (leI n_38 1099511627776) false)
 b false))
 (notB
 (andB (eqI n_72 (Int.ofNat 0))
 (andB
 (andB (eqI n_73 n_107)
 (andB (eqI n_74 n_108)
 (andB (eqI n_75 n_109)
 (andB (eqI n_76 n_110)
 (andB (eqI n_77 n_111)
 (andB (eqI n_78 n_112)
 (andB
 (eqI n_79 n_113)
 (andB
 (eqI n_80 n_114)
 (andB
 (eqI n_81
 n_115)
 (andB
 (eqI n_82
 n_116)
 (andB
 (eqI n_83
 n_117)
 (andB
 (eqI
 n_84
 n_118)
 (andB
 (eqI
 n_85
 n_119)
 (andB
 (eqI
 n_86
 n_120)
 (andB
 (eqI
 n_87
 n_121)
 (andB
 (eqI
 n_88
 n_122)
 (andB
 (eqI
 n_89
 n_123)
 (andB
 (eqI
 n_90
 n_124)
 (andB
 (eqI
 n_91
 n_125)
 (andB
 (eqI
 n_92
 n_126)
 (andB
 (eqI
 n_93
 n_127)
 (andB
 (eqI
 n_94
 n_128)
 (andB
 (eqI
 n_95
 n_129)
 (andB
 (eqI
 n_96
 n_130)
 (andB
 (eqI
 n_97
 n_131)
 (andB
 (eqI
 n_98
 n_132)
 (andB
 (eqI
 n_99
 n_133)
 (andB
 (eqI
 n_100
 n_134)
 (andB
 (eqI
 n_101
 n_135)
 (andB
 (eqI
 n_102
 n_136)
 (andB
 (eqI
 n_103
 n_137)
 (andB
 (eqI
 n_104
 n_138)
 true))))))))))))))))))))))))))))))))
 (andB (eqI n_105 (Int.ofNat 0))
 (andB
 (eqI n_106 (Int.ofNat 0))
 true)))))
 false =
 true then
 K
 (Value.tuple
 (Array.mk
 [Value.pointer none,
 Value.int IntKind.i64 2]))
 h'_5
 else
 ∃ (n : Int),
 ∃ (n_139 : Int),
 (plainA (some (Addr.mk h.next 0 none)) =
 true ∧
 h'_5.cellsAt h.next 0 2 =
 some
 [Value.int IntKind.i64 n,
 Value.int IntKind.i64
 n_139]) ∧
 ∃ (n_140 : Int),
 ∃ (n_141 : Int),
 ∃ (n_142 : Int),
 ∃ (n_143 : Int),
 ∃ (n_144 : Int),
 ∃ (n_145 : Int),
 ∃ (n_146 : Int),
 ∃ (n_147 : Int),
 ∃ (n_148 : Int),
 ∃ (n_149 : Int),
 ∃ (n_150 : Int),
 ∃ (n_151 : Int),
 ∃ (n_152 :
 Int),
 ∃ (n_153 :
 Int),
 ∃ (n_154 :
 Int),
 ∃ (n_155
 :
 Int),
 ∃
 (n_156
 :
 Int),
 ∃
 (n_157
 :
 Int),
 ∃
 (n_158
 :
 Int),
 ∃
 (n_159
 :
 Int),
 ∃
 (n_160
 :
 Int),
 ∃
 (n_161
 :
 Int),
 ∃
 (n_162
 :
 Int),
 ∃
 (n_163
 :
 Int),
 ∃
 (n_164
 :
 Int),
 ∃
 (n_165
 :
 Int),
 ∃
 (n_166
 :
 Int),
 ∃
 (n_167
 :
 Int),
 ∃
 (n_168
 :
 Int),
 ∃
 (n_169
 :
 Int),
 ∃
 (n_170
 :
 Int),
 ∃
 (n_171
 :
 Int),
 ∃
 (n_172
 :
 Int),
 ∃
 (n_173
 :
 Int),
 ∃
 (n_174
 :
 Int),
 (plainA
 (some
 (Addr.mk
 h'.next
 0
 none)) =
 true ∧
 h'_5.cellsAt
 h'.next
 0
 35 =
 some
 [Value.int
 IntKind.u32
 n_140,
 Value.int
 IntKind.u8
 n_141,
 Value.int
 IntKind.u8
 n_142,
 Value.int
 IntKind.u8
 n_143,
 Value.int
 IntKind.u8
 n_144,
 Value.int
 IntKind.u8
 n_145,
 Value.int
 IntKind.u8
 n_146,
 Value.int
 IntKind.u8
 n_147,
 Value.int
 IntKind.u8
 n_148,
 Value.int
 IntKind.u8
 n_149,
 Value.int
 IntKind.u8
 n_150,
 Value.int
 IntKind.u8
 n_151,
 Value.int
 IntKind.u8
 n_152,
 Value.int
 IntKind.u8
 n_153,
 Value.int
 IntKind.u8
 n_154,
 Value.int
 IntKind.u8
 n_155,
 Value.int
 IntKind.u8
 n_156,
 Value.int
 IntKind.u8
 n_157,
 Value.int
 IntKind.u8
 n_158,
 Value.int
 IntKind.u8
 n_159,
 Value.int
 IntKind.u8
 n_160,
 Value.int
 IntKind.u8
 n_161,
 Value.int
 IntKind.u8
 n_162,
 Value.int
 IntKind.u8
 n_163,
 Value.int
 IntKind.u8
 n_164,
 Value.int
 IntKind.u8
 n_165,
 Value.int
 IntKind.u8
 n_166,
 Value.int
 IntKind.u8
 n_167,
 Value.int
 IntKind.u8
 n_168,
 Value.int
 IntKind.u8
 n_169,
 Value.int
 IntKind.u8
 n_170,
 Value.int
 IntKind.u8
 n_171,
 Value.int
 IntKind.u8
 n_172,
 Value.int
 IntKind.u64
 n_173,
 Value.int
 IntKind.u64
 n_174]) ∧
 ∃
 (n_175
 :
 Int),
 ∃
 (n_176
 :
 Int),
 ∃
 (n_177
 :
 Int),
 ∃
 (n_178
 :
 Int),
 ∃
 (n_179
 :
 Int),
 ∃
 (n_180
 :
 Int),
 ∃
 (n_181
 :
 Int),
 ∃
 (n_182
 :
 Int),
 ∃
 (n_183
 :
 Int),
 ∃
 (n_184
 :
 Int),
 ∃
 (n_185
 :
 Int),
 ∃
 (n_186
 :
 Int),
 ∃
 (n_187
 :
 Int),
 ∃
 (n_188
 :
 Int),
 ∃
 (n_189
 :
 Int),
 ∃
 (n_190
 :
 Int),
 ∃
 (n_191
 :
 Int),
 ∃
 (n_192
 :
 Int),
 ∃
 (n_193
 :
 Int),
 ∃
 (n_194
 :
 Int),
 ∃
 (n_195
 :
 Int),
 ∃
 (n_196
 :
 Int),
 ∃
 (n_197
 :
 Int),
 ∃
 (n_198
 :
 Int),
 ∃
 (n_199
 :
 Int),
 ∃
 (n_200
 :
 Int),
 ∃
 (n_201
 :
 Int),
 ∃
 (n_202
 :
 Int),
 ∃
 (n_203
 :
 Int),
 ∃
 (n_204
 :
 Int),
 ∃
 (n_205
 :
 Int),
 ∃
 (n_206
 :
 Int),
 ∃
 (n_207
 :
 Int),
 ∃
 (n_208
 :
 Int),
 ∃
 (n_209
 :
 Int),
 (plainA
 (some
 (Addr.mk
 h'.next
 0
 none)) =
 true ∧
 h'_5.cellsAt
 h'.next
 0
 35 =
 some
 [Value.int
 IntKind.u32
 n_175,
 Value.int
 IntKind.u8
 n_176,
 Value.int
 IntKind.u8
 n_177,
 Value.int
 IntKind.u8
 n_178,
 Value.int
 IntKind.u8
 n_179,
 Value.int
 IntKind.u8
 n_180,
 Value.int
 IntKind.u8
 n_181,
 Value.int
 IntKind.u8
 n_182,
 Value.int
 IntKind.u8
 n_183,
 Value.int
 IntKind.u8
 n_184,
 Value.int
 IntKind.u8
 n_185,
 Value.int
 IntKind.u8
 n_186,
 Value.int
 IntKind.u8
 n_187,
 Value.int
 IntKind.u8
 n_188,
 Value.int
 IntKind.u8
 n_189,
 Value.int
 IntKind.u8
 n_190,
 Value.int
 IntKind.u8
 n_191,
 Value.int
 IntKind.u8
 n_192,
 Value.int
 IntKind.u8
 n_193,
 Value.int
 IntKind.u8
 n_194,
 Value.int
 IntKind.u8
 n_195,
 Value.int
 IntKind.u8
 n_196,
 Value.int
 IntKind.u8
 n_197,
 Value.int
 IntKind.u8
 n_198,
 Value.int
 IntKind.u8
 n_199,
 Value.int
 IntKind.u8
 n_200,
 Value.int
 IntKind.u8
 n_201,
 Value.int
 IntKind.u8
 n_202,
 Value.int
 IntKind.u8
 n_203,
 Value.int
 IntKind.u8
 n_204,
 Value.int
 IntKind.u8
 n_205,
 Value.int
 IntKind.u8
 n_206,
 Value.int
 IntKind.u8
 n_207,
 Value.int
 IntKind.u64
 n_208,
 Value.int
 IntKind.u64
 n_209]) ∧
 ∀
 (h' :
 Hp),
 h' =
 h'_5.newOb
 (Ob.map
 []
 0) →
 ∀
 (h'_6 :
 Hp),
 h'_6 =
 h'.newOb
 (Ob.map
 []
 0) →
 ∀
 (h'_7 :
 Hp),
 h'_7 =
 h'_6.alloc
 [Value.int
 IntKind.i64
 n,
 Value.int
 IntKind.i64
 n_139,
 Value.iface
 68
 i,
 Value.int
 IntKind.u32
 n_140,
 Value.int
 IntKind.u8
 n_141,
 Value.int
 IntKind.u8
 n_142,
 Value.int
 IntKind.u8
 n_143,
 Value.int
 IntKind.u8
 n_144,
 Value.int
 IntKind.u8
 n_145,
 Value.int
 IntKind.u8
 n_146,
 Value.int
 IntKind.u8
 n_147,
 Value.int
 IntKind.u8
 n_148,
 Value.int
 IntKind.u8
 n_149,
 Value.int
 IntKind.u8
 n_150,
 Value.int
 IntKind.u8
 n_151,
 Value.int
 IntKind.u8
 n_152,
 Value.int
 IntKind.u8
 n_153,
 Value.int
 IntKind.u8
 n_154,
 Value.int
 IntKind.u8
 n_155,
 Value.int
 IntKind.u8
 n_156,
 Value.int
 IntKind.u8
 n_157,
 Value.int
 IntKind.u8
 n_158,
 Value.int
 IntKind.u8
 n_159,
 Value.int
 IntKind.u8
 n_160,
 Value.int
 IntKind.u8
 n_161,
 Value.int
 IntKind.u8
 n_162,
 Value.int
 IntKind.u8
 n_163,
 Value.int
 IntKind.u8
 n_164,
 Value.int
 IntKind.u8
 n_165,
 Value.int
 IntKind.u8
 n_166,
 Value.int
 IntKind.u8
 n_167,
 Value.int
 IntKind.u8
 n_168,
 Value.int
 IntKind.u8
 n_169,
 Value.int
 IntKind.u8
 n_170,
 Value.int
 IntKind.u8
 n_171,
 Value.int
 IntKind.u8
 n_172,
 Value.int
 IntKind.u64
 n_173,
 Value.int
 IntKind.u64
 n_174,
 Value.int
 IntKind.u32
 n_175,
 Value.int
 IntKind.u8
 n_176,
 Value.int
 IntKind.u8
 n_177,
 Value.int
 IntKind.u8
 n_178,
 Value.int
 IntKind.u8
 n_179,
 Value.int
 IntKind.u8
 n_180,
 Value.int
 IntKind.u8
 n_181,
 Value.int
 IntKind.u8
 n_182,
 Value.int
 IntKind.u8
 n_183,
 Value.int
 IntKind.u8
 n_184,
 Value.int
 IntKind.u8
 n_185,
 Value.int
 IntKind.u8
 n_186,
 Value.int
 IntKind.u8
 n_187,
 Value.int
 IntKind.u8
 n_188,
 Value.int
 IntKind.u8
 n_189,
 Value.int
 IntKind.u8
 n_190,
 Value.int
 IntKind.u8
 n_191,
 Value.int
 IntKind.u8
 n_192,
 Value.int
 IntKind.u8
 n_193,
 Value.int
 IntKind.u8
 n_194,
 Value.int
 IntKind.u8
 n_195,
 Value.int
 IntKind.u8
 n_196,
 Value.int
 IntKind.u8
 n_197,
 Value.int
 IntKind.u8
 n_198,
 Value.int
 IntKind.u8
 n_199,
 Value.int
 IntKind.u8
 n_200,
 Value.int
 IntKind.u8
 n_201,
 Value.int
 IntKind.u8
 n_202,
 Value.int
 IntKind.u8
 n_203,
 Value.int
 IntKind.u8
 n_204,
 Value.int
 IntKind.u8
 n_205,
 Value.int
 IntKind.u8
 n_206,
 Value.int
 IntKind.u8
 n_207,
 Value.int
 IntKind.u64
 n_208,
 Value.int
 IntKind.u64
 n_209,
 Value.map
 (some
 h'_5.next),
 Value.map
 (some
 h'.next),
 Value.int
 IntKind.u32
 2147483648]
 151 →
 K
 (Value.tuple
 (Array.mk
 [Value.pointer
 (some
 (Addr.mk
 h'_6.next
 0
 none)),
 Value.int
 IntKind.i64
 0]))
 h'_7) := by kernel_rfl

def shp23n : Nat → List (Tmp × TypeId) := fun i => []
theorem vc23n (C : FuncId → List Value → Hp → (Value → Hp → Prop) → Prop) (p w : Int) (q c v : Int) (n0 n1 n2 n3 n4 n5 n6 n7 n8 n9 n10 n11 n12 n13 n14 n15 n16 n17 n18 n19 n20 n21 n22 n23 n24 n25 n26 n27 n28 n29 n30 n31 : Int) (h : Hp) (K : Value → Hp → Prop) : vBody Tryz.prog C pfg shp23n Tryz.f23 (Tryz.f23.body.getD .skip) [.agg (Array.mk [.int .i64 p, .int .i64 w]), .nilIface, .agg (Array.mk [.int .u32 q, .int .u8 n0, .int .u8 n1, .int .u8 n2, .int .u8 n3, .int .u8 n4, .int .u8 n5, .int .u8 n6, .int .u8 n7, .int .u8 n8, .int .u8 n9, .int .u8 n10, .int .u8 n11, .int .u8 n12, .int .u8 n13, .int .u8 n14, .int .u8 n15, .int .u8 n16, .int .u8 n17, .int .u8 n18, .int .u8 n19, .int .u8 n20, .int .u8 n21, .int .u8 n22, .int .u8 n23, .int .u8 n24, .int .u8 n25, .int .u8 n26, .int .u8 n27, .int .u8 n28, .int .u8 n29, .int .u8 n30, .int .u8 n31, .int .u64 c, .int .u64 v])] h K = (
 ∀ (h' : Hp),
 h' = h.alloc [Value.int IntKind.i64 p, Value.int IntKind.i64 w] 23 →
 ∀ (h'_1 : Hp),
 h'_1 =
 h'.alloc
 [Value.int IntKind.u32 q, Value.int IntKind.u8 n0, Value.int IntKind.u8 n1, Value.int IntKind.u8 n2, Value.int IntKind.u8 n3, Value.int IntKind.u8 n4, Value.int IntKind.u8 n5, Value.int IntKind.u8 n6, Value.int IntKind.u8 n7, Value.int IntKind.u8 n8, Value.int IntKind.u8 n9, Value.int IntKind.u8 n10, Value.int IntKind.u8 n11, Value.int IntKind.u8 n12, Value.int IntKind.u8 n13,
 Value.int IntKind.u8 n14, Value.int IntKind.u8 n15, Value.int IntKind.u8 n16, Value.int IntKind.u8 n17, Value.int IntKind.u8 n18, Value.int IntKind.u8 n19, Value.int IntKind.u8 n20, Value.int IntKind.u8 n21, Value.int IntKind.u8 n22, Value.int IntKind.u8 n23, Value.int IntKind.u8 n24, Value.int IntKind.u8 n25, Value.int IntKind.u8 n26, Value.int IntKind.u8 n27,
 Value.int IntKind.u8 n28, Value.int IntKind.u8 n29, Value.int IntKind.u8 n30, Value.int IntKind.u8 n31, Value.int IntKind.u64 c, Value.int IntKind.u64 v]
 44 →
 ∃ (n : Int),
 ∃ (n_1 : Int),
 (plainA (some (Addr.mk h.next 0 none)) = true ∧ h'_1.cellsAt h.next 0 2 = some [Value.int IntKind.i64 n, Value.int IntKind.i64 n_1]) ∧
 C 59 [Value.agg (Array.mk [Value.int IntKind.i64 n, Value.int IntKind.i64 n_1])] h'_1 fun (v : Value) (h' : Hp) => ∃ (b : Bool), v = Value.bool b ∧ if notB b = true then K (Value.tuple (Array.mk [Value.pointer none, Value.int IntKind.i64 2])) h' else K (Value.tuple (Array.mk [Value.pointer none, Value.int IntKind.i64 1])) h') := by kernel_rfl

def shp6 : Nat → List (Tmp × TypeId) := fun i => if i = 12 then [(10, 4), (11, 3)] else []
theorem vc6 (C : FuncId → List Value → Hp → (Value → Hp → Prop) → Prop) (p w : Int) (q c v : Int) (n0 n1 n2 n3 n4 n5 n6 n7 n8 n9 n10 n11 n12 n13 n14 n15 n16 n17 n18 n19 n20 n21 n22 n23 n24 n25 n26 n27 n28 n29 n30 n31 : Int) (h : Hp) (K : Value → Hp → Prop) : vBody Tryz.prog C pfg shp6 Tryz.f6 (Tryz.f6.body.getD .skip) [.agg (Array.mk [.int .i64 p, .int .i64 w]), .agg (Array.mk [.int .u32 q, .int .u8 n0, .int .u8 n1, .int .u8 n2, .int .u8 n3, .int .u8 n4, .int .u8 n5, .int .u8 n6, .int .u8 n7, .int .u8 n8, .int .u8 n9, .int .u8 n10, .int .u8 n11, .int .u8 n12, .int .u8 n13, .int .u8 n14, .int .u8 n15, .int .u8 n16, .int .u8 n17, .int .u8 n18, .int .u8 n19, .int .u8 n20, .int .u8 n21, .int .u8 n22, .int .u8 n23, .int .u8 n24, .int .u8 n25, .int .u8 n26, .int .u8 n27, .int .u8 n28, .int .u8 n29, .int .u8 n30, .int .u8 n31, .int .u64 c, .int .u64 v])] h K = (
 ∀ (h' : Hp),
 h' = h.alloc [Value.int IntKind.i64 p, Value.int IntKind.i64 w] 23 →
 ∀ (h'_1 : Hp),
 h'_1 =
 h'.alloc
 [Value.int IntKind.u32 q, Value.int IntKind.u8 n0, Value.int IntKind.u8 n1, Value.int IntKind.u8 n2, Value.int IntKind.u8 n3, Value.int IntKind.u8 n4, Value.int IntKind.u8 n5, Value.int IntKind.u8 n6, Value.int IntKind.u8 n7, Value.int IntKind.u8 n8, Value.int IntKind.u8 n9, Value.int IntKind.u8 n10, Value.int IntKind.u8 n11, Value.int IntKind.u8 n12, Value.int IntKind.u8 n13,
 Value.int IntKind.u8 n14, Value.int IntKind.u8 n15, Value.int IntKind.u8 n16, Value.int IntKind.u8 n17, Value.int IntKind.u8 n18, Value.int IntKind.u8 n19, Value.int IntKind.u8 n20, Value.int IntKind.u8 n21, Value.int IntKind.u8 n22, Value.int IntKind.u8 n23, Value.int IntKind.u8 n24, Value.int IntKind.u8 n25, Value.int IntKind.u8 n26, Value.int IntKind.u8 n27,
 Value.int IntKind.u8 n28, Value.int IntKind.u8 n29, Value.int IntKind.u8 n30, Value.int IntKind.u8 n31, Value.int IntKind.u64 c, Value.int IntKind.u64 v]
 44 →
 C 22 [] h'_1 fun (v : Value) (h'_2 : Hp) =>
 ∃ (b : Bool),
 v = Value.bool b ∧
 if notB b = true then K (Value.bool false) h'_2
 else
 ∃ (n : Int),
 ∃ (n_1 : Int),
 (plainA (some (Addr.mk h.next 0 none)) = true ∧ h'_2.cellsAt h.next 0 2 = some [Value.int IntKind.i64 n, Value.int IntKind.i64 n_1]) ∧
 ∀ (h'_3 : Hp),
 h'_3 = h'_2.alloc [] 70 →
 ∃ (n_2 : Int),
 ∃ (n_3 : Int),
 ∃ (n_4 : Int),
 ∃ (n_5 : Int),
 ∃ (n_6 : Int),
 ∃ (n_7 : Int),
 ∃ (n_8 : Int),
 ∃ (n_9 : Int),
 ∃ (n_10 : Int),
 ∃ (n_11 : Int),
 ∃ (n_12 : Int),
 ∃ (n_13 : Int),
 ∃ (n_14 : Int),
 ∃ (n_15 : Int),
 ∃ (n_16 : Int),
 ∃ (n_17 : Int),
 ∃ (n_18 : Int),
 ∃ (n_19 : Int),
 ∃ (n_20 : Int),
 ∃ (n_21 : Int),
 ∃ (n_22 : Int),
 ∃ (n_23 : Int),
 ∃ (n_24 : Int),
 ∃ (n_25 : Int),
 ∃ (n_26 : Int),
 ∃ (n_27 : Int),
 ∃ (n_28 : Int),
 ∃ (n_29 : Int),
 ∃ (n_30 : Int),
 ∃ (n_31 : Int),
 ∃ (n_32 : Int),
 ∃ (n_33 : Int),
 ∃ (n_34 : Int),
 ∃ (n_35 : Int),
 ∃ (n_36 : Int),
 (plainA (some (Addr.mk h'.next 0 none)) = true ∧
 h'_3.cellsAt h'.next 0 35 =
 some
 [Value.int IntKind.u32 n_2, Value.int IntKind.u8 n_3, Value.int IntKind.u8 n_4, Value.int IntKind.u8 n_5, Value.int IntKind.u8 n_6, Value.int IntKind.u8 n_7, Value.int IntKind.u8 n_8, Value.int IntKind.u8 n_9, Value.int IntKind.u8 n_10, Value.int IntKind.u8 n_11, Value.int IntKind.u8 n_12,
 Value.int IntKind.u8 n_13, Value.int IntKind.u8 n_14, Value.int IntKind.u8 n_15, Value.int IntKind.u8 n_16, Value.int IntKind.u8 n_17, Value.int IntKind.u8 n_18, Value.int IntKind.u8 n_19, Value.int IntKind.u8 n_20, Value.int IntKind.u8 n_21, Value.int IntKind.u8 n_22,
 Value.int IntKind.u8 n_23, Value.int IntKind.u8 n_24, Value.int IntKind.u8 n_25, Value.int IntKind.u8 n_26, Value.int IntKind.u8 n_27, Value.int IntKind.u8 n_28, Value.int IntKind.u8 n_29, Value.int IntKind.u8 n_30, Value.int IntKind.u8 n_31, Value.int IntKind.u8 n_32,
 Value.int IntKind.u8 n_33, Value.int IntKind.u8 n_34, Value.int IntKind.u64 n_35, Value.int IntKind.u64 n_36]) ∧
 C 23
 [Value.agg (Array.mk [Value.int IntKind.i64 n, Value.int IntKind.i64 n_1]), Value.iface 68 (Value.pointer (some (Addr.mk h'_2.next 0 none))),
 Value.agg
 (Array.mk
 [Value.int IntKind.u32 n_2, Value.int IntKind.u8 n_3, Value.int IntKind.u8 n_4, Value.int IntKind.u8 n_5, Value.int IntKind.u8 n_6, Value.int IntKind.u8 n_7, Value.int IntKind.u8 n_8, Value.int IntKind.u8 n_9, Value.int IntKind.u8 n_10, Value.int IntKind.u8 n_11, Value.int IntKind.u8 n_12,
 Value.int IntKind.u8 n_13, Value.int IntKind.u8 n_14, Value.int IntKind.u8 n_15, Value.int IntKind.u8 n_16, Value.int IntKind.u8 n_17, Value.int IntKind.u8 n_18, Value.int IntKind.u8 n_19, Value.int IntKind.u8 n_20, Value.int IntKind.u8 n_21, Value.int IntKind.u8 n_22,
 Value.int IntKind.u8 n_23, Value.int IntKind.u8 n_24, Value.int IntKind.u8 n_25, Value.int IntKind.u8 n_26, Value.int IntKind.u8 n_27, Value.int IntKind.u8 n_28, Value.int IntKind.u8 n_29, Value.int IntKind.u8 n_30, Value.int IntKind.u8 n_31, Value.int IntKind.u8 n_32,
 Value.int IntKind.u8 n_33, Value.int IntKind.u8 n_34, Value.int IntKind.u64 n_35, Value.int IntKind.u64 n_36])]
 h'_3 fun (v : Value) (h'_4 : Hp) =>
 ∃ (a : Option Addr),
 ∃ (n : Int),
 v = Value.tuple (Array.mk [Value.pointer a, Value.int IntKind.i64 n]) ∧
 ∃ (n_37 : Int),
 ∃ (n_38 : Int),
 (plainA (some (Addr.mk h.next 0 none)) = true ∧ h'_4.cellsAt h.next 0 2 = some [Value.int IntKind.i64 n_37, Value.int IntKind.i64 n_38]) ∧
 ∃ (n_39 : Int),
 ∃ (n_40 : Int),
 ∃ (n_41 : Int),
 ∃ (n_42 : Int),
 ∃ (n_43 : Int),
 ∃ (n_44 : Int),
 ∃ (n_45 : Int),
 ∃ (n_46 : Int),
 ∃ (n_47 : Int),
 ∃ (n_48 : Int),
 ∃ (n_49 : Int),
 ∃ (n_50 : Int),
 ∃ (n_51 : Int),
 ∃ (n_52 : Int),
 ∃ (n_53 : Int),
 ∃ (n_54 : Int),
 ∃ (n_55 : Int),
 ∃ (n_56 : Int),
 ∃ (n_57 : Int),
 ∃ (n_58 : Int),
 ∃ (n_59 : Int),
 ∃ (n_60 : Int),
 ∃ (n_61 : Int),
 ∃ (n_62 : Int),
 ∃ (n_63 : Int),
 ∃ (n_64 : Int),
 ∃ (n_65 : Int),
 ∃ (n_66 : Int),
 ∃ (n_67 : Int),
 ∃ (n_68 : Int),
 ∃ (n_69 : Int),
 ∃ (n_70 : Int),
 ∃ (n_71 : Int),
 ∃ (n_72 : Int),
 ∃ (n_73 : Int),
 (plainA (some (Addr.mk h'.next 0 none)) = true ∧
 h'_4.cellsAt h'.next 0 35 =
 some
 [Value.int IntKind.u32 n_39, Value.int IntKind.u8 n_40, Value.int IntKind.u8 n_41, Value.int IntKind.u8 n_42, Value.int IntKind.u8 n_43, Value.int IntKind.u8 n_44, Value.int IntKind.u8 n_45,
 Value.int IntKind.u8 n_46, Value.int IntKind.u8 n_47, Value.int IntKind.u8 n_48, Value.int IntKind.u8 n_49, Value.int IntKind.u8 n_50, Value.int IntKind.u8 n_51, Value.int IntKind.u8 n_52,
 Value.int IntKind.u8 n_53, Value.int IntKind.u8 n_54, Value.int IntKind.u8 n_55, Value.int IntKind.u8 n_56, Value.int IntKind.u8 n_57, Value.int IntKind.u8 n_58, Value.int IntKind.u8 n_59,
 Value.int IntKind.u8 n_60, Value.int IntKind.u8 n_61, Value.int IntKind.u8 n_62, Value.int IntKind.u8 n_63, Value.int IntKind.u8 n_64, Value.int IntKind.u8 n_65, Value.int IntKind.u8 n_66,
 Value.int IntKind.u8 n_67, Value.int IntKind.u8 n_68, Value.int IntKind.u8 n_69, Value.int IntKind.u8 n_70, Value.int IntKind.u8 n_71, Value.int IntKind.u64 n_72, Value.int IntKind.u64 n_73]) ∧
 C 23
 [Value.agg (Array.mk [Value.int IntKind.i64 n_37, Value.int IntKind.i64 n_38]), Value.nilIface,
 Value.agg
 (Array.mk
 [Value.int IntKind.u32 n_39, Value.int IntKind.u8 n_40, Value.int IntKind.u8 n_41, Value.int IntKind.u8 n_42, Value.int IntKind.u8 n_43, Value.int IntKind.u8 n_44, Value.int IntKind.u8 n_45,
 Value.int IntKind.u8 n_46, Value.int IntKind.u8 n_47, Value.int IntKind.u8 n_48, Value.int IntKind.u8 n_49, Value.int IntKind.u8 n_50, Value.int IntKind.u8 n_51, Value.int IntKind.u8 n_52,
 Value.int IntKind.u8 n_53, Value.int IntKind.u8 n_54, Value.int IntKind.u8 n_55, Value.int IntKind.u8 n_56, Value.int IntKind.u8 n_57, Value.int IntKind.u8 n_58, Value.int IntKind.u8 n_59,
 Value.int IntKind.u8 n_60, Value.int IntKind.u8 n_61, Value.int IntKind.u8 n_62, Value.int IntKind.u8 n_63, Value.int IntKind.u8 n_64, Value.int IntKind.u8 n_65, Value.int IntKind.u8 n_66,
 Value.int IntKind.u8 n_67, Value.int IntKind.u8 n_68, Value.int IntKind.u8 n_69, Value.int IntKind.u8 n_70, Value.int IntKind.u8 n_71, Value.int IntKind.u64 n_72, Value.int IntKind.u64 n_73])]
 h'_4 fun (v : Value) (h'_5 : Hp) =>
 ∃ (a_1 : Option Addr),
 ∃ (n_74 : Int),
 v = Value.tuple (Array.mk [Value.pointer a_1, Value.int IntKind.i64 n_74]) ∧
 ∃ (n_75 : Int),
 ∃ (n_76 : Int),
 (plainA (some (Addr.mk h.next 0 none)) = true ∧ h'_5.cellsAt h.next 0 2 = some [Value.int IntKind.i64 n_75, Value.int IntKind.i64 n_76]) ∧
 C 24 [Value.agg (Array.mk [Value.int IntKind.i64 n_75, Value.int IntKind.i64 n_76])] h'_5 fun (v : Value) (h'_6 : Hp) =>
 ∃ (b : Bool),
 v = Value.bool b ∧
 if notB b = true then K (Value.bool (sel (sel (sel (isN a) (isN a_1) false) (eqI n 2) false) (eqI n_74 2) false)) h'_6
 else
 if sel (notB (isN a_1)) true (neI n_74 1) = true then K (Value.bool false) h'_6
 else
 ∃ (n_77 : Int),
 ∃ (n_78 : Int),
 (plainA (some (Addr.mk h.next 0 none)) = true ∧ h'_6.cellsAt h.next 0 2 = some [Value.int IntKind.i64 n_77, Value.int IntKind.i64 n_78]) ∧
 C 25 [Value.agg (Array.mk [Value.int IntKind.i64 n_77, Value.int IntKind.i64 n_78]), Value.slice none 0 0, Value.int IntKind.u64 0] h'_6 fun (v : Value) (h'_7 : Hp) =>
 ∃ (n_79 : Int),
 ∃ (n_80 : Int),
 ∃ (n_81 : Int),
 ∃ (a_2 : Option Addr),
 ∃ (l : Nat),
 ∃ (c : Nat),
 ∃ (a_3 : Option Addr),
 ∃ (l_1 : Nat),
 ∃ (c_1 : Nat),
 v = Value.agg (Array.mk [Value.int IntKind.i64 n_79, Value.int IntKind.i64 n_80, Value.int IntKind.u64 n_81, Value.slice a_2 l c, Value.slice a_3 l_1 c_1]) ∧
 ∀ (h'_8 : Hp),
 h'_8 =
 h'_7.alloc
 [Value.int IntKind.i64 (Int.ofNat 0), Value.int IntKind.i64 (Int.ofNat 0), Value.int IntKind.u64 (Int.ofNat 0), Value.slice none 0 0, Value.slice none 0 0]
 74 →
 plainA (some (Addr.mk h'_7.next 0 none)) = true ∧
 ∃ (h'_9 : Hp),
 h'_8.store h'_7.next 0 [Value.int IntKind.i64 n_79, Value.int IntKind.i64 n_80, Value.int IntKind.u64 n_81, Value.slice a_2 l c, Value.slice a_3 l_1 c_1] =
 some h'_9 ∧
 plainA (some (Addr.mk h.next 0 none)) = true ∧
 ∃ (n_82 : Int),
 (plainA (some (Addr.mk h.next 1 none)) = true ∧ h'_9.cellsAt h.next 1 1 = some [Value.int IntKind.i64 n_82]) ∧
 ∃ (I : List Value → Nat → Hp → Prop),
 (∃ (m : Nat), I [Value.bool true, Value.int IntKind.i64 n_82] m h'_9) ∧
 ∀ (b : Bool) (n_83 : Int) (m : Nat) (h : Hp),
 I [Value.bool b, Value.int IntKind.i64 n_83] m h →
 if ltI n_83 32 = true then
 (b = true → plainA (some (Addr.mk h'.next 0 none)) = true) ∧
 (b = true → plainA (some (Addr.mk h'.next 1 none)) = true ∧ inR n_83 32) ∧
 ∃ (n : Int),
 (b = true →
 plainA (some (Addr.mk h'.next (plusI 1 n_83 1) none)) = true ∧
 h.cellsAt h'.next (plusI 1 n_83 1) 1 = some [Value.int IntKind.u8 n]) ∧
 ∃ (m' : Nat), lessN m' m ∧ I [Value.bool (sel b (eqI n 0) false), Value.int IntKind.i64 (addW IntKind.i64 n_83 1)] m' h
 else
 ∃ (n_84 : Int),
 ∃ (n_85 : Int),
 ∃ (n_86 : Int),
 ∃ (n_87 : Int),
 ∃ (n_88 : Int),
 ∃ (n_89 : Int),
 ∃ (n_90 : Int),
 ∃ (n_91 : Int),
 ∃ (n_92 : Int),
 ∃ (n_93 : Int),
 ∃ (n_94 : Int),
 ∃ (n_95 : Int),
 ∃ (n_96 : Int),
 ∃ (n_97 : Int),
 ∃ (n_98 : Int),
 ∃ (n_99 : Int),
 ∃ (n_100 : Int),
 ∃ (n_101 : Int),
 ∃ (n_102 : Int),
 ∃ (n_103 : Int),
 ∃ (n_104 : Int),
 ∃ (n_105 : Int),
 ∃ (n_106 : Int),
 ∃ (n_107 : Int),
 ∃ (n_108 : Int),
 ∃ (n_109 : Int),
 ∃ (n_110 : Int),
 ∃ (n_111 : Int),
 ∃ (n_112 : Int),
 ∃ (n_113 : Int),
 ∃ (n_114 : Int),
 ∃ (n_115 : Int),
 ∃ (n_116 : Int),
 ∃ (n_117 : Int),
 ∃ (n_118 : Int),
 (plainA (some (Addr.mk h'.next 0 none)) = true ∧
 h.cellsAt h'.next 0 35 =
 some
 [Value.int IntKind.u32 n_84, Value.int IntKind.u8 n_85,
 Value.int IntKind.u8 n_86, Value.int IntKind.u8 n_87,
 Value.int IntKind.u8 n_88, Value.int IntKind.u8 n_89,
 Value.int IntKind.u8 n_90, Value.int IntKind.u8 n_91,
 Value.int IntKind.u8 n_92, Value.int IntKind.u8 n_93,
 Value.int IntKind.u8 n_94, Value.int IntKind.u8 n_95,
 Value.int IntKind.u8 n_96, Value.int IntKind.u8 n_97,
 Value.int IntKind.u8 n_98, Value.int IntKind.u8 n_99,
 Value.int IntKind.u8 n_100, Value.int IntKind.u8 n_101,
 Value.int IntKind.u8 n_102, Value.int IntKind.u8 n_103,
 Value.int IntKind.u8 n_104, Value.int IntKind.u8 n_105,
 Value.int IntKind.u8 n_106, Value.int IntKind.u8 n_107,
 Value.int IntKind.u8 n_108, Value.int IntKind.u8 n_109,
 Value.int IntKind.u8 n_110, Value.int IntKind.u8 n_111,
 Value.int IntKind.u8 n_112, Value.int IntKind.u8 n_113,
 Value.int IntKind.u8 n_114, Value.int IntKind.u8 n_115,
 Value.int IntKind.u8 n_116, Value.int IntKind.u64 n_117,
 Value.int IntKind.u64 n_118]) ∧
 ∃ (n_119 : Int),
 ∃ (n_120 : Int),
 ∃ (n_121 : Int),
 ∃ (a_6 : Option Addr),
 ∃ (l : Nat),
 ∃ (c : Nat),
 ∃ (a_7 : Option Addr),
 ∃ (l_2 : Nat),
 ∃ (c_2 : Nat),
 (plainA (some (Addr.mk h'_7.next 0 none)) =
 true ∧
 h.cellsAt h'_7.next 0 5 =
 some
 [Value.int IntKind.i64 n_119,
 Value.int IntKind.i64 n_120,
 Value.int IntKind.u64 n_121,
 Value.slice a_6 l c,
 Value.slice a_7 l_2 c_2]) ∧
 C 26
 [Value.agg
 (Array.mk
 [Value.int IntKind.i64 n_119,
 Value.int IntKind.i64 n_120,
 Value.int IntKind.u64 n_121,
 Value.slice a_6 l c,
 Value.slice a_7 l_2 c_2])]
 h fun (v : Value) (h'_10 : Hp) =>
 ∃ (n_122 : Int),
 ∃ (n_123 : Int),
 ∃ (n_124 : Int),
 ∃ (n_125 : Int),
 ∃ (n_126 : Int),
 ∃ (n_127 : Int),
 ∃ (n_128 : Int),
 ∃ (n_129 : Int),
 ∃ (n_130 : Int),
 ∃ (n_131 : Int),
 ∃ (n_132 : Int),
 ∃ (n_133 : Int),
 ∃ (n_134 : Int),
 ∃ (n_135 : Int),
 ∃ (n_136 : Int),
 ∃ (n_137 :
 Int),
 ∃ (n_138 :
 Int),
 ∃ (n_139 :
 Int),
 ∃ (n_140
 :
 Int),
 ∃
 (n_141
 :
 Int),
 ∃
 (n_142
 :
 Int),
 ∃
 (n_143
 :
 Int),
 ∃
 (n_144
 :
 Int),
 ∃
 (n_145
 :
 Int),
 ∃
 (n_146
 :
 Int),
 ∃
 (n_147
 :
 Int),
 ∃
 (n_148
 :
 Int),
 ∃
 (n_149
 :
 Int),
 ∃
 (n_150
 :
 Int),
 ∃
 (n_151
 :
 Int),
 ∃
 (n_152
 :
 Int),
 ∃
 (n_153
 :
 Int),
 ∃
 (n_154
 :
 Int),
 ∃
 (n_155
 :
 Int),
 ∃
 (n_156
 :
 Int),
 v =
 Value.agg
 (Array.mk
 [Value.int
 IntKind.u32
 n_122,
 Value.int
 IntKind.u8
 n_123,
 Value.int
 IntKind.u8
 n_124,
 Value.int
 IntKind.u8
 n_125,
 Value.int
 IntKind.u8
 n_126,
 Value.int
 IntKind.u8
 n_127,
 Value.int
 IntKind.u8
 n_128,
 Value.int
 IntKind.u8
 n_129,
 Value.int
 IntKind.u8
 n_130,
 Value.int
 IntKind.u8
 n_131,
 Value.int
 IntKind.u8
 n_132,
 Value.int
 IntKind.u8
 n_133,
 Value.int
 IntKind.u8
 n_134,
 Value.int
 IntKind.u8
 n_135,
 Value.int
 IntKind.u8
 n_136,
 Value.int
 IntKind.u8
 n_137,
 Value.int
 IntKind.u8
 n_138,
 Value.int
 IntKind.u8
 n_139,
 Value.int
 IntKind.u8
 n_140,
 Value.int
 IntKind.u8
 n_141,
 Value.int
 IntKind.u8
 n_142,
 Value.int
 IntKind.u8
 n_143,
 Value.int
 IntKind.u8
 n_144,
 Value.int
 IntKind.u8
 n_145,
 Value.int
 IntKind.u8
 n_146,
 Value.int
 IntKind.u8
 n_147,
 Value.int
 IntKind.u8
 n_148,
 Value.int
 IntKind.u8
 n_149,
 Value.int
 IntKind.u8
 n_150,
 Value.int
 IntKind.u8
 n_151,
 Value.int
 IntKind.u8
 n_152,
 Value.int
 IntKind.u8
 n_153,
 Value.int
 IntKind.u8
 n_154,
 Value.int
 IntKind.u64
 n_155,
 Value.int
 IntKind.u64
 n_156]) ∧
 (plainA
 (some
 (Addr.mk
 h'.next
 0
 none)) =
 true ∧
 h'_10.cellsAt
 h'.next
 0
 35 =
 some
 [Value.int
 IntKind.u32
 n_84,
 Value.int
 IntKind.u8
 n_85,
 Value.int
 IntKind.u8
 n_86,
 Value.int
 IntKind.u8
 n_87,
 Value.int
 IntKind.u8
 n_88,
 Value.int
 IntKind.u8
 n_89,
 Value.int
 IntKind.u8
 n_90,
 Value.int
 IntKind.u8
 n_91,
 Value.int
 IntKind.u8
 n_92,
 Value.int
 IntKind.u8
 n_93,
 Value.int
 IntKind.u8
 n_94,
 Value.int
 IntKind.u8
 n_95,
 Value.int
 IntKind.u8
 n_96,
 Value.int
 IntKind.u8
 n_97,
 Value.int
 IntKind.u8
 n_98,
 Value.int
 IntKind.u8
 n_99,
 Value.int
 IntKind.u8
 n_100,
 Value.int
 IntKind.u8
 n_101,
 Value.int
 IntKind.u8
 n_102,
 Value.int
 IntKind.u8
 n_103,
 Value.int
 IntKind.u8
 n_104,
 Value.int
 IntKind.u8
 n_105,
 Value.int
 IntKind.u8
 n_106,
 Value.int
 IntKind.u8
 n_107,
 Value.int
 IntKind.u8
 n_108,
 Value.int
 IntKind.u8
 n_109,
 Value.int
 IntKind.u8
 n_110,
 Value.int
 IntKind.u8
 n_111,
 Value.int
 IntKind.u8
 n_112,
 Value.int
 IntKind.u8
 n_113,
 Value.int
 IntKind.u8
 n_114,
 Value.int
 IntKind.u8
 n_115,
 Value.int
 IntKind.u8
 n_116,
 Value.int
 IntKind.u64
 n_117,
 Value.int
 IntKind.u64
 n_118]) ∧
 (notB
 (andB
 (eqI
 n_84
 n_122)
 (andB
 (andB
 (eqI
 n_85
 n_123)
 (andB
 (eqI
 n_86
 n_124)
 (andB
 (eqI
 n_87
 n_125)
 (andB
 (eqI
 n_88
 n_126)
 (andB
 (eqI
 n_89
 n_127)
 (andB
 (eqI
 n_90
 n_128)
 (andB
 (eqI
 n_91
 n_129)
 (andB
 (eqI
 n_92
 n_130)
 (andB
 (eqI
 n_93
 n_131)
 (andB
 (eqI
 n_94
 n_132)
 (andB
 (eqI
 n_95
 n_133)
 (andB
 (eqI
 n_96
 n_134)
 (andB
 (eqI
 n_97
 n_135)
 (andB
 (eqI
 n_98
 n_136)
 (andB
 (eqI
 n_99
 n_137)
 (andB
 (eqI
 n_100
 n_138)
 (andB
 (eqI
 n_101
 n_139)
 (andB
 (eqI
 n_102
 n_140)
 (andB
 (eqI
 n_103
 n_141)
 (andB
 (eqI
 n_104
 n_142)
 (andB
 (eqI
 n_105
 n_143)
 (andB
 (eqI
 n_106
 n_144)
 (andB
 (eqI
 n_107
 n_145)
 (andB
 (eqI
 n_108
 n_146)
 (andB
 (eqI
 n_109
 n_147)
 (andB
 (eqI
 n_110
 n_148)
 (andB
 (eqI
 n_111
 n_149)
 (andB
 (eqI
 n_112
 n_150)
 (andB
 (eqI
 n_113
 n_151)
 (andB
 (eqI
 n_114
 n_152)
 (andB
 (eqI
 n_115
 n_153)
 (andB
 (eqI
 n_116
 n_154)
 true))))))))))))))))))))))))))))))))
 (andB
 (eqI
 n_117
 n_155)
 (andB
 (eqI
 n_118
 n_156)
 true)))) =
 true →
 plainA
 (some
 (Addr.mk
 h'.next
 0
 none)) =
 true) ∧
 ∃
 (n_157
 :
 Int),
 (notB
 (andB
 (eqI
 n_84
 n_122)
 (andB
 (andB
 (eqI
 n_85
 n_123)
 (andB
 (eqI
 n_86
 n_124)
 (andB
 (eqI
 n_87
 n_125)
 (andB
 (eqI
 n_88
 n_126)
 (andB
 (eqI
 n_89
 n_127)
 (andB
 (eqI
 n_90
 n_128)
 (andB
 (eqI
 n_91
 n_129)
 (andB
 (eqI
 n_92
 n_130)
 (andB
 (eqI
 n_93
 n_131)
 (andB
 (eqI
 n_94
 n_132)
 (andB
 (eqI
 n_95
 n_133)
 (andB
 (eqI
 n_96
 n_134)
 (andB
 (eqI
 n_97
 n_135)
 (andB
 (eqI
 n_98
 n_136)
 (andB
 (eqI
 n_99
 n_137)
 (andB
 (eqI
 n_100
 n_138)
 (andB
 (eqI
 n_101
 n_139)
 (andB
 (eqI
 n_102
 n_140)
 (andB
 (eqI
 n_103
 n_141)
 (andB
 (eqI
 n_104
 n_142)
 (andB
 (eqI
 n_105
 n_143)
 (andB
 (eqI
 n_106
 n_144)
 (andB
 (eqI
 n_107
 n_145)
 (andB
 (eqI
 n_108
 n_146)
 (andB
 (eqI
 n_109
 n_147)
 (andB
 (eqI
 n_110
 n_148)
 (andB
 (eqI
 n_111
 n_149)
 (andB
 (eqI
 n_112
 n_150)
 (andB
 (eqI
 n_113
 n_151)
 (andB
 (eqI
 n_114
 n_152)
 (andB
 (eqI
 n_115
 n_153)
 (andB
 (eqI
 n_116
 n_154)
 true))))))))))))))))))))))))))))))))
 (andB
 (eqI
 n_117
 n_155)
 (andB
 (eqI
 n_118
 n_156)
 true)))) =
 true →
 plainA
 (some
 (Addr.mk
 h'.next
 0
 none)) =
 true ∧
 h'_10.cellsAt
 h'.next
 0
 1 =
 some
 [Value.int
 IntKind.u32
 n_157]) ∧
 (andB
 (geI
 n_157
 2)
 (notB
 (andB
 (eqI
 n_84
 n_122)
 (andB
 (andB
 (eqI
 n_85
 n_123)
 (andB
 (eqI
 n_86
 n_124)
 (andB
 (eqI
 n_87
 n_125)
 (andB
 (eqI
 n_88
 n_126)
 (andB
 (eqI
 n_89
 n_127)
 (andB
 (eqI
 n_90
 n_128)
 (andB
 (eqI
 n_91
 n_129)
 (andB
 (eqI
 n_92
 n_130)
 (andB
 (eqI
 n_93
 n_131)
 (andB
 (eqI
 n_94
 n_132)
 (andB
 (eqI
 n_95
 n_133)
 (andB
 (eqI
 n_96
 n_134)
 (andB
 (eqI
 n_97
 n_135)
 (andB
 (eqI
 n_98
 n_136)
 (andB
 (eqI
 n_99
 n_137)
 (andB
 (eqI
 n_100
 n_138)
 (andB
 (eqI
 n_101
 n_139)
 (andB
 (eqI
 n_102
 n_140)
 (andB
 (eqI
 n_103
 n_141)
 (andB
 (eqI
 n_104
 n_142)
 (andB
 (eqI
 n_105
 n_143)
 (andB
 (eqI
 n_106
 n_144)
 (andB
 (eqI
 n_107
 n_145)
 (andB
 (eqI
 n_108
 n_146)
 (andB
 (eqI
 n_109
 n_147)
 (andB
 (eqI
 n_110
 n_148)
 (andB
 (eqI
 n_111
 n_149)
 (andB
 (eqI
 n_112
 n_150)
 (andB
 (eqI
 n_113
 n_151)
 (andB
 (eqI
 n_114
 n_152)
 (andB
 (eqI
 n_115
 n_153)
 (andB
 (eqI
 n_116
 n_154)
 true))))))))))))))))))))))))))))))))
 (andB
 (eqI
 n_117
 n_155)
 (andB
 (eqI
 n_118
 n_156)
 true))))) =
 true →
 plainA
 (some
 (Addr.mk
 h'.next
 0
 none)) =
 true) ∧
 ∃
 (n_158
 :
 Int),
 (andB
 (geI
 n_157
 2)
 (notB
 (andB
 (eqI
 n_84
 n_122)
 (andB
 (andB
 (eqI
 n_85
 n_123)
 (andB
 (eqI
 n_86
 n_124)
 (andB
 (eqI
 n_87
 n_125)
 (andB
 (eqI
 n_88
 n_126)
 (andB
 (eqI
 n_89
 n_127)
 (andB
 (eqI
 n_90
 n_128)
 (andB
 (eqI
 n_91
 n_129)
 (andB
 (eqI
 n_92
 n_130)
 (andB
 (eqI
 n_93
 n_131)
 (andB
 (eqI
 n_94
 n_132)
 (andB
 (eqI
 n_95
 n_133)
 (andB
 (eqI
 n_96
 n_134)
 (andB
 (eqI
 n_97
 n_135)
 (andB
 (eqI
 n_98
 n_136)
 (andB
 (eqI
 n_99
 n_137)
 (andB
 (eqI
 n_100
 n_138)
 (andB
 (eqI
 n_101
 n_139)
 (andB
 (eqI
 n_102
 n_140)
 (andB
 (eqI
 n_103
 n_141)
 (andB
 (eqI
 n_104
 n_142)
 (andB
 (eqI
 n_105
 n_143)
 (andB
 (eqI
 n_106
 n_144)
 (andB
 (eqI
 n_107
 n_145)
 (andB
 (eqI
 n_108
 n_146)
 (andB
 (eqI
 n_109
 n_147)
 (andB
 (eqI
 n_110
 n_148)
 (andB
 (eqI
 n_111
 n_149)
 (andB
 (eqI
 n_112
 n_150)
 (andB
 (eqI
 n_113
 n_151)
 (andB
 (eqI
 n_114
 n_152)
 (andB
 (eqI
 n_115
 n_153)
 (andB
 (eqI
 n_116
 n_154)
 true))))))))))))))))))))))))))))))))
 (andB
 (eqI
 n_117
 n_155)
 (andB
 (eqI
 n_118
 n_156)
 true))))) =
 true →
 plainA
 (some
 (Addr.mk
 h'.next
 0
 none)) =
 true ∧
 h'_10.cellsAt
 h'.next
 0
 1 =
 some
 [Value.int
 IntKind.u32
 n_158]) ∧
 (andB
 (sel
 (geI
 n_157
 2)
 (ltI
 n_158
 2147483648)
 false)
 (notB
 (andB
 (eqI
 n_84
 n_122)
 (andB
 (andB
 (eqI
 n_85
 n_123)
 (andB
 (eqI
 n_86
 n_124)
 (andB
 (eqI
 n_87
 n_125)
 (andB
 (eqI
 n_88
 n_126)
 (andB
 (eqI
 n_89
 n_127)
 (andB
 (eqI
 n_90
 n_128)
 (andB
 (eqI
 n_91
 n_129)
 (andB
 (eqI
 n_92
 n_130)
 (andB
 (eqI
 n_93
 n_131)
 (andB
 (eqI
 n_94
 n_132)
 (andB
 (eqI
 n_95
 n_133)
 (andB
 (eqI
 n_96
 n_134)
 (andB
 (eqI
 n_97
 n_135)
 (andB
 (eqI
 n_98
 n_136)
 (andB
 (eqI
 n_99
 n_137)
 (andB
 (eqI
 n_100
 n_138)
 (andB
 (eqI
 n_101
 n_139)
 (andB
 (eqI
 n_102
 n_140)
 (andB
 (eqI
 n_103
 n_141)
 (andB
 (eqI
 n_104
 n_142)
 (andB
 (eqI
 n_105
 n_143)
 (andB
 (eqI
 n_106
 n_144)
 (andB
 (eqI
 n_107
 n_145)
 (andB
 (eqI
 n_108
 n_146)
 (andB
 (eqI
 n_109
 n_147)
 (andB
 (eqI
 n_110
 n_148)
 (andB
 (eqI
 n_111
 n_149)
 (andB
 (eqI
 n_112
 n_150)
 (andB
 (eqI
 n_113
 n_151)
 (andB
 (eqI
 n_114
 n_152)
 (andB
 (eqI
 n_115
 n_153)
 (andB
 (eqI
 n_116
 n_154)
 true))))))))))))))))))))))))))))))))
 (andB
 (eqI
 n_117
 n_155)
 (andB
 (eqI
 n_118
 n_156)
 true))))) =
 true →
 plainA
 (some
 (Addr.mk
 h'.next
 0
 none)) =
 true) ∧
 ∃
 (n_159
 :
 Int),
 (andB
 (sel
 (geI
 n_157
 2)
 (ltI
 n_158
 2147483648)
 false)
 (notB
 (andB
 (eqI
 n_84
 n_122)
 (andB
 (andB
 (eqI
 n_85
 n_123)
 (andB
 (eqI
 n_86
 n_124)
 (andB
 (eqI
 n_87
 n_125)
 (andB
 (eqI
 n_88
 n_126)
 (andB
 (eqI
 n_89
 n_127)
 (andB
 (eqI
 n_90
 n_128)
 (andB
 (eqI
 n_91
 n_129)
 (andB
 (eqI
 n_92
 n_130)
 (andB
 (eqI
 n_93
 n_131)
 (andB
 (eqI
 n_94
 n_132)
 (andB
 (eqI
 n_95
 n_133)
 (andB
 (eqI
 n_96
 n_134)
 (andB
 (eqI
 n_97
 n_135)
 (andB
 (eqI
 n_98
 n_136)
 (andB
 (eqI
 n_99
 n_137)
 (andB
 (eqI
 n_100
 n_138)
 (andB
 (eqI
 n_101
 n_139)
 (andB
 (eqI
 n_102
 n_140)
 (andB
 (eqI
 n_103
 n_141)
 (andB
 (eqI
 n_104
 n_142)
 (andB
 (eqI
 n_105
 n_143)
 (andB
 (eqI
 n_106
 n_144)
 (andB
 (eqI
 n_107
 n_145)
 (andB
 (eqI
 n_108
 n_146)
 (andB
 (eqI
 n_109
 n_147)
 (andB
 (eqI
 n_110
 n_148)
 (andB
 (eqI
 n_111
 n_149)
 (andB
 (eqI
 n_112
 n_150)
 (andB
 (eqI
 n_113
 n_151)
 (andB
 (eqI
 n_114
 n_152)
 (andB
 (eqI
 n_115
 n_153)
 (andB
 (eqI
 n_116
 n_154)
 true))))))))))))))))))))))))))))))))
 (andB
 (eqI
 n_117
 n_155)
 (andB
 (eqI
 n_118
 n_156)
 true))))) =
 true →
 plainA
 (some
 (Addr.mk
 h'.next
 33
 none)) =
 true ∧
 h'_10.cellsAt
 h'.next
 33
 1 =
 some
 [Value.int
 IntKind.u64
 n_159]) ∧
 (andB
 (sel
 (sel
 (geI
 n_157
 2)
 (ltI
 n_158
 2147483648)
 false)
 (gtI
 n_159
 0)
 false)
 (notB
 (andB
 (eqI
 n_84
 n_122)
 (andB
 (andB
 (eqI
 n_85
 n_123)
 (andB
 (eqI
 n_86
 n_124)
 (andB
 (eqI
 n_87
 n_125)
 (andB
 (eqI
 n_88
 n_126)
 (andB
 (eqI
 n_89
 n_127)
 (andB
 (eqI
 n_90
 n_128)
 (andB
 (eqI
 n_91
 n_129)
 (andB
 (eqI
 n_92
 n_130)
 (andB
 (eqI
 n_93
 n_131)
 (andB
 (eqI
 n_94
 n_132)
 (andB
 (eqI
 n_95
 n_133)
 (andB
 (eqI
 n_96
 n_134)
 (andB
 (eqI
 n_97
 n_135)
 (andB
 (eqI
 n_98
 n_136)
 (andB
 (eqI
 n_99
 n_137)
 (andB
 (eqI
 n_100
 n_138)
 (andB
 (eqI
 n_101
 n_139)
 (andB
 (eqI
 n_102
 n_140)
 (andB
 (eqI
 n_103
 n_141)
 (andB
 (eqI
 n_104
 n_142)
 (andB
 (eqI
 n_105
 n_143)
 (andB
 (eqI
 n_106
 n_144)
 (andB
 (eqI
 n_107
 n_145)
 (andB
 (eqI
 n_108
 n_146)
 (andB
 (eqI
 n_109
 n_147)
 (andB
 (eqI
 n_110
 n_148)
 (andB
 (eqI
 n_111
 n_149)
 (andB
 (eqI
 n_112
 n_150)
 (andB
 (eqI
 n_113
 n_151)
 (andB
 (eqI
 n_114
 n_152)
 (andB
 (eqI
 n_115
 n_153)
 (andB
 (eqI
 n_116
 n_154)
 true))))))))))))))))))))))))))))))))
 (andB
 (eqI
 n_117
 n_155)
 (andB
 (eqI
 n_118
 n_156)
 true))))) =
 true →
 plainA
 (some
 (Addr.mk
 h'.next
 0
 none)) =
 true) ∧
 ∃
 (n_160
 :
 Int),
 (andB
 (sel
 (sel
 (geI
 n_157
 2)
 (ltI
 n_158
 2147483648)
 false)
 (gtI
 n_159
 0)
 false)
 (notB
 (andB
 (eqI
 n_84
 n_122)
 (andB
 (andB
 (eqI
 n_85
 n_123)
 (andB
 (eqI
 n_86
 n_124)
 (andB
 (eqI
 n_87
 n_125)
 (andB
 (eqI
 n_88
 n_126)
 (andB
 (eqI
 n_89
 n_127)
 (andB
 (eqI
 n_90
 n_128)
 (andB
 (eqI
 n_91
 n_129)
 (andB
 (eqI
 n_92
 n_130)
 (andB
 (eqI
 n_93
 n_131)
 (andB
 (eqI
 n_94
 n_132)
 (andB
 (eqI
 n_95
 n_133)
 (andB
 (eqI
 n_96
 n_134)
 (andB
 (eqI
 n_97
 n_135)
 (andB
 (eqI
 n_98
 n_136)
 (andB
 (eqI
 n_99
 n_137)
 (andB
 (eqI
 n_100
 n_138)
 (andB
 (eqI
 n_101
 n_139)
 (andB
 (eqI
 n_102
 n_140)
 (andB
 (eqI
 n_103
 n_141)
 (andB
 (eqI
 n_104
 n_142)
 (andB
 (eqI
 n_105
 n_143)
 (andB
 (eqI
 n_106
 n_144)
 (andB
 (eqI
 n_107
 n_145)
 (andB
 (eqI
 n_108
 n_146)
 (andB
 (eqI
 n_109
 n_147)
 (andB
 (eqI
 n_110
 n_148)
 (andB
 (eqI
 n_111
 n_149)
 (andB
 (eqI
 n_112
 n_150)
 (andB
 (eqI
 n_113
 n_151)
 (andB
 (eqI
 n_114
 n_152)
 (andB
 (eqI
 n_115
 n_153)
 (andB
 (eqI
 n_116
 n_154)
 true))))))))))))))))))))))))))))))))
 (andB
 (eqI
 n_117
 n_155)
 (andB
 (eqI
 n_118
 n_156)
 true))))) =
 true →
 plainA
 (some
 (Addr.mk
 h'.next
 34
 none)) =
 true ∧
 h'_10.cellsAt
 h'.next
 34
 1 =
 some
 [Value.int
 IntKind.u64
 n_160]) ∧
 (andB
 (sel
 (sel
 (sel
 (geI
 n_157
 2)
 (ltI
 n_158
 2147483648)
 false)
 (gtI
 n_159
 0)
 false)
 (geI
 n_160
 1)
 false)
 (notB
 (andB
 (eqI
 n_84
 n_122)
 (andB
 (andB
 (eqI
 n_85
 n_123)
 (andB
 (eqI
 n_86
 n_124)
 (andB
 (eqI
 n_87
 n_125)
 (andB
 (eqI
 n_88
 n_126)
 (andB
 (eqI
 n_89
 n_127)
 (andB
 (eqI
 n_90
 n_128)
 (andB
 (eqI
 n_91
 n_129)
 (andB
 (eqI
 n_92
 n_130)
 (andB
 (eqI
 n_93
 n_131)
 (andB
 (eqI
 n_94
 n_132)
 (andB
 (eqI
 n_95
 n_133)
 (andB
 (eqI
 n_96
 n_134)
 (andB
 (eqI
 n_97
 n_135)
 (andB
 (eqI
 n_98
 n_136)
 (andB
 (eqI
 n_99
 n_137)
 (andB
 (eqI
 n_100
 n_138)
 (andB
 (eqI
 n_101
 n_139)
 (andB
 (eqI
 n_102
 n_140)
 (andB
 (eqI
 n_103
 n_141)
 (andB
 (eqI
 n_104
 n_142)
 (andB
 (eqI
 n_105
 n_143)
 (andB
 (eqI
 n_106
 n_144)
 (andB
 (eqI
 n_107
 n_145)
 (andB
 (eqI
 n_108
 n_146)
 (andB
 (eqI
 n_109
 n_147)
 (andB
 (eqI
 n_110
 n_148)
 (andB
 (eqI
 n_111
 n_149)
 (andB
 (eqI
 n_112
 n_150)
 (andB
 (eqI
 n_113
 n_151)
 (andB
 (eqI
 n_114
 n_152)
 (andB
 (eqI
 n_115
 n_153)
 (andB
 (eqI
 n_116
 n_154)
 true))))))))))))))))))))))))))))))))
 (andB
 (eqI
 n_117
 n_155)
 (andB
 (eqI
 n_118
 n_156)
 true))))) =
 true →
 plainA
 (some
 (Addr.mk
 h'.next
 0
 none)) =
 true) ∧
 ∃
 (n_161
 :
 Int),
 (andB
 (sel
 (sel
 (sel
 (geI
 n_157
 2)
 (ltI
 n_158
 2147483648)
 false)
 (gtI
 n_159
 0)
 false)
 (geI
 n_160
 1)
 false)
 (notB
 (andB
 (eqI
 n_84
 n_122)
 (andB
 (andB
 (eqI
 n_85
 n_123)
 (andB
 (eqI
 n_86
 n_124)
 (andB
 (eqI
 n_87
 n_125)
 (andB
 (eqI
 n_88
 n_126)
 (andB
 (eqI
 n_89
 n_127)
 (andB
 (eqI
 n_90
 n_128)
 (andB
 (eqI
 n_91
 n_129)
 (andB
 (eqI
 n_92
 n_130)
 (andB
 (eqI
 n_93
 n_131)
 (andB
 (eqI
 n_94
 n_132)
 (andB
 (eqI
 n_95
 n_133)
 (andB
 (eqI
 n_96
 n_134)
 (andB
 (eqI
 n_97
 n_135)
 (andB
 (eqI
 n_98
 n_136)
 (andB
 (eqI
 n_99
 n_137)
 (andB
 (eqI
 n_100
 n_138)
 (andB
 (eqI
 n_101
 n_139)
 (andB
 (eqI
 n_102
 n_140)
 (andB
 (eqI
 n_103
 n_141)
 (andB
 (eqI
 n_104
 n_142)
 (andB
 (eqI
 n_105
 n_143)
 (andB
 (eqI
 n_106
 n_144)
 (andB
 (eqI
 n_107
 n_145)
 (andB
 (eqI
 n_108
 n_146)
 (andB
 (eqI
 n_109
 n_147)
 (andB
 (eqI
 n_110
 n_148)
 (andB
 (eqI
 n_111
 n_149)
 (andB
 (eqI
 n_112
 n_150)
 (andB
 (eqI
 n_113
 n_151)
 (andB
 (eqI
 n_114
 n_152)
 (andB
 (eqI
 n_115
 n_153)
 (andB
 (eqI
 n_116
 n_154)
 true))))))))))))))))))))))))))))))))
 (andB
 (eqI
 n_117
 n_155)
 (andB
 (eqI
 n_118
 n_156)
 true))))) =
 true →
 plainA
 (some
 (Addr.mk
 h'.next
 34
 none)) =
 true ∧
 h'_10.cellsAt
 h'.next
 34
 1 =
 some
 [Value.int
 IntKind.u64
 n_161]) ∧
 if
 notB
 (sel
 (andB
 (eqI
 n_84
 n_122)
 (andB
 (andB
 (eqI
 n_85
 n_123)
 (andB
 (eqI
 n_86
 n_124)
 (andB
 (eqI
 n_87
 n_125)
 (andB
 (eqI
 n_88
 n_126)
 (andB
 (eqI
 n_89
 n_127)
 (andB
 (eqI
 n_90
 n_128)
 (andB
 (eqI
 n_91
 n_129)
 (andB
 (eqI
 n_92
 n_130)
 (andB
 (eqI
 n_93
 n_131)
 (andB
 (eqI
 n_94
 n_132)
 (andB
 (eqI
 n_95
 n_133)
 (andB
 (eqI
 n_96
 n_134)
 (andB
 (eqI
 n_97
 n_135)
 (andB
 (eqI
 n_98
 n_136)
 (andB
 (eqI
 n_99
 n_137)
 (andB
 (eqI
 n_100
 n_138)
 (andB
 (eqI
 n_101
 n_139)
 (andB
 (eqI
 n_102
 n_140)
 (andB
 (eqI
 n_103
 n_141)
 (andB
 (eqI
 n_104
 n_142)
 (andB
 (eqI
 n_105
 n_143)
 (andB
 (eqI
 n_106
 n_144)
 (andB
 (eqI
 n_107
 n_145)
 (andB
 (eqI
 n_108
 n_146)
 (andB
 (eqI
 n_109
 n_147)
 (andB
 (eqI
 n_110
 n_148)
 (andB
 (eqI
 n_111
 n_149)
 (andB
 (eqI
 n_112
 n_150)
 (andB
 (eqI
 n_113
 n_151)
 (andB
 (eqI
 n_114
 n_152)
 (andB
 (eqI
 n_115
 n_153)
 (andB
 (eqI
 n_116
 n_154)
 true))))))))))))))))))))))))))))))))
 (andB
 (eqI
 n_117
 n_155)
 (andB
 (eqI
 n_118
 n_156)
 true))))
 true
 (sel
 (sel
 (sel
 (sel
 (sel
 (geI
 n_157
 2)
 (ltI
 n_158
 2147483648)
 false)
 (gtI
 n_159
 0)
 false)
 (geI
 n_160
 1)
 false)
 (leI
 n_161
 1099511627776)
 false)
 b
 false)) =
 true then
 K
 (Value.bool
 (sel
 (isN
 a)
 (eqI
 n
 2)
 false))
 h'_10
 else
 ∃
 (n_162
 :
 Int),
 ∃
 (n_163
 :
 Int),
 ∃
 (n_164
 :
 Int),
 ∃
 (n_165
 :
 Int),
 ∃
 (n_166
 :
 Int),
 ∃
 (n_167
 :
 Int),
 ∃
 (n_168
 :
 Int),
 ∃
 (n_169
 :
 Int),
 ∃
 (n_170
 :
 Int),
 ∃
 (n_171
 :
 Int),
 ∃
 (n_172
 :
 Int),
 ∃
 (n_173
 :
 Int),
 ∃
 (n_174
 :
 Int),
 ∃
 (n_175
 :
 Int),
 ∃
 (n_176
 :
 Int),
 ∃
 (n_177
 :
 Int),
 ∃
 (n_178
 :
 Int),
 ∃
 (n_179
 :
 Int),
 ∃
 (n_180
 :
 Int),
 ∃
 (n_181
 :
 Int),
 ∃
 (n_182
 :
 Int),
 ∃
 (n_183
 :
 Int),
 ∃
 (n_184
 :
 Int),
 ∃
 (n_185
 :
 Int),
 ∃
 (n_186
 :
 Int),
 ∃
 (n_187
 :
 Int),
 ∃
 (n_188
 :
 Int),
 ∃
 (n_189
 :
 Int),
 ∃
 (n_190
 :
 Int),
 ∃
 (n_191
 :
 Int),
 ∃
 (n_192
 :
 Int),
 ∃
 (n_193
 :
 Int),
 ∃
 (n_194
 :
 Int),
 ∃
 (n_195
 :
 Int),
 ∃
 (n_196
 :
 Int),
 (sel
 (notB
 (isN
 a))
 (eqI
 n
 0)
 false =
 true →
 plainA
 (some
 (Addr.mk
 h'.next
 0
 none)) =
 true ∧
 h'_10.cellsAt
 h'.next
 0
 35 =
 some
 [Value.int
 IntKind.u32
 n_162,
 Value.int
 IntKind.u8
 n_163,
 Value.int
 IntKind.u8
 n_164,
 Value.int
 IntKind.u8
 n_165,
 Value.int
 IntKind.u8
 n_166,
 Value.int
 IntKind.u8
 n_167,
 Value.int
 IntKind.u8
 n_168,
 Value.int
 IntKind.u8
 n_169,
 Value.int
 IntKind.u8
 n_170,
 Value.int
 IntKind.u8
 n_171,
 Value.int
 IntKind.u8
 n_172,
 Value.int
 IntKind.u8
 n_173,
 Value.int
 IntKind.u8
 n_174,
 Value.int
 IntKind.u8
 n_175,
 Value.int
 IntKind.u8
 n_176,
 Value.int
 IntKind.u8
 n_177,
 Value.int
 IntKind.u8
 n_178,
 Value.int
 IntKind.u8
 n_179,
 Value.int
 IntKind.u8
 n_180,
 Value.int
 IntKind.u8
 n_181,
 Value.int
 IntKind.u8
 n_182,
 Value.int
 IntKind.u8
 n_183,
 Value.int
 IntKind.u8
 n_184,
 Value.int
 IntKind.u8
 n_185,
 Value.int
 IntKind.u8
 n_186,
 Value.int
 IntKind.u8
 n_187,
 Value.int
 IntKind.u8
 n_188,
 Value.int
 IntKind.u8
 n_189,
 Value.int
 IntKind.u8
 n_190,
 Value.int
 IntKind.u8
 n_191,
 Value.int
 IntKind.u8
 n_192,
 Value.int
 IntKind.u8
 n_193,
 Value.int
 IntKind.u8
 n_194,
 Value.int
 IntKind.u64
 n_195,
 Value.int
 IntKind.u64
 n_196]) ∧
 ∃
 (n_197
 :
 Int),
 ∃
 (n_198
 :
 Int),
 ∃
 (n_199
 :
 Int),
 ∃
 (n_200
 :
 Int),
 ∃
 (n_201
 :
 Int),
 ∃
 (n_202
 :
 Int),
 ∃
 (n_203
 :
 Int),
 ∃
 (n_204
 :
 Int),
 ∃
 (n_205
 :
 Int),
 ∃
 (n_206
 :
 Int),
 ∃
 (n_207
 :
 Int),
 ∃
 (n_208
 :
 Int),
 ∃
 (n_209
 :
 Int),
 ∃
 (n_210
 :
 Int),
 ∃
 (n_211
 :
 Int),
 ∃
 (n_212
 :
 Int),
 ∃
 (n_213
 :
 Int),
 ∃
 (n_214
 :
 Int),
 ∃
 (n_215
 :
 Int),
 ∃
 (n_216
 :
 Int),
 ∃
 (n_217
 :
 Int),
 ∃
 (n_218
 :
 Int),
 ∃
 (n_219
 :
 Int),
 ∃
 (n_220
 :
 Int),
 ∃
 (n_221
 :
 Int),
 ∃
 (n_222
 :
 Int),
 ∃
 (n_223
 :
 Int),
 ∃
 (n_224
 :
 Int),
 ∃
 (n_225
 :
 Int),
 ∃
 (n_226
 :
 Int),
 ∃
 (n_227
 :
 Int),
 ∃
 (n_228
 :
 Int),
 ∃
 (n_229
 :
 Int),
 ∃
 (n_230
 :
 Int),
 ∃
 (n_231
 :
 Int),
 (sel
 (notB
 (isN
 a))
 (eqI
 n
 0)
 false =
 true →
 C
 27
 [Value.pointer
 a]
 h'_10
 fun
 (v :
 Value)
 (h' :
 Hp) =>
 v =
 Value.agg
 (Array.mk
 [Value.int
 IntKind.u32
 n_197,
 Value.int
 IntKind.u8
 n_198,
 Value.int
 IntKind.u8
 n_199,
 Value.int
 IntKind.u8
 n_200,
 Value.int
 IntKind.u8
 n_201,
 Value.int
 IntKind.u8
 n_202,
 Value.int
 IntKind.u8
 n_203,
 Value.int
 IntKind.u8
 n_204,
 Value.int
 IntKind.u8
 n_205,
 Value.int
 IntKind.u8
 n_206,
 Value.int
 IntKind.u8
 n_207,
 Value.int
 IntKind.u8
 n_208,
 Value.int
 IntKind.u8
 n_209,
 Value.int
 IntKind.u8
 n_210,
 Value.int
 IntKind.u8
 n_211,
 Value.int
 IntKind.u8
 n_212,
 Value.int
 IntKind.u8
 n_213,
 Value.int
 IntKind.u8
 n_214,
 Value.int
 IntKind.u8
 n_215,
 Value.int
 IntKind.u8
 n_216,
 Value.int
 IntKind.u8
 n_217,
 Value.int
 IntKind.u8
 n_218,
 Value.int
 IntKind.u8
 n_219,
 Value.int
 IntKind.u8
 n_220,
 Value.int
 IntKind.u8
 n_221,
 Value.int
 IntKind.u8
 n_222,
 Value.int
 IntKind.u8
 n_223,
 Value.int
 IntKind.u8
 n_224,
 Value.int
 IntKind.u8
 n_225,
 Value.int
 IntKind.u8
 n_226,
 Value.int
 IntKind.u8
 n_227,
 Value.int
 IntKind.u8
 n_228,
 Value.int
 IntKind.u8
 n_229,
 Value.int
 IntKind.u64
 n_230,
 Value.int
 IntKind.u64
 n_231]) ∧
 h' =
 h'_10) ∧
 (sel
 (notB
 (isN
 a))
 (eqI
 n
 0)
 false =
 true →
 plainA
 (some
 (Addr.mk
 h'.next
 0
 none)) =
 true ∧
 h'_10.cellsAt
 h'.next
 0
 35 =
 some
 [Value.int
 IntKind.u32
 n_162,
 Value.int
 IntKind.u8
 n_163,
 Value.int
 IntKind.u8
 n_164,
 Value.int
 IntKind.u8
 n_165,
 Value.int
 IntKind.u8
 n_166,
 Value.int
 IntKind.u8
 n_167,
 Value.int
 IntKind.u8
 n_168,
 Value.int
 IntKind.u8
 n_169,
 Value.int
 IntKind.u8
 n_170,
 Value.int
 IntKind.u8
 n_171,
 Value.int
 IntKind.u8
 n_172,
 Value.int
 IntKind.u8
 n_173,
 Value.int
 IntKind.u8
 n_174,
 Value.int
 IntKind.u8
 n_175,
 Value.int
 IntKind.u8
 n_176,
 Value.int
 IntKind.u8
 n_177,
 Value.int
 IntKind.u8
 n_178,
 Value.int
 IntKind.u8
 n_179,
 Value.int
 IntKind.u8
 n_180,
 Value.int
 IntKind.u8
 n_181,
 Value.int
 IntKind.u8
 n_182,
 Value.int
 IntKind.u8
 n_183,
 Value.int
 IntKind.u8
 n_184,
 Value.int
 IntKind.u8
 n_185,
 Value.int
 IntKind.u8
 n_186,
 Value.int
 IntKind.u8
 n_187,
 Value.int
 IntKind.u8
 n_188,
 Value.int
 IntKind.u8
 n_189,
 Value.int
 IntKind.u8
 n_190,
 Value.int
 IntKind.u8
 n_191,
 Value.int
 IntKind.u8
 n_192,
 Value.int
 IntKind.u8
 n_193,
 Value.int
 IntKind.u8
 n_194,
 Value.int
 IntKind.u64
 n_195,
 Value.int
 IntKind.u64
 n_196]) ∧
 ∃
 (n_232
 :
 Int),
 ∃
 (n_233
 :
 Int),
 ∃
 (n_234
 :
 Int),
 ∃
 (n_235
 :
 Int),
 ∃
 (n_236
 :
 Int),
 ∃
 (n_237
 :
 Int),
 ∃
 (n_238
 :
 Int),
 ∃
 (n_239
 :
 Int),
 ∃
 (n_240
 :
 Int),
 ∃
 (n_241
 :
 Int),
 ∃
 (n_242
 :
 Int),
 ∃
 (n_243
 :
 Int),
 ∃
 (n_244
 :
 Int),
 ∃
 (n_245
 :
 Int),
 ∃
 (n_246
 :
 Int),
 ∃
 (n_247
 :
 Int),
 ∃
 (n_248
 :
 Int),
 ∃
 (n_249
 :
 Int),
 ∃
 (n_250
 :
 Int),
 ∃
 (n_251
 :
 Int),
 ∃
 (n_252
 :
 Int),
 ∃
 (n_253
 :
 Int),
 ∃
 (n_254
 :
 Int),
 ∃
 (n_255
 :
 Int),
 ∃
 (n_256
 :
 Int),
 ∃
 (n_257
 :
 Int),
 ∃
 (n_258
 :
 Int),
 ∃
 (n_259
 :
 Int),
 ∃
 (n_260
 :
 Int),
 ∃
 (n_261
 :
 Int),
 ∃
 (n_262
 :
 Int),
 ∃
 (n_263
 :
 Int),
 ∃
 (n_264
 :
 Int),
 ∃
 (n_265
 :
 Int),
 ∃
 (n_266
 :
 Int),
 (sel
 (sel
 (notB
 (isN
 a))
 (eqI
 n
 0)
 false)
 (andB
 (eqI
 n_197
 n_162)
 (andB
 (andB
 (eqI
 n_198
 n_163)
 (andB
 (eqI
 n_199
 n_164)
 (andB
 (eqI
 n_200
 n_165)
 (andB
 (eqI
 n_201
 n_166)
 (andB
 (eqI
 n_202
 n_167)
 (andB
 (eqI
 n_203
 n_168)
 (andB
 (eqI
 n_204
 n_169)
 (andB
 (eqI
 n_205
 n_170)
 (andB
 (eqI
 n_206
 n_171)
 (andB
 (eqI
 n_207
 n_172)
 (andB
 (eqI
 n_208
 n_173)
 (andB
 (eqI
 n_209
 n_174)
 (andB
 (eqI
 n_210
 n_175)
 (andB
 (eqI
 n_211
 n_176)
 (andB
 (eqI
 n_212
 n_177)
 (andB
 (eqI
 n_213
 n_178)
 (andB
 (eqI
 n_214
 n_179)
 (andB
 (eqI
 n_215
 n_180)
 (andB
 (eqI
 n_216
 n_181)
 (andB
 (eqI
 n_217
 n_182)
 (andB
 (eqI
 n_218
 n_183)
 (andB
 (eqI
 n_219
 n_184)
 (andB
 (eqI
 n_220
 n_185)
 (andB
 (eqI
 n_221
 n_186)
 (andB
 (eqI
 n_222
 n_187)
 (andB
 (eqI
 n_223
 n_188)
 (andB
 (eqI
 n_224
 n_189)
 (andB
 (eqI
 n_225
 n_190)
 (andB
 (eqI
 n_226
 n_191)
 (andB
 (eqI
 n_227
 n_192)
 (andB
 (eqI
 n_228
 n_193)
 (andB
 (eqI
 n_229
 n_194)
 true))))))))))))))))))))))))))))))))
 (andB
 (eqI
 n_230
 n_195)
 (andB
 (eqI
 n_231
 n_196)
 true))))
 false =
 true →
 plainA
 (some
 (Addr.mk
 h'.next
 0
 none)) =
 true ∧
 h'_10.cellsAt
 h'.next
 0
 35 =
 some
 [Value.int
 IntKind.u32
 n_232,
 Value.int
 IntKind.u8
 n_233,
 Value.int
 IntKind.u8
 n_234,
 Value.int
 IntKind.u8
 n_235,
 Value.int
 IntKind.u8
 n_236,
 Value.int
 IntKind.u8
 n_237,
 Value.int
 IntKind.u8
 n_238,
 Value.int
 IntKind.u8
 n_239,
 Value.int
 IntKind.u8
 n_240,
 Value.int
 IntKind.u8
 n_241,
 Value.int
 IntKind.u8
 n_242,
 Value.int
 IntKind.u8
 n_243,
 Value.int
 IntKind.u8
 n_244,
 Value.int
 IntKind.u8
 n_245,
 Value.int
 IntKind.u8
 n_246,
 Value.int
 IntKind.u8
 n_247,
 Value.int
 IntKind.u8
 n_248,
 Value.int
 IntKind.u8
 n_249,
 Value.int
 IntKind.u8
 n_250,
 Value.int
 IntKind.u8
 n_251,
 Value.int
 IntKind.u8
 n_252,
 Value.int
 IntKind.u8
 n_253,
 Value.int
 IntKind.u8
 n_254,
 Value.int
 IntKind.u8
 n_255,
 Value.int
 IntKind.u8
 n_256,
 Value.int
 IntKind.u8
 n_257,
 Value.int
 IntKind.u8
 n_258,
 Value.int
 IntKind.u8
 n_259,
 Value.int
 IntKind.u8
 n_260,
 Value.int
 IntKind.u8
 n_261,
 Value.int
 IntKind.u8
 n_262,
 Value.int
 IntKind.u8
 n_263,
 Value.int
 IntKind.u8
 n_264,
 Value.int
 IntKind.u64
 n_265,
 Value.int
 IntKind.u64
 n_266]) ∧
 ∃
 (n_267
 :
 Int),
 ∃
 (n_268
 :
 Int),
 ∃
 (n_269
 :
 Int),
 ∃
 (n_270
 :
 Int),
 ∃
 (n_271
 :
 Int),
 ∃
 (n_272
 :
 Int),
 ∃
 (n_273
 :
 Int),
 ∃
 (n_274
 :
 Int),
 ∃
 (n_275
 :
 Int),
 ∃
 (n_276
 :
 Int),
 ∃
 (n_277
 :
 Int),
 ∃
 (n_278
 :
 Int),
 ∃
 (n_279
 :
 Int),
 ∃
 (n_280
 :
 Int),
 ∃
 (n_281
 :
 Int),
 ∃
 (n_282
 :
 Int),
 ∃
 (n_283
 :
 Int),
 ∃
 (n_284
 :
 Int),
 ∃
 (n_285
 :
 Int),
 ∃
 (n_286
 :
 Int),
 ∃
 (n_287
 :
 Int),
 ∃
 (n_288
 :
 Int),
 ∃
 (n_289
 :
 Int),
 ∃
 (n_290
 :
 Int),
 ∃
 (n_291
 :
 Int),
 ∃
 (n_292
 :
 Int),
 ∃
 (n_293
 :
 Int),
 ∃
 (n_294
 :
 Int),
 ∃
 (n_295
 :
 Int),
 ∃
 (n_296
 :
 Int),
 ∃
 (n_297
 :
 Int),
 ∃
 (n_298
 :
 Int),
 ∃
 (n_299
 :
 Int),
 ∃
 (n_300
 :
 Int),
 ∃
 (n_301
 :
 Int),
 (sel
 (sel
 (notB
 (isN
 a))
 (eqI
 n
 0)
 false)
 (andB
 (eqI
 n_197
 n_162)
 (andB
 (andB
 (eqI
 n_198
 n_163)
 (andB
 (eqI
 n_199
 n_164)
 (andB
 (eqI
 n_200
 n_165)
 (andB
 (eqI
 n_201
 n_166)
 (andB
 (eqI
 n_202
 n_167)
 (andB
 (eqI
 n_203
 n_168)
 (andB
 (eqI
 n_204
 n_169)
 (andB
 (eqI
 n_205
 n_170)
 (andB
 (eqI
 n_206
 n_171)
 (andB
 (eqI
 n_207
 n_172)
 (andB
 (eqI
 n_208
 n_173)
 (andB
 (eqI
 n_209
 n_174)
 (andB
 (eqI
 n_210
 n_175)
 (andB
 (eqI
 n_211
 n_176)
 (andB
 (eqI
 n_212
 n_177)
 (andB
 (eqI
 n_213
 n_178)
 (andB
 (eqI
 n_214
 n_179)
 (andB
 (eqI
 n_215
 n_180)
 (andB
 (eqI
 n_216
 n_181)
 (andB
 (eqI
 n_217
 n_182)
 (andB
 (eqI
 n_218
 n_183)
 (andB
 (eqI
 n_219
 n_184)
 (andB
 (eqI
 n_220
 n_185)
 (andB
 (eqI
 n_221
 n_186)
 (andB
 (eqI
 n_222
 n_187)
 (andB
 (eqI
 n_223
 n_188)
 (andB
 (eqI
 n_224
 n_189)
 (andB
 (eqI
 n_225
 n_190)
 (andB
 (eqI
 n_226
 n_191)
 (andB
 (eqI
 n_227
 n_192)
 (andB
 (eqI
 n_228
 n_193)
 (andB
 (eqI
 n_229
 n_194)
 true))))))))))))))))))))))))))))))))
 (andB
 (eqI
 n_230
 n_195)
 (andB
 (eqI
 n_231
 n_196)
 true))))
 false =
 true →
 C
 28
 [Value.pointer
 a]
 h'_10
 fun
 (v :
 Value)
 (h' :
 Hp) =>
 v =
 Value.agg
 (Array.mk
 [Value.int
 IntKind.u32
 n_267,
 Value.int
 IntKind.u8
 n_268,
 Value.int
 IntKind.u8
 n_269,
 Value.int
 IntKind.u8
 n_270,
 Value.int
 IntKind.u8
 n_271,
 Value.int
 IntKind.u8
 n_272,
 Value.int
 IntKind.u8
 n_273,
 Value.int
 IntKind.u8
 n_274,
 Value.int
 IntKind.u8
 n_275,
 Value.int
 IntKind.u8
 n_276,
 Value.int
 IntKind.u8
 n_277,
 Value.int
 IntKind.u8
 n_278,
 Value.int
 IntKind.u8
 n_279,
 Value.int
 IntKind.u8
 n_280,
 Value.int
 IntKind.u8
 n_281,
 Value.int
 IntKind.u8
 n_282,
 Value.int
 IntKind.u8
 n_283,
 Value.int
 IntKind.u8
 n_284,
 Value.int
 IntKind.u8
 n_285,
 Value.int
 IntKind.u8
 n_286,
 Value.int
 IntKind.u8
 n_287,
 Value.int
 IntKind.u8
 n_288,
 Value.int
 IntKind.u8
 n_289,
 Value.int
 IntKind.u8
 n_290,
 Value.int
 IntKind.u8
 n_291,
 Value.int
 IntKind.u8
 n_292,
 Value.int
 IntKind.u8
 n_293,
 Value.int
 IntKind.u8
 n_294,
 Value.int
 IntKind.u8
 n_295,
 Value.int
 IntKind.u8
 n_296,
 Value.int
 IntKind.u8
 n_297,
 Value.int
 IntKind.u8
 n_298,
 Value.int
 IntKind.u8
 n_299,
 Value.int
 IntKind.u64
 n_300,
 Value.int
 IntKind.u64
 n_301]) ∧
 h' =
 h'_10) ∧
 (sel
 (sel
 (notB
 (isN
 a))
 (eqI
 n
 0)
 false)
 (andB
 (eqI
 n_197
 n_162)
 (andB
 (andB
 (eqI
 n_198
 n_163)
 (andB
 (eqI
 n_199
 n_164)
 (andB
 (eqI
 n_200
 n_165)
 (andB
 (eqI
 n_201
 n_166)
 (andB
 (eqI
 n_202
 n_167)
 (andB
 (eqI
 n_203
 n_168)
 (andB
 (eqI
 n_204
 n_169)
 (andB
 (eqI
 n_205
 n_170)
 (andB
 (eqI
 n_206
 n_171)
 (andB
 (eqI
 n_207
 n_172)
 (andB
 (eqI
 n_208
 n_173)
 (andB
 (eqI
 n_209
 n_174)
 (andB
 (eqI
 n_210
 n_175)
 (andB
 (eqI
 n_211
 n_176)
 (andB
 (eqI
 n_212
 n_177)
 (andB
 (eqI
 n_213
 n_178)
 (andB
 (eqI
 n_214
 n_179)
 (andB
 (eqI
 n_215
 n_180)
 (andB
 (eqI
 n_216
 n_181)
 (andB
 (eqI
 n_217
 n_182)
 (andB
 (eqI
 n_218
 n_183)
 (andB
 (eqI
 n_219
 n_184)
 (andB
 (eqI
 n_220
 n_185)
 (andB
 (eqI
 n_221
 n_186)
 (andB
 (eqI
 n_222
 n_187)
 (andB
 (eqI
 n_223
 n_188)
 (andB
 (eqI
 n_224
 n_189)
 (andB
 (eqI
 n_225
 n_190)
 (andB
 (eqI
 n_226
 n_191)
 (andB
 (eqI
 n_227
 n_192)
 (andB
 (eqI
 n_228
 n_193)
 (andB
 (eqI
 n_229
 n_194)
 true))))))))))))))))))))))))))))))))
 (andB
 (eqI
 n_230
 n_195)
 (andB
 (eqI
 n_231
 n_196)
 true))))
 false =
 true →
 plainA
 (some
 (Addr.mk
 h'.next
 0
 none)) =
 true ∧
 h'_10.cellsAt
 h'.next
 0
 35 =
 some
 [Value.int
 IntKind.u32
 n_232,
 Value.int
 IntKind.u8
 n_233,
 Value.int
 IntKind.u8
 n_234,
 Value.int
 IntKind.u8
 n_235,
 Value.int
 IntKind.u8
 n_236,
 Value.int
 IntKind.u8
 n_237,
 Value.int
 IntKind.u8
 n_238,
 Value.int
 IntKind.u8
 n_239,
 Value.int
 IntKind.u8
 n_240,
 Value.int
 IntKind.u8
 n_241,
 Value.int
 IntKind.u8
 n_242,
 Value.int
 IntKind.u8
 n_243,
 Value.int
 IntKind.u8
 n_244,
 Value.int
 IntKind.u8
 n_245,
 Value.int
 IntKind.u8
 n_246,
 Value.int
 IntKind.u8
 n_247,
 Value.int
 IntKind.u8
 n_248,
 Value.int
 IntKind.u8
 n_249,
 Value.int
 IntKind.u8
 n_250,
 Value.int
 IntKind.u8
 n_251,
 Value.int
 IntKind.u8
 n_252,
 Value.int
 IntKind.u8
 n_253,
 Value.int
 IntKind.u8
 n_254,
 Value.int
 IntKind.u8
 n_255,
 Value.int
 IntKind.u8
 n_256,
 Value.int
 IntKind.u8
 n_257,
 Value.int
 IntKind.u8
 n_258,
 Value.int
 IntKind.u8
 n_259,
 Value.int
 IntKind.u8
 n_260,
 Value.int
 IntKind.u8
 n_261,
 Value.int
 IntKind.u8
 n_262,
 Value.int
 IntKind.u8
 n_263,
 Value.int
 IntKind.u8
 n_264,
 Value.int
 IntKind.u64
 n_265,
 Value.int
 IntKind.u64
 n_266]) ∧
 ∃
 (n_302
 :
 Int),
 (sel
 (sel
 (sel
 (notB
 (isN
 a))
 (eqI
 n
 0)
 false)
 (andB
 (eqI
 n_197
 n_162)
 (andB
 (andB
 (eqI
 n_198
 n_163)
 (andB
 (eqI
 n_199
 n_164)
 (andB
 (eqI
 n_200
 n_165)
 (andB
 (eqI
 n_201
 n_166)
 (andB
 (eqI
 n_202
 n_167)
 (andB
 (eqI
 n_203
 n_168)
 (andB
 (eqI
 n_204
 n_169)
 (andB
 (eqI
 n_205
 n_170)
 (andB
 (eqI
 n_206
 n_171)
 (andB
 (eqI
 n_207
 n_172)
 (andB
 (eqI
 n_208
 n_173)
 (andB
 (eqI
 n_209
 n_174)
 (andB
 (eqI
 n_210
 n_175)
 (andB
 (eqI
 n_211
 n_176)
 (andB
 (eqI
 n_212
 n_177)
 (andB
 (eqI
 n_213
 n_178)
 (andB
 (eqI
 n_214
 n_179)
 (andB
 (eqI
 n_215
 n_180)
 (andB
 (eqI
 n_216
 n_181)
 (andB
 (eqI
 n_217
 n_182)
 (andB
 (eqI
 n_218
 n_183)
 (andB
 (eqI
 n_219
 n_184)
 (andB
 (eqI
 n_220
 n_185)
 (andB
 (eqI
 n_221
 n_186)
 (andB
 (eqI
 n_222
 n_187)
 (andB
 (eqI
 n_223
 n_188)
 (andB
 (eqI
 n_224
 n_189)
 (andB
 (eqI
 n_225
 n_190)
 (andB
 (eqI
 n_226
 n_191)
 (andB
 (eqI
 n_227
 n_192)
 (andB
 (eqI
 n_228
 n_193)
 (andB
 (eqI
 n_229
 n_194)
 true))))))))))))))))))))))))))))))))
 (andB
 (eqI
 n_230
 n_195)
 (andB
 (eqI
 n_231
 n_196)
 true))))
 false)
 (andB
 (eqI
 n_267
 n_232)
 (andB
 (andB
 (eqI
 n_268
 n_233)
 (andB
 (eqI
 n_269
 n_234)
 (andB
 (eqI
 n_270
 n_235)
 (andB
 (eqI
 n_271
 n_236)
 (andB
 (eqI
 n_272
 n_237)
 (andB
 (eqI
 n_273
 n_238)
 (andB
 (eqI
 n_274
 n_239)
 (andB
 (eqI
 n_275
 n_240)
 (andB
 (eqI
 n_276
 n_241)
 (andB
 (eqI
 n_277
 n_242)
 (andB
 (eqI
 n_278
 n_243)
 (andB
 (eqI
 n_279
 n_244)
 (andB
 (eqI
 n_280
 n_245)
 (andB
 (eqI
 n_281
 n_246)
 (andB
 (eqI
 n_282
 n_247)
 (andB
 (eqI
 n_283
 n_248)
 (andB
 (eqI
 n_284
 n_249)
 (andB
 (eqI
 n_285
 n_250)
 (andB
 (eqI
 n_286
 n_251)
 (andB
 (eqI
 n_287
 n_252)
 (andB
 (eqI
 n_288
 n_253)
 (andB
 (eqI
 n_289
 n_254)
 (andB
 (eqI
 n_290
 n_255)
 (andB
 (eqI
 n_291
 n_256)
 (andB
 (eqI
 n_292
 n_257)
 (andB
 (eqI
 n_293
 n_258)
 (andB
 (eqI
 n_294
 n_259)
 (andB
 (eqI
 n_295
 n_260)
 (andB
 (eqI
 n_296
 n_261)
 (andB
 (eqI
 n_297
 n_262)
 (andB
 (eqI
 n_298
 n_263)
 (andB
 (eqI
 n_299
 n_264)
 true))))))))))))))))))))))))))))))))
 (andB
 (eqI
 n_300
 n_265)
 (andB
 (eqI
 n_301
 n_266)
 true))))
 false =
 true →
 C
 29
 [Value.pointer
 a]
 h'_10
 fun
 (v :
 Value)
 (h' :
 Hp) =>
 v =
 Value.int
 IntKind.i64
 n_302 ∧
 h' =
 h'_10) ∧
 ∃
 (a_8
 :
 Option
 Addr),
 ∃
 (l
 :
 Nat),
 ∃
 (c
 :
 Nat),
 (sel
 (sel
 (sel
 (sel
 (notB
 (isN
 a))
 (eqI
 n
 0)
 false)
 (andB
 (eqI
 n_197
 n_162)
 (andB
 (andB
 (eqI
 n_198
 n_163)
 (andB
 (eqI
 n_199
 n_164)
 (andB
 (eqI
 n_200
 n_165)
 (andB
 (eqI
 n_201
 n_166)
 (andB
 (eqI
 n_202
 n_167)
 (andB
 (eqI
 n_203
 n_168)
 (andB
 (eqI
 n_204
 n_169)
 (andB
 (eqI
 n_205
 n_170)
 (andB
 (eqI
 n_206
 n_171)
 (andB
 (eqI
 n_207
 n_172)
 (andB
 (eqI
 n_208
 n_173)
 (andB
 (eqI
 n_209
 n_174)
 (andB
 (eqI
 n_210
 n_175)
 (andB
 (eqI
 n_211
 n_176)
 (andB
 (eqI
 n_212
 n_177)
 (andB
 (eqI
 n_213
 n_178)
 (andB
 (eqI
 n_214
 n_179)
 (andB
 (eqI
 n_215
 n_180)
 (andB
 (eqI
 n_216
 n_181)
 (andB
 (eqI
 n_217
 n_182)
 (andB
 (eqI
 n_218
 n_183)
 (andB
 (eqI
 n_219
 n_184)
 (andB
 (eqI
 n_220
 n_185)
 (andB
 (eqI
 n_221
 n_186)
 (andB
 (eqI
 n_222
 n_187)
 (andB
 (eqI
 n_223
 n_188)
 (andB
 (eqI
 n_224
 n_189)
 (andB
 (eqI
 n_225
 n_190)
 (andB
 (eqI
 n_226
 n_191)
 (andB
 (eqI
 n_227
 n_192)
 (andB
 (eqI
 n_228
 n_193)
 (andB
 (eqI
 n_229
 n_194)
 true))))))))))))))))))))))))))))))))
 (andB
 (eqI
 n_230
 n_195)
 (andB
 (eqI
 n_231
 n_196)
 true))))
 false)
 (andB
 (eqI
 n_267
 n_232)
 (andB
 (andB
 (eqI
 n_268
 n_233)
 (andB
 (eqI
 n_269
 n_234)
 (andB
 (eqI
 n_270
 n_235)
 (andB
 (eqI
 n_271
 n_236)
 (andB
 (eqI
 n_272
 n_237)
 (andB
 (eqI
 n_273
 n_238)
 (andB
 (eqI
 n_274
 n_239)
 (andB
 (eqI
 n_275
 n_240)
 (andB
 (eqI
 n_276
 n_241)
 (andB
 (eqI
 n_277
 n_242)
 (andB
 (eqI
 n_278
 n_243)
 (andB
 (eqI
 n_279
 n_244)
 (andB
 (eqI
 n_280
 n_245)
 (andB
 (eqI
 n_281
 n_246)
 (andB
 (eqI
 n_282
 n_247)
 (andB
 (eqI
 n_283
 n_248)
 (andB
 (eqI
 n_284
 n_249)
 (andB
 (eqI
 n_285
 n_250)
 (andB
 (eqI
 n_286
 n_251)
 (andB
 (eqI
 n_287
 n_252)
 (andB
 (eqI
 n_288
 n_253)
 (andB
 (eqI
 n_289
 n_254)
 (andB
 (eqI
 n_290
 n_255)
 (andB
 (eqI
 n_291
 n_256)
 (andB
 (eqI
 n_292
 n_257)
 (andB
 (eqI
 n_293
 n_258)
 (andB
 (eqI
 n_294
 n_259)
 (andB
 (eqI
 n_295
 n_260)
 (andB
 (eqI
 n_296
 n_261)
 (andB
 (eqI
 n_297
 n_262)
 (andB
 (eqI
 n_298
 n_263)
 (andB
 (eqI
 n_299
 n_264)
 true))))))))))))))))))))))))))))))))
 (andB
 (eqI
 n_300
 n_265)
 (andB
 (eqI
 n_301
 n_266)
 true))))
 false)
 (eqI
 n_302
 0)
 false =
 true →
 C
 30
 [Value.pointer
 a]
 h'_10
 fun
 (v :
 Value)
 (h' :
 Hp) =>
 v =
 Value.slice
 a_8
 l
 c ∧
 h' =
 h'_10) ∧
 K
 (Value.bool
 (sel
 (sel
 (sel
 (sel
 (sel
 (notB
 (isN
 a))
 (eqI
 n
 0)
 false)
 (andB
 (eqI
 n_197
 n_162)
 (andB
 (andB
 (eqI
 n_198
 n_163)
 (andB
 (eqI
 n_199
 n_164)
 (andB
 (eqI
 n_200
 n_165)
 (andB
 (eqI
 n_201
 n_166)
 (andB
 (eqI
 n_202
 n_167)
 (andB
 (eqI
 n_203
 n_168)
 (andB
 (eqI
 n_204
 n_169)
 (andB
 (eqI
 n_205
 n_170)
 (andB
 (eqI
 n_206
 n_171)
 (andB
 (eqI
 n_207
 n_172)
 (andB
 (eqI
 n_208
 n_173)
 (andB
 (eqI
 n_209
 n_174)
 (andB
 (eqI
 n_210
 n_175)
 (andB
 (eqI
 n_211
 n_176)
 (andB
 (eqI
 n_212
 n_177)
 (andB
 (eqI
 n_213
 n_178)
 (andB
 (eqI
 n_214
 n_179)
 (andB
 (eqI
 n_215
 n_180)
 (andB
 (eqI
 n_216
 n_181)
 (andB
 (eqI
 n_217
 n_182)
 (andB
 (eqI
 n_218
 n_183)
 (andB
 (eqI
 n_219
 n_184)
 (andB
 (eqI
 n_220
 n_185)
 (andB
 (eqI
 n_221
 n_186)
 (andB
 (eqI
 n_222
 n_187)
 (andB
 (eqI
 n_223
 n_188)
 (andB
 (eqI
 n_224
 n_189)
 (andB
 (eqI
 n_225
 n_190)
 (andB
 (eqI
 n_226
 n_191)
 (andB
 (eqI
 n_227
 n_192)
 (andB
 (eqI
 n_228
 n_193)
 (andB
 (eqI
 n_229
 n_194)
 true))))))))))))))))))))))))))))))))
 (andB
 (eqI
 n_230
 n_195)
 (andB
 (eqI
 n_231
 n_196)
 true))))
 false)
 (andB
 (eqI
 n_267
 n_232)
 (andB
 (andB
 (eqI
 n_268
 n_233)
 (andB
 (eqI
 n_269
 n_234)
 (andB
 (eqI
 n_270
 n_235)
 (andB
 (eqI
 n_271
 n_236)
 (andB
 (eqI
 n_272
 n_237)
 (andB
 (eqI
 n_273
 n_238)
 (andB
 (eqI
 n_274
 n_239)
 (andB
 (eqI
 n_275
 n_240)
 (andB
 (eqI
 n_276
 n_241)
 (andB
 (eqI
 n_277
 n_242)
 (andB
 (eqI
 n_278
 n_243)
 (andB
 (eqI
 n_279
 n_244)
 (andB
 (eqI
 n_280
 n_245)
 (andB
 (eqI
 n_281
 n_246)
 (andB
 (eqI
 n_282
 n_247)
 (andB
 (eqI
 n_283
 n_248)
 (andB
 (eqI
 n_284
 n_249)
 (andB
 (eqI
 n_285
 n_250)
 (andB
 (eqI
 n_286
 n_251)
 (andB
 (eqI
 n_287
 n_252)
 (andB
 (eqI
 n_288
 n_253)
 (andB
 (eqI
 n_289
 n_254)
 (andB
 (eqI
 n_290
 n_255)
 (andB
 (eqI
 n_291
 n_256)
 (andB
 (eqI
 n_292
 n_257)
 (andB
 (eqI
 n_293
 n_258)
 (andB
 (eqI
 n_294
 n_259)
 (andB
 (eqI
 n_295
 n_260)
 (andB
 (eqI
 n_296
 n_261)
 (andB
 (eqI
 n_297
 n_262)
 (andB
 (eqI
 n_298
 n_263)
 (andB
 (eqI
 n_299
 n_264)
 true))))))))))))))))))))))))))))))))
 (andB
 (eqI
 n_300
 n_265)
 (andB
 (eqI
 n_301
 n_266)
 true))))
 false)
 (eqI
 n_302
 0)
 false)
 (eqI
 (natI
 l)
 0)
 false))
 h'_10) := by kernel_rfl
end Go.Proofs.YtpgedmighmolnaaGreat.vc

/- Contracts for GrowthNews (1): frames that may be, digests of no node, digests that are cut. -/
set_option linter.unusedVariables false
namespace Go.Proofs.YtpgedmighmolnaaGreat.sb
open Go Go.Cn Go.Cn.Sha Go.Proofs Go.Proofs.YtpgedmighmolnaaGreat.vc

def RightF (p w : Int) : Prop := (p = 1024 ∨ p = 2048 ∨ p = 4096 ∨ p = 8192) ∧ 1 ≤ w ∧ w ≤ 32
instance (p w : Int) : Decidable (RightF p w) := by unfold RightF; infer_instance

theorem c38 (p w : Int) (h : Hp) : C 38 [.agg (Array.mk [.int .i64 p, .int .i64 w])] h fun v h' => v = .bool (decide (RightF p w)) ∧ Kept h h' := by
  refine SCalls_of_vw fol (pf := pfg) (shp := shp38) (f := 38) (fn := Tryz.f38) (by kernel_rfl) (c := Tryz.f38.body.getD .skip) (by kernel_rfl) (by kernel_rfl) fun wf => ?_
  rw [vc38]
  intro h1 e1
  obtain ⟨b1, k1, n1, wf1⟩ := new_blk wf e1
  have r0 : h1.cellsAt h.next 0 1 = some [.int .i64 p] := b1.one rfl
  have r1 : h1.cellsAt h.next 1 1 = some [.int .i64 w] := b1.one rfl
  refine ⟨rfl, p, ⟨rfl, r0⟩, fun _ => rfl, p, fun _ => ⟨rfl, r0⟩, fun _ => rfl, p, fun _ => ⟨rfl, r0⟩, fun _ => rfl, p, fun _ => ⟨rfl, r0⟩, fun _ => rfl, w, fun _ => ⟨rfl, r1⟩, fun _ => rfl, w, fun _ => ⟨rfl, r1⟩, ?_, k1⟩
  congr 1
  rw [Bool.eq_iff_iff]
  simp only [and_iff, or_iff, eqI_iff, geI_iff, leI_iff, decide_eq_true_eq]
  unfold RightF
  omega

theorem c24 (p w : Int) (h : Hp) : C 24 [.agg (Array.mk [.int .i64 p, .int .i64 w])] h fun v h' => v = .bool (decide (RightF p w)) ∧ Kept h h' := by
  refine SCalls_of_vw fol (pf := pfg) (shp := shp24) (f := 24) (fn := Tryz.f24) (by kernel_rfl) (c := Tryz.f24.body.getD .skip) (by kernel_rfl) (by kernel_rfl) fun wf => ?_
  rw [vc24]
  intro h1 e1
  obtain ⟨b1, k1, n1, wf1⟩ := new_blk wf e1
  have r0 : h1.cellsAt h.next 0 2 = some [.int .i64 p, .int .i64 w] := (b1.cells (Nat.le_of_ble_eq_true rfl)).trans rfl
  refine ⟨p, w, ⟨rfl, r0⟩, (c38 p w h1).mono fun v h2 ⟨e2, k2⟩ => ⟨_, e2, rfl, k1.trans wf k2 fun _ _ hf => hf⟩⟩

/-- A slice of whole numbers. -/
abbrev SLI (h : Hp) (g : Option Nat) (a : Option Addr) (l c : Nat) (L : List Int) : Prop := SlT (fun n => [Value.int .i64 n]) 1 h g a l c L

theorem c163 {h : Hp} {g : Option Nat} {a : Option Addr} {l c : Nat} {L : List Int} (s : SLI h g a l c L) (hl : l ≤ 1073741824) (x : Int) : C 163 [.slice a l c, .int .i64 x] h fun v h' => (∃ n : Int, v = .int .i64 n ∧ (n ≥ 0 ↔ x ∈ L)) ∧ h' = h := by
  refine SCalls_of_vw fol (pf := pfg) (shp := shp163) (f := 163) (fn := Tryz.f163) (by kernel_rfl) (c := Tryz.f163.body.getD .skip) (by kernel_rfl) (by kernel_rfl) fun wf => ?_
  rw [vc163]
  have hL := s.len
  refine ⟨fun vals m hh => ∃ i : Nat, [.int .i64 (i : Int)] = vals ∧ m = l - i ∧ i ≤ l ∧ hh = h ∧ x ∉ L.take i, ⟨l, 0, rfl, rfl, Nat.zero_le _, rfl, by simp⟩, ?_⟩
  rintro n m hh ⟨i, e, rfl, hi, rfl, hx⟩
  simp at e
  subst e
  by_cases hc : ltI (i : Int) (natI l) = true
  · rw [if_pos hc]
    have hil : i < l := by rw [ltI_iff, natI_eq] at hc; omega
    have ex : L[i]? = some (L[i]'(by omega)) := List.getElem?_eq_getElem _
    generalize L[i]'(by omega) = y at ex
    have hr := SlT.get (enc := fun n => [Value.int .i64 n]) (w := 1) (fun _ => rfl) s ex (j := 0) (m := 1) (Nat.le_refl 1)
    refine ⟨⟨hr.1, Int.natCast_nonneg _, by omega⟩, y, ⟨rfl, hr.2.trans rfl⟩, ?_⟩
    by_cases he : eqI x y = true
    · rw [if_pos he]
      rw [eqI_iff] at he
      subst he
      exact ⟨⟨_, rfl, ⟨fun _ => List.mem_of_getElem? ex, fun _ => by omega⟩⟩, rfl⟩
    · rw [if_neg he]
      have hne : x ≠ y := fun h => he (eqI_iff.2 h)
      refine ⟨l - (i + 1), by simp only [lessN]; omega, i + 1, ?_, rfl, by omega, rfl, ?_⟩
      · rw [addW_small (by omega) (by omega)]; rfl
      · rw [List.take_add_one, ex]
        simp [hx, hne]
  · rw [if_neg hc]
    have hil : i = l := by
      by_cases hq : i = l
      · exact hq
      · exact absurd (ltI_iff.2 (by rw [natI_eq]; omega)) hc
    subst hil
    rw [List.take_of_length_le (by omega)] at hx
    exact ⟨⟨-1, rfl, ⟨fun h => by omega, fun h => absurd h hx⟩⟩, rfl⟩

theorem c110 {h : Hp} {g : Option Nat} {a : Option Addr} {l c : Nat} {L : List Int} (s : SLI h g a l c L) (hl : l ≤ 1073741824) (x : Int) : C 110 [.slice a l c, .int .i64 x] h fun v h' => v = .bool (decide (x ∈ L)) ∧ h' = h := by
  refine SCalls_of_vw fol (pf := pfg) (shp := shp110) (f := 110) (fn := Tryz.f110) (by kernel_rfl) (c := Tryz.f110.body.getD .skip) (by kernel_rfl) (by kernel_rfl) fun wf => ?_
  rw [vc110]
  refine (c163 s hl x).mono fun v h1 ⟨⟨n, e1, e2⟩, e3⟩ => ⟨n, e1, ?_, e3⟩
  congr 1
  rw [Bool.eq_iff_iff, geI_iff, decide_eq_true_eq]
  exact e2

theorem c59 (p w : Int) (h : Hp) : C 59 [.agg (Array.mk [.int .i64 p, .int .i64 w])] h fun v h' => v = .bool (decide (RightF p w)) ∧ Kept h h' := by
  refine SCalls_of_vw fol (pf := pfg) (shp := shp59) (f := 59) (fn := Tryz.f59) (by kernel_rfl) (c := Tryz.f59.body.getD .skip) (by kernel_rfl) (by kernel_rfl) fun wf => ?_
  rw [vc59]
  intro h1 e1 h2 e2
  obtain ⟨b1, k1, n1, wf1⟩ := new_blk wf e1
  obtain ⟨b2, k2, n2, wf2⟩ := new_blk wf1 e2
  have k02 := k1.trans wf k2 fun _ _ hf => hf
  have b1' := Kept.blk k2 b1
  have s2 : SLI h2 (some h1.next) (some ⟨h1.next, 0, none⟩) 4 4 [1024, 2048, 4096, 8192] := ⟨⟨Nat.le_refl _, rfl, .inl rfl, fun _ => ⟨_, b2, Nat.le_refl _, rfl⟩⟩, rfl⟩
  have r0 : h2.cellsAt h.next 0 1 = some [.int .i64 p] := b1'.one rfl
  have r1 : h2.cellsAt h.next 1 1 = some [.int .i64 w] := b1'.one rfl
  refine ⟨rfl, p, ⟨rfl, r0⟩, (c110 s2 (by omega) p).mono fun v h3 ⟨e3, e4⟩ => ?_⟩
  subst e4
  refine ⟨_, e3, fun _ => rfl, w, fun _ => ⟨rfl, r1⟩, fun _ => rfl, w, fun _ => ⟨rfl, r1⟩, ?_, k02⟩
  congr 1
  rw [Bool.eq_iff_iff]
  simp only [and_iff, geI_iff, leI_iff, decide_eq_true_eq, List.mem_cons, List.not_mem_nil, or_false]
  unfold RightF
  omega

/-! ### Digests -/
def text0 : List Nat := [4, 108, 101, 97, 102, 0, 0, 0, 2, 1, 0]
def S0 : List Nat := [93, 142, 251, 21, 33, 173, 213, 236, 171, 87, 24, 110, 219, 134, 136, 113, 254, 161, 169, 204, 78, 76, 254, 180, 30, 164, 235, 177, 60, 154, 210, 28]
theorem S0_eq : Sha.sum text0 = S0 := by kernel_rfl
def S0V : Value := .agg (S0.map u8).toArray
def eqL : List Nat → List Nat → Bool
  | [], [] => true
  | a :: x, b :: y => match Nat.beq a b with | true => eqL x y | false => false
  | _, _ => false
theorem eqL_iff : ∀ {x y : List Nat}, eqL x y = true → x = y
  | [], [], _ => rfl
  | a :: x, b :: y, h => by
    unfold eqL at h
    cases hb : Nat.beq a b with
    | false => rw [hb] at h; simp at h
    | true => rw [hb] at h; rw [Nat.eq_of_beq_eq_true hb, eqL_iff h]
  | [], _ :: _, h => by simp [eqL] at h
  | _ :: _, [], h => by simp [eqL] at h
/-- The sums answer by a law, at one text alone. -/
def natE : FuncId → List Value → Hp → Option (Option Value) := fun f args _ =>
  match Nat.beq f 242 || Nat.beq f 244 with
  | true => match args with
    | [.string s] => match eqL (s.data.toList.map UInt8.toNat) text0 with
      | true => some (some S0V)
      | false => some none
    | _ => some none
  | false => none
theorem natE_ok : NatOk Tryz.prog natE := by
  intro f args h v hn
  unfold natE at hn
  split at hn
  · rename_i hf
    split at hn
    · rename_i s
      split at hn
      · rename_i hs
        simp only [Option.some.injEq] at hn
        subst hn
        have hs : bytes8 s = text0 := eqL_iff hs
        have e : sumV s = S0V := by unfold sumV S0V; rw [hs, S0_eq]
        have hsz : s.size ≤ 1073741824 := by rw [← bytes8_len, hs]; decide
        rw [← e]
        simp only [Bool.or_eq_true, Nat.beq_eq] at hf
        rcases hf with rfl | rfl
        · exact c242 s h hsz
        · exact c244 s h hsz
      · simp at hn
    · simp at hn
  · simp at hn

/-- The digest of no node, at a width. -/
def dgE (w : Nat) : List Nat := S0.take w ++ List.replicate (32 - w) 0
theorem dgE_len {w : Nat} (h : w ≤ 32) : (dgE w).length = 32 := by
  unfold dgE
  rw [List.length_append, List.length_take, List.length_replicate, show S0.length = 32 from rfl]
  omega
def isB : Value → Bool
  | .int .u8 (.ofNat _) => true
  | _ => false
def toN : Value → Nat
  | .int .u8 (.ofNat n) => n
  | _ => 999
def isZ : Value → Bool
  | .int .i64 (.ofNat 0) => true
  | _ => false
def bytesAre (l : List Nat) : Value → Bool
  | .agg a => a.toList.all isB && eqL (a.toList.map toN) l
  | _ => false
def pairIs (l : List Nat) : List Value → Bool
  | [x, y] => bytesAre l x && isZ y
  | _ => false
def isE (w : Nat) : Value → Bool
  | .tuple a => pairIs (dgE w) a.toList
  | _ => false
theorem isZ_eq {v : Value} (h : isZ v = true) : v = .int .i64 0 := by
  unfold isZ at h
  split at h
  · rfl
  · simp at h
theorem bytesAre_eq {l : List Nat} {v : Value} (h : bytesAre l v = true) : v = .agg (l.map u8).toArray := by
  unfold bytesAre at h
  split at h
  · rename_i a
    simp only [Bool.and_eq_true] at h
    obtain ⟨h1, h2⟩ := h
    rw [← eqL_iff h2]
    congr 1
    apply Array.ext'
    generalize a.toList = l at h1 ⊢
    clear h2
    induction l with
    | nil => rfl
    | cons x l ih =>
      simp only [List.all_cons, Bool.and_eq_true] at h1
      have ih' := ih h1.2
      simp only [List.map_cons]
      have hx := h1.1
      have : x = u8 (toN x) := by
        unfold isB at hx
        split at hx
        · rfl
        · simp at hx
      rw [← this]
      simp at ih' ⊢
      exact ih'
  · simp at h
theorem isE_eq {w : Nat} {v : Value} (h : isE w v = true) : v = .tuple #[.agg ((dgE w).map u8).toArray, .int .i64 0] := by
  unfold isE at h
  split at h
  · rename_i a
    unfold pairIs at h
    split at h
    · rename_i x y ha
      simp only [Bool.and_eq_true] at h
      rw [bytesAre_eq h.1, isZ_eq h.2] at ha
      congr 1
      exact Array.ext' (by simpa using ha)
    · simp at h
  · simp at h

def widths : List Nat := [1, 2, 3, 4, 5, 6, 7, 8, 9, 10, 11, 12, 13, 14, 15, 16, 17, 18, 19, 20, 21, 22, 23, 24, 25, 26, 27, 28, 29, 30, 31, 32]
theorem mem_widths {w : Nat} (h1 : 1 ≤ w) (h2 : w ≤ 32) : w ∈ widths := by
  have : ∀ x : Fin 33, 1 ≤ x.val → x.val ∈ widths := by decide
  exact this ⟨w, by omega⟩ h1
def evE (f p : Nat) (l : List Nat) : Prop := (l.all fun w => xK Tryz.prog 30000 natE 100 f [.agg #[.int .i64 (.ofNat p), .int .i64 (.ofNat w)]] Hp.empty (fun v _ => plainV 100 v && isE w v)) = true

theorem evE_use {f p w : Nat} (hf : f < Tryz.prog.funcs.size) (he : evE f p widths) (h1 : 1 ≤ w) (h2 : w ≤ 32) (h : Hp) : C f [.agg #[.int .i64 (.ofNat p), .int .i64 (.ofNat w)]] h fun v h' => v = .tuple #[.agg ((dgE w).map u8).toArray, .int .i64 0] ∧ h' = h :=
  (bareK fol natE_ok hf (K := isE w) rfl (List.all_eq_true.1 he w (mem_widths h1 h2)) h).mono fun v h' ⟨e1, e2⟩ => ⟨isE_eq e1, e2⟩
end Go.Proofs.YtpgedmighmolnaaGreat.sb

/- Digests of no node, of the program: evaluated at each frame. -/
namespace Go.Proofs.YtpgedmighmolnaaGreat.sb
open Go Go.Cn Go.Proofs
theorem ev60a : evE 60 1024 widths := by unfold evE; kernel_rfl
theorem ev60b : evE 60 2048 widths := by unfold evE; kernel_rfl
theorem ev60c : evE 60 4096 widths := by unfold evE; kernel_rfl
theorem ev60d : evE 60 8192 widths := by unfold evE; kernel_rfl
end Go.Proofs.YtpgedmighmolnaaGreat.sb

/- Digests of no node, of the reference: evaluated at each frame. -/
namespace Go.Proofs.YtpgedmighmolnaaGreat.sb
open Go Go.Cn Go.Proofs
theorem ev62a : evE 62 1024 widths := by unfold evE; kernel_rfl
theorem ev62b : evE 62 2048 widths := by unfold evE; kernel_rfl
theorem ev62c : evE 62 4096 widths := by unfold evE; kernel_rfl
theorem ev62d : evE 62 8192 widths := by unfold evE; kernel_rfl
end Go.Proofs.YtpgedmighmolnaaGreat.sb
