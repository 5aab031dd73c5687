/- Joined: DiskAH, DiskAI, CoG, DiskC, DiskD, DiskE, DiskF, DiskH, DiskI, DiskJ. -/
import Derived.Test.YtfkhjbfddeahaaaPj10
import Derived.Test.YtfkhjbfddeahaaaProg
import Derived.KernelRfl
/- The conditions of the symbolic runs of functions of the program (printed by a program of ours, vcgen.py; checked by the kernel). -/
set_option linter.unusedVariables false
set_option maxRecDepth 100000
namespace Go.Proofs.Ytfkhjbfddeahaaa.vc
open Go Go.Cn Go.Proofs

def shp90 : Nat → List (Tmp × TypeId) := fun i => if i = 4 then [(5, 3)] else []
theorem vc90 (C : FuncId → List Value → Hp → (Value → Hp → Prop) → Prop) (a : Option Addr) (l c : Nat) (b : Option Addr) (l' c' : Nat) (h : Hp) (K : Value → Hp → Prop) : vBody Try.prog C pf shp90 Try.f90 (Try.f90.body.getD .skip) [.slice a l c, .slice b l' c'] h K = (
 if neI (natI l) (natI l') = true then K (Value.bool false) h
 else
 ∃ (I : List Value → Nat → Hp → Prop),
 (∃ (m : Nat), I [Value.int IntKind.i64 0] m h) ∧
 ∀ (n : Int) (m : Nat) (h : Hp),
 I [Value.int IntKind.i64 n] m h →
 if ltI n (natI l) = true then
 (a.isSome = true ∧ inR n l) ∧
 ∃ (n_1 : Int),
 ∃ (n_2 : Int),
 ∃ (n_3 : Int),
 (plainA (some (Addr.mk (blk a) (plusI (off a) n 3) none)) = true ∧ h.cellsAt (blk a) (plusI (off a) n 3) 3 = some [Value.int IntKind.u8 n_1, Value.int IntKind.u32 n_2, Value.int IntKind.i64 n_3]) ∧
 (b.isSome = true ∧ inR n l') ∧
 ∃ (n_4 : Int),
 ∃ (n_5 : Int),
 ∃ (n_6 : Int),
 (plainA (some (Addr.mk (blk b) (plusI (off b) n 3) none)) = true ∧ h.cellsAt (blk b) (plusI (off b) n 3) 3 = some [Value.int IntKind.u8 n_4, Value.int IntKind.u32 n_5, Value.int IntKind.i64 n_6]) ∧
 if notB (andB (eqI n_1 n_4) (andB (eqI n_2 n_5) (andB (eqI n_3 n_6) true))) = true then K (Value.bool false) h else ∃ (m' : Nat), lessN m' m ∧ I [Value.int IntKind.i64 (addW IntKind.i64 n 1)] m' h
 else K (Value.bool true) h) := by kernel_rfl

def shp83 : Nat → List (Tmp × TypeId) := fun i => if i = 4 then [(5, 3)] else []
theorem vc83 (C : FuncId → List Value → Hp → (Value → Hp → Prop) → Prop) (a : Option Addr) (l c : Nat) (b : Option Addr) (l' c' : Nat) (h : Hp) (K : Value → Hp → Prop) : vBody Try.prog C pf shp83 Try.f83 (Try.f83.body.getD .skip) [.slice a l c, .slice b l' c'] h K = (
 if neI (natI l) (natI l') = true then K (Value.bool false) h
 else
 ∃ (I : List Value → Nat → Hp → Prop),
 (∃ (m : Nat), I [Value.int IntKind.i64 0] m h) ∧
 ∀ (n : Int) (m : Nat) (h : Hp),
 I [Value.int IntKind.i64 n] m h →
 if ltI n (natI l) = true then
 (a.isSome = true ∧ inR n l) ∧
 ∃ (n_1 : Int),
 (plainA (some (Addr.mk (blk a) (plusI (off a) n 1) none)) = true ∧ h.cellsAt (blk a) (plusI (off a) n 1) 1 = some [Value.int IntKind.u8 n_1]) ∧
 (b.isSome = true ∧ inR n l') ∧ ∃ (n_2 : Int), (plainA (some (Addr.mk (blk b) (plusI (off b) n 1) none)) = true ∧ h.cellsAt (blk b) (plusI (off b) n 1) 1 = some [Value.int IntKind.u8 n_2]) ∧ if neI n_1 n_2 = true then K (Value.bool false) h else ∃ (m' : Nat), lessN m' m ∧ I [Value.int IntKind.i64 (addW IntKind.i64 n 1)] m' h
 else K (Value.bool true) h) := by kernel_rfl

def shp74 : Nat → List (Tmp × TypeId) := fun i => []
theorem vc74 (C : FuncId → List Value → Hp → (Value → Hp → Prop) → Prop) (page most : Int) (ia : Option Addr) (il ic : Nat) (wh : Bool) (sa : Option Addr) (sl sc : Nat) (h : Hp) (K : Value → Hp → Prop) : vBody Try.prog C pf shp74 Try.f74 (Try.f74.body.getD .skip) [.agg #[.int .i64 page, .int .i64 most, .slice ia il ic, .bool wh, .slice sa sl sc]] h K = (
 ∀ (h' : Hp),
 h' = h.alloc [Value.int IntKind.i64 page, Value.int IntKind.i64 most, Value.slice ia il ic, Value.bool wh, Value.slice sa sl sc] 81 →
 plainA (some (Addr.mk h.next 0 none)) = true ∧
 ∃ (n : Int),
 (plainA (some (Addr.mk h.next 0 none)) = true ∧ h'.cellsAt h.next 0 1 = some [Value.int IntKind.i64 n]) ∧
 C 64 [Value.int IntKind.i64 n] h' fun (v : Value) (h' : Hp) => ∃ (b : Bool), v = Value.bool b ∧ if b = true then plainA (some (Addr.mk h.next 0 none)) = true ∧ ∃ (n : Int), (plainA (some (Addr.mk h.next 0 none)) = true ∧ h'.cellsAt h.next 0 1 = some [Value.int IntKind.i64 n]) ∧ K (Value.int IntKind.i64 n) h' else K (Value.int IntKind.i64 8) h') := by kernel_rfl

def shp47 : Nat → List (Tmp × TypeId) := fun i => if i = 3 then [(3, 3), (4, 3)] else []
theorem vc47 (C : FuncId → List Value → Hp → (Value → Hp → Prop) → Prop) (page most : Int) (ia : Option Addr) (il ic : Nat) (wh : Bool) (sa : Option Addr) (sl sc : Nat) (h : Hp) (K : Value → Hp → Prop) : vBody Try.prog C pf shp47 Try.f47 (Try.f47.body.getD .skip) [.agg #[.int .i64 page, .int .i64 most, .slice ia il ic, .bool wh, .slice sa sl sc]] h K = (
 ∀ (h' : Hp),
 h' = h.alloc [Value.int IntKind.i64 page, Value.int IntKind.i64 most, Value.slice ia il ic, Value.bool wh, Value.slice sa sl sc] 81 →
 plainA (some (Addr.mk h.next 0 none)) = true ∧
 ∃ (a : Option Addr),
 ∃ (l : Nat),
 ∃ (c : Nat),
 (plainA (some (Addr.mk h.next 2 none)) = true ∧ h'.cellsAt h.next 2 1 = some [Value.slice a l c]) ∧
 ∃ (n : Int),
 ∃ (n_1 : Int),
 ∃ (a_1 : Option Addr),
 ∃ (l_1 : Nat),
 ∃ (c_1 : Nat),
 ∃ (b : Bool),
 ∃ (a_2 : Option Addr),
 ∃ (l_2 : Nat),
 ∃ (c_2 : Nat),
 (plainA (some (Addr.mk h.next 0 none)) = true ∧ h'.cellsAt h.next 0 5 = some [Value.int IntKind.i64 n, Value.int IntKind.i64 n_1, Value.slice a_1 l_1 c_1, Value.bool b, Value.slice a_2 l_2 c_2]) ∧
 C 74 [Value.agg (Array.mk [Value.int IntKind.i64 n, Value.int IntKind.i64 n_1, Value.slice a_1 l_1 c_1, Value.bool b, Value.slice a_2 l_2 c_2])] h' fun (v : Value) (h' : Hp) =>
 ∃ (n : Int),
 v = Value.int IntKind.i64 n ∧
 (plainA (some (Addr.mk h.next 2 none)) = true ∧ h'.cellsAt h.next 2 1 = some [Value.slice a l c]) ∧
 ∃ (I : List Value → Nat → Hp → Prop),
 (∃ (m : Nat), I [Value.int IntKind.i64 (mulW IntKind.i64 (natI l) n), Value.int IntKind.i64 0] m h') ∧
 ∀ (n n_2 : Int) (m : Nat) (h_1 : Hp),
 I [Value.int IntKind.i64 n, Value.int IntKind.i64 n_2] m h_1 →
 plainA (some (Addr.mk h.next 0 none)) = true ∧
 ∃ (a : Option Addr),
 ∃ (l : Nat),
 ∃ (c : Nat),
 (plainA (some (Addr.mk h.next 4 none)) = true ∧ h_1.cellsAt h.next 4 1 = some [Value.slice a l c]) ∧
 if ltI n_2 (natI l) = true then if gtI (addW IntKind.i64 (addW IntKind.i64 n 1) 10000) 2147483647 = true then K (Value.bool true) h_1 else ∃ (m' : Nat), lessN m' m ∧ I [Value.int IntKind.i64 (addW IntKind.i64 (addW IntKind.i64 n 1) 10000), Value.int IntKind.i64 (addW IntKind.i64 n_2 1)] m' h_1
 else plainA (some (Addr.mk h.next 0 none)) = true ∧ ∃ (a : Option Addr), ∃ (l : Nat), ∃ (c : Nat), (plainA (some (Addr.mk h.next 2 none)) = true ∧ h_1.cellsAt h.next 2 1 = some [Value.slice a l c]) ∧ K (Value.bool (sel (gtI (natI l) 131072) true (gtI n 2147483647))) h_1) := by kernel_rfl

def shp48 : Nat → List (Tmp × TypeId) := fun i => if i = 3 then [(4, 40), (5, 3)] else if i = 17 then [(11, 3)] else if i = 1000021 then [(6, 69), (7, 25), (8, 37), (9, 25)] else []
theorem vc48 (C : FuncId → List Value → Hp → (Value → Hp → Prop) → Prop) (page most : Int) (ia : Option Addr) (il ic : Nat) (wh : Bool) (sa : Option Addr) (sl sc : Nat) (h : Hp) (K : Value → Hp → Prop) : vBody Try.prog C pf shp48 Try.f48 (Try.f48.body.getD .skip) [.agg #[.int .i64 page, .int .i64 most, .slice ia il ic, .bool wh, .slice sa sl sc]] h K = (
 ∀ (h' : Hp),
 h' = h.alloc [Value.int IntKind.i64 page, Value.int IntKind.i64 most, Value.slice ia il ic, Value.bool wh, Value.slice sa sl sc] 81 →
 ∃ (I : List Value → Nat → Hp → Prop),
 (∃ (m : Nat), I [Value.slice none 0 0, Value.int IntKind.i64 0] m h') ∧
 ∀ (a : Option Addr) (l c : Nat) (n : Int) (m : Nat) (h_1 : Hp),
 I [Value.slice a l c, Value.int IntKind.i64 n] m h_1 →
 plainA (some (Addr.mk h.next 0 none)) = true ∧
 ∃ (a_2 : Option Addr),
 ∃ (l_1 : Nat),
 ∃ (c_1 : Nat),
 (plainA (some (Addr.mk h.next 2 none)) = true ∧ h_1.cellsAt h.next 2 1 = some [Value.slice a_2 l_1 c_1]) ∧
 (ltI n (natI l_1) = true → plainA (some (Addr.mk h.next 0 none)) = true) ∧
 ∃ (b : Bool),
 (ltI n (natI l_1) = true → plainA (some (Addr.mk h.next 3 none)) = true ∧ h_1.cellsAt h.next 3 1 = some [Value.bool b]) ∧
 if sel (ltI n (natI l_1)) b false = true then
 plainA (some (Addr.mk h.next 0 none)) = true ∧
 ∃ (a_3 : Option Addr),
 ∃ (l_2 : Nat),
 ∃ (c_2 : Nat),
 (plainA (some (Addr.mk h.next 2 none)) = true ∧ h_1.cellsAt h.next 2 1 = some [Value.slice a_3 l_2 c_2]) ∧
 (a_3.isSome = true ∧ inR n l_2) ∧
 ∃ (n_1 : Int),
 ∃ (n_2 : Int),
 ∃ (n_3 : Int),
 (plainA (some (Addr.mk (blk a_3) (plusI (off a_3) n 3) none)) = true ∧ h_1.cellsAt (blk a_3) (plusI (off a_3) n 3) 3 = some [Value.int IntKind.i64 n_1, Value.int IntKind.u8 n_2, Value.int IntKind.u8 n_3]) ∧
 ∃ (n_4 : Int),
 ∃ (n_5 : Int),
 ∃ (a_4 : Option Addr),
 ∃ (l_3 : Nat),
 ∃ (c_3 : Nat),
 ∃ (b : Bool),
 ∃ (a_5 : Option Addr),
 ∃ (l_4 : Nat),
 ∃ (c_4 : Nat),
 (plainA (some (Addr.mk h.next 0 none)) = true ∧ h_1.cellsAt h.next 0 5 = some [Value.int IntKind.i64 n_4, Value.int IntKind.i64 n_5, Value.slice a_4 l_3 c_3, Value.bool b, Value.slice a_5 l_4 c_4]) ∧
 C 74 [Value.agg (Array.mk [Value.int IntKind.i64 n_4, Value.int IntKind.i64 n_5, Value.slice a_4 l_3 c_3, Value.bool b, Value.slice a_5 l_4 c_4])] h_1 fun (v : Value) (h' : Hp) =>
 ∃ (n_6 : Int),
 v = Value.int IntKind.i64 n_6 ∧
 (plainA (some (Addr.mk (blk a_3) (plusI (off a_3) n 3) none)) = true ∧ h'.cellsAt (blk a_3) (plusI (off a_3) n 3) 3 = some [Value.int IntKind.i64 n_1, Value.int IntKind.u8 n_2, Value.int IntKind.u8 n_3]) ∧
 (plainA (some (Addr.mk h.next 2 none)) = true ∧ h'.cellsAt h.next 2 1 = some [Value.slice a_3 l_2 c_2]) ∧
 C 29 [Value.agg (Array.mk [Value.int IntKind.i64 n_1, Value.int IntKind.u8 n_2, Value.int IntKind.u8 n_3]), Value.int IntKind.i64 n_6] h' fun (v : Value) (h' : Hp) =>
 ∃ (s : ByteArray),
 v = Value.string s ∧
 ∀ (h'_1 : Hp),
 h'_1 = h'.alloc [Value.string s] 9 →
 ∃ (a_7 : Option Addr),
 ∃ (m_1 : Nat), ∃ (n_7 : Nat), ∃ (h'_2 : Hp), cappend Try.prog 40 40 (Value.slice a l c) (Value.slice (some (Addr.mk h'.next 0 none)) 1 1) h'_1 = some (Value.slice a_7 m_1 n_7, h'_2) ∧ ∃ (m' : Nat), lessN m' m ∧ I [Value.slice a_7 m_1 n_7, Value.int IntKind.i64 (addW IntKind.i64 n 1)] m' h'_2
 else
 plainA (some (Addr.mk h.next 0 none)) = true ∧
 ∃ (n : Int),
 (plainA (some (Addr.mk h.next 0 none)) = true ∧ h_1.cellsAt h.next 0 1 = some [Value.int IntKind.i64 n]) ∧
 plainA (some (Addr.mk h.next 0 none)) = true ∧
 ∃ (n_1 : Int),
 (plainA (some (Addr.mk h.next 1 none)) = true ∧ h_1.cellsAt h.next 1 1 = some [Value.int IntKind.i64 n_1]) ∧
 C 40 [Value.int IntKind.i64 n, Value.int IntKind.i64 n_1, Value.slice a l c] h_1 fun (v : Value) (h' : Hp) =>
 ∃ (a_3 : Option Addr),
 ∃ (n : Int),
 v = Value.tuple (Array.mk [Value.pointer a_3, Value.int IntKind.i64 n]) ∧
 ∃ (J : List Value → Hp → Prop),
 (plainA (some (Addr.mk h.next 0 none)) = true ∧
 ∃ (b : Bool),
 (plainA (some (Addr.mk h.next 3 none)) = true ∧ h'.cellsAt h.next 3 1 = some [Value.bool b]) ∧
 if b = true then
 ∃ (a_4 : Option Addr),
 ∃ (m : Nat),
 ∃ (n_2 : Nat),
 ∃ (h'_1 : Hp),
 cappend Try.prog 40 40 (Value.slice none 0 0) (Value.slice a l c) h' = some (Value.slice a_4 m n_2, h'_1) ∧
 ∀ (h' : Hp),
 h' = h'_1.alloc [Value.string (ByteArray.mk (Array.mk [109, 97, 114, 107]))] 9 →
 ∃ (a_6 : Option Addr),
 ∃ (m_1 : Nat),
 ∃ (n_3 : Nat),
 ∃ (h'_2 : Hp),
 cappend Try.prog 40 40 (Value.slice a_4 m n_2) (Value.slice (some (Addr.mk h'_1.next 0 none)) 1 1) h' = some (Value.slice a_6 m_1 n_3, h'_2) ∧
 plainA (some (Addr.mk h.next 0 none)) = true ∧
 ∃ (n_4 : Int),
 (plainA (some (Addr.mk h.next 0 none)) = true ∧ h'_2.cellsAt h.next 0 1 = some [Value.int IntKind.i64 n_4]) ∧
 plainA (some (Addr.mk h.next 0 none)) = true ∧
 ∃ (n_5 : Int),
 (plainA (some (Addr.mk h.next 1 none)) = true ∧ h'_2.cellsAt h.next 1 1 = some [Value.int IntKind.i64 n_5]) ∧
 (cutOk 0 (natI l) (natI n_3) (natI n_3) ∧ spotOk 1 a_6) ∧
 C 41 [Value.int IntKind.i64 n_4, Value.int IntKind.i64 n_5, Value.slice (cutA 0 1 a_6) (diffN (natI l) 0) (diffN (natI n_3) 0)] h'_2 fun (v : Value) (h' : Hp) =>
 ∃ (a_7 : Option Addr),
 ∃ (n_6 : Int),
 v = Value.tuple (Array.mk [Value.pointer a_7, Value.int IntKind.i64 n_6]) ∧
 (cutOk 0 (natI l) (natI n_3) (natI n_3) ∧ spotOk 1 a_6) ∧
 C 43 [Value.slice (cutA 0 1 a_6) (diffN (natI l) 0) (diffN (natI n_3) 0), Value.slice a l c] h' fun (v : Value) (h' : Hp) =>
 ∃ (b : Bool),
 v = Value.bool b ∧
 (notB (notB b) = true → a_6.isSome = true ∧ inR (natI l) m_1) ∧
 ∃ (s : ByteArray),
 (notB (notB b) = true → plainA (some (Addr.mk (blk a_6) (plusI (off a_6) (natI l) 1) none)) = true ∧ h'.cellsAt (blk a_6) (plusI (off a_6) (natI l) 1) 1 = some [Value.string s]) ∧
 if sel (notB b) true (notB (strEq s (ByteArray.mk (Array.mk [109, 97, 114, 107])))) = true then K (Value.tuple (Array.mk [Value.pointer none, Value.bool false])) h'
 else
 ∃ (I : List Value → Nat → Hp → Prop),
 (∃ (m : Nat), I [Value.int IntKind.i64 0] m h') ∧
 ∀ (n_7 : Int) (m : Nat) (h : Hp),
 I [Value.int IntKind.i64 n_7] m h →
 if ltI n_7 (natI l) = true then
 (a_6.isSome = true ∧ inR n_7 m_1) ∧
 plainA (some (Addr.mk (blk a_6) (plusI (off a_6) n_7 1) none)) = true ∧
 ∃ (h' : Hp), h.store (blk a_6) (plusI (off a_6) n_7 1) [Value.string (ByteArray.mk (Array.mk [103, 111, 110, 101]))] = some h' ∧ ∃ (m' : Nat), lessN m' m ∧ I [Value.int IntKind.i64 (addW IntKind.i64 n_7 1)] m' h'
 else J [Value.pointer a_3, Value.int IntKind.i64 n, Value.pointer a_7, Value.int IntKind.i64 n_6] h
 else
 plainA (some (Addr.mk h.next 0 none)) = true ∧
 ∃ (n_2 : Int),
 (plainA (some (Addr.mk h.next 0 none)) = true ∧ h'.cellsAt h.next 0 1 = some [Value.int IntKind.i64 n_2]) ∧
 plainA (some (Addr.mk h.next 0 none)) = true ∧
 ∃ (n_3 : Int),
 (plainA (some (Addr.mk h.next 1 none)) = true ∧ h'.cellsAt h.next 1 1 = some [Value.int IntKind.i64 n_3]) ∧
 C 26 [Value.int IntKind.i64 n_2, Value.int IntKind.i64 n_3] h' fun (v : Value) (h' : Hp) => ∃ (a : Option Addr), ∃ (n_4 : Int), v = Value.tuple (Array.mk [Value.pointer a, Value.int IntKind.i64 n_4]) ∧ J [Value.pointer a_3, Value.int IntKind.i64 n, Value.pointer a, Value.int IntKind.i64 n_4] h') ∧
 ∀ (a : Option Addr) (n : Int) (a_4 : Option Addr) (n_2 : Int) (h_2 : Hp),
 J [Value.pointer a, Value.int IntKind.i64 n, Value.pointer a_4, Value.int IntKind.i64 n_2] h_2 →
 if sel (neI n_2 n) true (notB (eqB (isN a_4) (isN a))) = true then K (Value.tuple (Array.mk [Value.pointer none, Value.bool false])) h_2
 else
 if isN a = true then K (Value.tuple (Array.mk [Value.pointer none, Value.bool true])) h_2
 else
 ∀ (h' : Hp),
 h' = h_2.alloc [Value.pointer a_4, Value.pointer a] 122 →
 ∃ (n : Int),
 ∃ (n_3 : Int),
 ∃ (a : Option Addr),
 ∃ (l : Nat),
 ∃ (c : Nat),
 ∃ (b : Bool),
 ∃ (a_6 : Option Addr),
 ∃ (l_2 : Nat),
 ∃ (c_2 : Nat),
 (plainA (some (Addr.mk h.next 0 none)) = true ∧ h'.cellsAt h.next 0 5 = some [Value.int IntKind.i64 n, Value.int IntKind.i64 n_3, Value.slice a l c, Value.bool b, Value.slice a_6 l_2 c_2]) ∧
 C 74 [Value.agg (Array.mk [Value.int IntKind.i64 n, Value.int IntKind.i64 n_3, Value.slice a l c, Value.bool b, Value.slice a_6 l_2 c_2])] h' fun (v : Value) (h' : Hp) =>
 ∃ (n : Int),
 v = Value.int IntKind.i64 n ∧
 ∀ (h'_1 : Hp), h'_1 = h'.alloc [Value.slice (some (Addr.mk h_2.next 0 none)) 1 1, Value.int IntKind.i64 n, Value.slice none 0 0, Value.slice none 0 0, Value.slice none 0 0, Value.slice none 0 0] 126 → K (Value.tuple (Array.mk [Value.pointer (some (Addr.mk h'.next 0 none)), Value.bool true])) h'_1) := by kernel_rfl

def shp13 : Nat → List (Tmp × TypeId) := fun i => if i = 9 then [(5, 3)] else []
theorem vc13 (C : FuncId → List Value → Hp → (Value → Hp → Prop) → Prop) (page most : Int) (ia : Option Addr) (il ic : Nat) (wh : Bool) (sa : Option Addr) (sl sc : Nat) (h : Hp) (K : Value → Hp → Prop) : vBody Try.prog C pf shp13 Try.f13 (Try.f13.body.getD .skip) [.agg #[.int .i64 page, .int .i64 most, .slice ia il ic, .bool wh, .slice sa sl sc]] h K = (
 ∀ (h' : Hp),
 h' = h.alloc [Value.int IntKind.i64 page, Value.int IntKind.i64 most, Value.slice ia il ic, Value.bool wh, Value.slice sa sl sc] 81 →
 ∃ (n : Int),
 ∃ (n_1 : Int),
 ∃ (a : Option Addr),
 ∃ (l : Nat),
 ∃ (c : Nat),
 ∃ (b : Bool),
 ∃ (a_1 : Option Addr),
 ∃ (l_1 : Nat),
 ∃ (c_1 : Nat),
 (plainA (some (Addr.mk h.next 0 none)) = true ∧ h'.cellsAt h.next 0 5 = some [Value.int IntKind.i64 n, Value.int IntKind.i64 n_1, Value.slice a l c, Value.bool b, Value.slice a_1 l_1 c_1]) ∧
 C 47 [Value.agg (Array.mk [Value.int IntKind.i64 n, Value.int IntKind.i64 n_1, Value.slice a l c, Value.bool b, Value.slice a_1 l_1 c_1])] h' fun (v : Value) (h' : Hp) =>
 ∃ (b : Bool),
 v = Value.bool b ∧
 if b = true then C 25 [] h' fun (v : Value) (h' : Hp) => ∃ (b : Bool), v = Value.bool b ∧ K (Value.bool b) h'
 else
 ∃ (n : Int),
 ∃ (n_2 : Int),
 ∃ (a : Option Addr),
 ∃ (l : Nat),
 ∃ (c : Nat),
 ∃ (b : Bool),
 ∃ (a_2 : Option Addr),
 ∃ (l_2 : Nat),
 ∃ (c_2 : Nat),
 (plainA (some (Addr.mk h.next 0 none)) = true ∧ h'.cellsAt h.next 0 5 = some [Value.int IntKind.i64 n, Value.int IntKind.i64 n_2, Value.slice a l c, Value.bool b, Value.slice a_2 l_2 c_2]) ∧
 C 48 [Value.agg (Array.mk [Value.int IntKind.i64 n, Value.int IntKind.i64 n_2, Value.slice a l c, Value.bool b, Value.slice a_2 l_2 c_2])] h' fun (v : Value) (h' : Hp) =>
 ∃ (a : Option Addr),
 ∃ (b : Bool),
 v = Value.tuple (Array.mk [Value.pointer a, Value.bool b]) ∧
 ∃ (Q : Value → Hp → Prop),
 (notB (notB b) = true → C 25 [] h' fun (v : Value) (h' : Hp) => ∃ (b : Bool), v = Value.bool b ∧ Q (Value.bool b) h') ∧
 (notB (notB b) = false → ∃ (b : Bool), Q (Value.bool b) h') ∧
 ∀ (b_1 : Bool) (h' : Hp),
 Q (Value.bool b_1) h' →
 if sel (notB b) true (notB b_1) = true then K (Value.bool false) h'
 else
 if isN a = true then K (Value.bool true) h'
 else
 ∃ (I : List Value → Nat → Hp → Prop),
 (∃ (m : Nat), I [Value.int IntKind.i64 0] m h') ∧
 ∀ (n : Int) (m : Nat) (h_1 : Hp),
 I [Value.int IntKind.i64 n] m h_1 →
 plainA (some (Addr.mk h.next 0 none)) = true ∧
 ∃ (a_5 : Option Addr),
 ∃ (l : Nat),
 ∃ (c : Nat),
 (plainA (some (Addr.mk h.next 4 none)) = true ∧ h_1.cellsAt h.next 4 1 = some [Value.slice a_5 l c]) ∧
 if ltI n (natI l) = true then
 plainA (some (Addr.mk h.next 0 none)) = true ∧
 ∃ (a_6 : Option Addr),
 ∃ (l : Nat),
 ∃ (c : Nat),
 (plainA (some (Addr.mk h.next 4 none)) = true ∧ h_1.cellsAt h.next 4 1 = some [Value.slice a_6 l c]) ∧
 (a_6.isSome = true ∧ inR n l) ∧
 ∃ (n_3 : Int),
 ∃ (n_4 : Int),
 ∃ (n_5 : Int),
 ∃ (n_6 : Int),
 ∃ (n_7 : Int),
 ∃ (n_8 : Int),
 ∃ (n_9 : Int),
 ∃ (a_7 : Option Addr),
 ∃ (l : Nat),
 ∃ (c : Nat),
 ∃ (a_8 : Option Addr),
 ∃ (l_3 : Nat),
 ∃ (c_3 : Nat),
 (plainA (some (Addr.mk (blk a_6) (plusI (off a_6) n 9) none)) = true ∧
 h_1.cellsAt (blk a_6) (plusI (off a_6) n 9) 9 =
 some [Value.int IntKind.i64 n_3, Value.int IntKind.i64 n_4, Value.int IntKind.u32 n_5, Value.int IntKind.i64 n_6, Value.int IntKind.i64 n_7, Value.int IntKind.u8 n_8, Value.int IntKind.u8 n_9, Value.slice a_7 l c, Value.slice a_8 l_3 c_3]) ∧
 C 49
 [Value.pointer a,
 Value.agg (Array.mk [Value.int IntKind.i64 n_3, Value.int IntKind.i64 n_4, Value.int IntKind.u32 n_5, Value.int IntKind.i64 n_6, Value.int IntKind.i64 n_7, Value.int IntKind.u8 n_8, Value.int IntKind.u8 n_9, Value.slice a_7 l c, Value.slice a_8 l_3 c_3])]
 h_1 fun (v : Value) (h' : Hp) => ∃ (b : Bool), v = Value.bool b ∧ if notB b = true then K (Value.bool false) h' else ∃ (m' : Nat), lessN m' m ∧ I [Value.int IntKind.i64 (addW IntKind.i64 n 1)] m' h'
 else C 50 [Value.pointer a] h_1 fun (v : Value) (h' : Hp) => ∃ (b : Bool), v = Value.bool b ∧ K (Value.bool b) h') := by kernel_rfl

def shp79 : Nat → List (Tmp × TypeId) := fun i => if i = 3 then [(3, 45), (4, 3)] else []
theorem vc79 (C : FuncId → List Value → Hp → (Value → Hp → Prop) → Prop) (a : Option Addr) (l c : Nat) (h : Hp) (K : Value → Hp → Prop) : vBody Try.prog C pf shp79 Try.f79 (Try.f79.body.getD .skip) [.slice a l c] h K = (
 ∃ (I : List Value → Nat → Hp → Prop),
 (∃ (m : Nat), I [Value.slice none 0 0, Value.int IntKind.i64 0] m h) ∧
 ∀ (a_1 : Option Addr) (l_1 c : Nat) (n : Int) (m : Nat) (h : Hp),
 I [Value.slice a_1 l_1 c, Value.int IntKind.i64 n] m h →
 if ltI n (natI l) = true then
 (a.isSome = true ∧ inR n l) ∧
 ∃ (n_1 : Int),
 ∃ (n_2 : Int),
 ∃ (b : Bool),
 ∃ (a_3 : Option Addr),
 ∃ (l : Nat),
 ∃ (c_1 : Nat),
 (plainA (some (Addr.mk (blk a) (plusI (off a) n 4) none)) = true ∧ h.cellsAt (blk a) (plusI (off a) n 4) 4 = some [Value.int IntKind.u8 n_1, Value.int IntKind.i64 n_2, Value.bool b, Value.slice a_3 l c_1]) ∧
 ∀ (h' : Hp),
 h' = h.alloc [Value.int IntKind.u8 (Int.ofNat 0), Value.int IntKind.i64 (Int.ofNat 0), Value.bool false, Value.slice none 0 0] 77 →
 plainA (some (Addr.mk h.next 0 none)) = true ∧
 ∃ (h'_1 : Hp),
 h'.store h.next 0 [Value.int IntKind.u8 n_1, Value.int IntKind.i64 n_2, Value.bool b, Value.slice a_3 l c_1] = some h'_1 ∧
 plainA (some (Addr.mk h.next 0 none)) = true ∧
 ∃ (a : Option Addr),
 ∃ (l : Nat),
 ∃ (c_2 : Nat),
 (plainA (some (Addr.mk h.next 3 none)) = true ∧ h'_1.cellsAt h.next 3 1 = some [Value.slice a l c_2]) ∧
 ∃ (a_4 : Option Addr),
 ∃ (m_1 : Nat),
 ∃ (n_3 : Nat),
 ∃ (h' : Hp),
 cappend Try.prog 36 36 (Value.slice none 0 0) (Value.slice a l c_2) h'_1 = some (Value.slice a_4 m_1 n_3, h') ∧
 ∀ (h'_2 : Hp),
 h'_2 = h'.alloc [Value.int IntKind.u8 165] 57 →
 ∃ (a : Option Addr),
 ∃ (m_2 : Nat),
 ∃ (n_4 : Nat),
 ∃ (h'_3 : Hp),
 cappend Try.prog 36 36 (Value.slice a_4 m_1 n_3) (Value.slice (some (Addr.mk h'.next 0 none)) 1 1) h'_2 = some (Value.slice a m_2 n_4, h'_3) ∧
 plainA (some (Addr.mk h.next 0 none)) = true ∧
 ∃ (a_5 : Option Addr),
 ∃ (l : Nat),
 ∃ (c_3 : Nat),
 (plainA (some (Addr.mk h.next 3 none)) = true ∧ h'_3.cellsAt h.next 3 1 = some [Value.slice a_5 l c_3]) ∧
 (cutOk 0 (natI l) (natI n_4) (natI n_4) ∧ spotOk 1 a) ∧
 plainA (some (Addr.mk h.next 0 none)) = true ∧
 plainA (some (Addr.mk h.next 3 none)) = true ∧
 ∃ (h' : Hp),
 h'_3.store h.next 3 [Value.slice (cutA 0 1 a) (diffN (natI l) 0) (diffN (natI n_4) 0)] = some h' ∧
 ∃ (n_5 : Int),
 ∃ (n_6 : Int),
 ∃ (b : Bool),
 ∃ (a : Option Addr),
 ∃ (l : Nat),
 ∃ (c_4 : Nat),
 (plainA (some (Addr.mk h.next 0 none)) = true ∧ h'.cellsAt h.next 0 4 = some [Value.int IntKind.u8 n_5, Value.int IntKind.i64 n_6, Value.bool b, Value.slice a l c_4]) ∧
 ∀ (h'_4 : Hp),
 h'_4 = h'.alloc [Value.int IntKind.u8 n_5, Value.int IntKind.i64 n_6, Value.bool b, Value.slice a l c_4] 77 →
 ∃ (a : Option Addr),
 ∃ (m_3 : Nat),
 ∃ (n_7 : Nat), ∃ (h'_5 : Hp), cappend Try.prog 45 45 (Value.slice a_1 l_1 c) (Value.slice (some (Addr.mk h'.next 0 none)) 1 1) h'_4 = some (Value.slice a m_3 n_7, h'_5) ∧ ∃ (m' : Nat), lessN m' m ∧ I [Value.slice a m_3 n_7, Value.int IntKind.i64 (addW IntKind.i64 n 1)] m' h'_5
 else
 ∀ (h' : Hp),
 h' = h.alloc [Value.int IntKind.u8 (Int.ofNat 0), Value.int IntKind.i64 (-77), Value.bool false, Value.slice none 0 0] 77 →
 ∃ (a : Option Addr), ∃ (m : Nat), ∃ (n : Nat), ∃ (h'_1 : Hp), cappend Try.prog 45 45 (Value.slice a_1 l_1 c) (Value.slice (some (Addr.mk h.next 0 none)) 1 1) h' = some (Value.slice a m n, h'_1) ∧ (cutOk 0 (natI l) (natI n) (natI n) ∧ spotOk 4 a) ∧ K (Value.slice (cutA 0 4 a) (diffN (natI l) 0) (diffN (natI n) 0)) h'_1) := by kernel_rfl

def shp81 : Nat → List (Tmp × TypeId) := fun i => if i = 4 then [(6, 4), (7, 3)] else if i = 10 then [(10, 3)] else []
theorem vc81 (C : FuncId → List Value → Hp → (Value → Hp → Prop) → Prop) (a : Option Addr) (l c : Nat) (b : Option Addr) (l' c' : Nat) (h : Hp) (K : Value → Hp → Prop) : vBody Try.prog C pf shp81 Try.f81 (Try.f81.body.getD .skip) [.slice a l c, .slice b l' c'] h K = (
 (cutOk 0 (addW IntKind.i64 (natI l') 1) (natI c) (natI c) ∧ spotOk 4 a) ∧
 ((cutA 0 4 a).isSome = true ∧ inR (natI l') (diffN (addW IntKind.i64 (natI l') 1) 0)) ∧
 plainA (some (Addr.mk (blk (cutA 0 4 a)) (plusI (off (cutA 0 4 a)) (natI l') 4) none)) = true ∧
 ∃ (n : Int),
 (plainA (some (Addr.mk (blk (cutA 0 4 a)) (plusN (plusI (off (cutA 0 4 a)) (natI l') 4) 1) none)) = true ∧ h.cellsAt (blk (cutA 0 4 a)) (plusN (plusI (off (cutA 0 4 a)) (natI l') 4) 1) 1 = some [Value.int IntKind.i64 n]) ∧
 ∃ (I : List Value → Nat → Hp → Prop),
 (∃ (m : Nat), I [Value.bool (eqI n (-77)), Value.int IntKind.i64 0] m h) ∧
 ∀ (b_1 : Bool) (n : Int) (m : Nat) (h : Hp),
 I [Value.bool b_1, Value.int IntKind.i64 n] m h →
 if ltI n (natI l') = true then
 (b.isSome = true ∧ inR n l') ∧
 plainA (some (Addr.mk (blk b) (plusI (off b) n 4) none)) = true ∧
 ∃ (a_2 : Option Addr),
 ∃ (l_1 : Nat),
 ∃ (c : Nat),
 (plainA (some (Addr.mk (blk b) (plusN (plusI (off b) n 4) 3) none)) = true ∧ h.cellsAt (blk b) (plusN (plusI (off b) n 4) 3) 1 = some [Value.slice a_2 l_1 c]) ∧
 (a.isSome = true ∧ inR n l) ∧
 plainA (some (Addr.mk (blk a) (plusI (off a) n 4) none)) = true ∧
 ∃ (a_3 : Option Addr),
 ∃ (l_2 : Nat),
 ∃ (c : Nat),
 (plainA (some (Addr.mk (blk a) (plusN (plusI (off a) n 4) 3) none)) = true ∧ h.cellsAt (blk a) (plusN (plusI (off a) n 4) 3) 1 = some [Value.slice a_3 l_2 c]) ∧
 (cutOk 0 (addW IntKind.i64 (natI l_1) 1) (natI c) (natI c) ∧ spotOk 1 a_3) ∧
 (b_1 = true → a.isSome = true ∧ inR n l) ∧
 (b_1 = true → plainA (some (Addr.mk (blk a) (plusI (off a) n 4) none)) = true) ∧
 ∃ (n_1 : Int),
 (b_1 = true → plainA (some (Addr.mk (blk a) (plusI (off a) n 4) none)) = true ∧ h.cellsAt (blk a) (plusI (off a) n 4) 1 = some [Value.int IntKind.u8 n_1]) ∧
 (b_1 = true → b.isSome = true ∧ inR n l') ∧
 (b_1 = true → plainA (some (Addr.mk (blk b) (plusI (off b) n 4) none)) = true) ∧
 ∃ (n_2 : Int),
 (b_1 = true → plainA (some (Addr.mk (blk b) (plusI (off b) n 4) none)) = true ∧ h.cellsAt (blk b) (plusI (off b) n 4) 1 = some [Value.int IntKind.u8 n_2]) ∧
 (sel b_1 (eqI n_1 n_2) false = true → a.isSome = true ∧ inR n l) ∧
 (sel b_1 (eqI n_1 n_2) false = true → plainA (some (Addr.mk (blk a) (plusI (off a) n 4) none)) = true) ∧
 ∃ (n_3 : Int),
 (sel b_1 (eqI n_1 n_2) false = true → plainA (some (Addr.mk (blk a) (plusN (plusI (off a) n 4) 1) none)) = true ∧ h.cellsAt (blk a) (plusN (plusI (off a) n 4) 1) 1 = some [Value.int IntKind.i64 n_3]) ∧
 (sel b_1 (eqI n_1 n_2) false = true → b.isSome = true ∧ inR n l') ∧
 (sel b_1 (eqI n_1 n_2) false = true → plainA (some (Addr.mk (blk b) (plusI (off b) n 4) none)) = true) ∧
 ∃ (n_4 : Int),
 (sel b_1 (eqI n_1 n_2) false = true → plainA (some (Addr.mk (blk b) (plusN (plusI (off b) n 4) 1) none)) = true ∧ h.cellsAt (blk b) (plusN (plusI (off b) n 4) 1) 1 = some [Value.int IntKind.i64 n_4]) ∧
 (sel (sel b_1 (eqI n_1 n_2) false) (eqI n_3 n_4) false = true → a.isSome = true ∧ inR n l) ∧
 (sel (sel b_1 (eqI n_1 n_2) false) (eqI n_3 n_4) false = true → plainA (some (Addr.mk (blk a) (plusI (off a) n 4) none)) = true) ∧
 ∃ (b_2 : Bool),
 (sel (sel b_1 (eqI n_1 n_2) false) (eqI n_3 n_4) false = true → plainA (some (Addr.mk (blk a) (plusN (plusI (off a) n 4) 2) none)) = true ∧ h.cellsAt (blk a) (plusN (plusI (off a) n 4) 2) 1 = some [Value.bool b_2]) ∧
 (sel (sel b_1 (eqI n_1 n_2) false) (eqI n_3 n_4) false = true → b.isSome = true ∧ inR n l') ∧
 (sel (sel b_1 (eqI n_1 n_2) false) (eqI n_3 n_4) false = true → plainA (some (Addr.mk (blk b) (plusI (off b) n 4) none)) = true) ∧
 ∃ (b_3 : Bool),
 (sel (sel b_1 (eqI n_1 n_2) false) (eqI n_3 n_4) false = true → plainA (some (Addr.mk (blk b) (plusN (plusI (off b) n 4) 2) none)) = true ∧ h.cellsAt (blk b) (plusN (plusI (off b) n 4) 2) 1 = some [Value.bool b_3]) ∧
 (sel (sel (sel b_1 (eqI n_1 n_2) false) (eqI n_3 n_4) false) (eqB b_2 b_3) false = true → cutOk 0 (natI l_1) (natI (diffN (natI c) 0)) (natI (diffN (natI c) 0)) ∧ spotOk 1 (cutA 0 1 a_3)) ∧
 (sel (sel (sel b_1 (eqI n_1 n_2) false) (eqI n_3 n_4) false) (eqB b_2 b_3) false = true → b.isSome = true ∧ inR n l') ∧
 (sel (sel (sel b_1 (eqI n_1 n_2) false) (eqI n_3 n_4) false) (eqB b_2 b_3) false = true → plainA (some (Addr.mk (blk b) (plusI (off b) n 4) none)) = true) ∧
 ∃ (a_4 : Option Addr),
 ∃ (l_3 : Nat),
 ∃ (c_1 : Nat),
 (sel (sel (sel b_1 (eqI n_1 n_2) false) (eqI n_3 n_4) false) (eqB b_2 b_3) false = true → plainA (some (Addr.mk (blk b) (plusN (plusI (off b) n 4) 3) none)) = true ∧ h.cellsAt (blk b) (plusN (plusI (off b) n 4) 3) 1 = some [Value.slice a_4 l_3 c_1]) ∧
 ∃ (Q : Value → Hp → Prop),
 (sel (sel (sel b_1 (eqI n_1 n_2) false) (eqI n_3 n_4) false) (eqB b_2 b_3) false = true →
 C 83 [Value.slice (cutA 0 1 (cutA 0 1 a_3)) (diffN (natI l_1) 0) (diffN (natI (diffN (natI c) 0)) 0), Value.slice a_4 l_3 c_1] h fun (v : Value) (h' : Hp) => ∃ (b : Bool), v = Value.bool b ∧ Q (Value.bool b) h') ∧
 (sel (sel (sel b_1 (eqI n_1 n_2) false) (eqI n_3 n_4) false) (eqB b_2 b_3) false = false → ∃ (b : Bool), Q (Value.bool b) h) ∧
 ∀ (b : Bool) (h' : Hp),
 Q (Value.bool b) h' →
 (sel (sel (sel (sel b_1 (eqI n_1 n_2) false) (eqI n_3 n_4) false) (eqB b_2 b_3) false) b false = true → (cutA 0 1 a_3).isSome = true ∧ inR (natI l_1) (diffN (addW IntKind.i64 (natI l_1) 1) 0)) ∧
 ∃ (n_5 : Int),
 (sel (sel (sel (sel b_1 (eqI n_1 n_2) false) (eqI n_3 n_4) false) (eqB b_2 b_3) false) b false = true →
 plainA (some (Addr.mk (blk (cutA 0 1 a_3)) (plusI (off (cutA 0 1 a_3)) (natI l_1) 1) none)) = true ∧ h'.cellsAt (blk (cutA 0 1 a_3)) (plusI (off (cutA 0 1 a_3)) (natI l_1) 1) 1 = some [Value.int IntKind.u8 n_5]) ∧
 ∃ (I_1 : List Value → Nat → Hp → Prop),
 (∃ (m : Nat), I_1 [Value.int IntKind.i64 0] m h') ∧
 ∀ (n_6 : Int) (m_1 : Nat) (h : Hp),
 I_1 [Value.int IntKind.i64 n_6] m_1 h →
 if ltI n_6 (natI l_1) = true then
 ((cutA 0 1 a_3).isSome = true ∧ inR n_6 (diffN (addW IntKind.i64 (natI l_1) 1) 0)) ∧
 plainA (some (Addr.mk (blk (cutA 0 1 a_3)) (plusI (off (cutA 0 1 a_3)) n_6 1) none)) = true ∧
 ∃ (h' : Hp), h.store (blk (cutA 0 1 a_3)) (plusI (off (cutA 0 1 a_3)) n_6 1) [Value.int IntKind.u8 90] = some h' ∧ ∃ (m' : Nat), lessN m' m_1 ∧ I_1 [Value.int IntKind.i64 (addW IntKind.i64 n_6 1)] m' h'
 else
 (a.isSome = true ∧ inR n l) ∧
 plainA (some (Addr.mk (blk a) (plusI (off a) n 4) none)) = true ∧
 ∃ (h' : Hp),
 h.store (blk a) (plusI (off a) n 4) [Value.int IntKind.u8 3, Value.int IntKind.i64 1, Value.bool false, Value.slice none 0 0] = some h' ∧
 ∃ (m' : Nat), lessN m' m ∧ I [Value.bool (sel (sel (sel (sel (sel b_1 (eqI n_1 n_2) false) (eqI n_3 n_4) false) (eqB b_2 b_3) false) b false) (eqI n_5 165) false), Value.int IntKind.i64 (addW IntKind.i64 n 1)] m' h'
 else K (Value.bool b_1) h) := by kernel_rfl

def shp87 : Nat → List (Tmp × TypeId) := fun i => []
theorem vc87 (C : FuncId → List Value → Hp → (Value → Hp → Prop) → Prop) (w p r : Nat) (h : Hp) (K : Value → Hp → Prop) : vBody Try.prog C pf shp87 Try.f87 (Try.f87.body.getD .skip) [.pointer (some ⟨w, 0, none⟩), .agg #[.pointer (some ⟨p, 0, none⟩), .pointer (some ⟨r, 0, none⟩)]] h K = (
 ∀ (h' : Hp),
 h' = h.alloc [Value.pointer (some (Addr.mk p 0 none)), Value.pointer (some (Addr.mk r 0 none))] 122 →
 plainA (some (Addr.mk h.next 0 none)) = true ∧
 ∃ (a : Option Addr),
 (plainA (some (Addr.mk h.next 0 none)) = true ∧ h'.cellsAt h.next 0 1 = some [Value.pointer a]) ∧
 C 34 [Value.pointer a] h' fun (v : Value) (h' : Hp) =>
 ∃ (a : Option Addr),
 ∃ (l : Nat),
 ∃ (c : Nat),
 v = Value.slice a l c ∧
 plainA (some (Addr.mk h.next 0 none)) = true ∧
 ∃ (a_1 : Option Addr),
 (plainA (some (Addr.mk h.next 0 none)) = true ∧ h'.cellsAt h.next 0 1 = some [Value.pointer a_1]) ∧
 C 30 [Value.pointer a_1] h' fun (v : Value) (h' : Hp) =>
 ∃ (a_2 : Option Addr),
 ∃ (l_1 : Nat),
 ∃ (c_1 : Nat),
 v = Value.slice a_2 l_1 c_1 ∧
 plainA (some (Addr.mk h.next 0 none)) = true ∧
 ∃ (a_3 : Option Addr),
 (plainA (some (Addr.mk h.next 1 none)) = true ∧ h'.cellsAt h.next 1 1 = some [Value.pointer a_3]) ∧
 C 103 [Value.pointer a_3] h' fun (v : Value) (h' : Hp) =>
 ∃ (a_4 : Option Addr),
 ∃ (l_2 : Nat),
 ∃ (c_2 : Nat),
 v = Value.slice a_4 l_2 c_2 ∧
 plainA (some (Addr.mk h.next 0 none)) = true ∧
 ∃ (a_5 : Option Addr),
 (plainA (some (Addr.mk h.next 1 none)) = true ∧ h'.cellsAt h.next 1 1 = some [Value.pointer a_5]) ∧
 a_5.isSome = true ∧
 plainA a_5 = true ∧
 ∃ (a_6 : Option Addr),
 ∃ (l_3 : Nat),
 ∃ (c_3 : Nat),
 (plainA (some (Addr.mk (blk a_5) (plusN (off a_5) 2) none)) = true ∧ h'.cellsAt (blk a_5) (plusN (off a_5) 2) 1 = some [Value.slice a_6 l_3 c_3]) ∧
 ∃ (a_7 : Option Addr),
 ∃ (m : Nat),
 ∃ (n : Nat),
 ∃ (h'_1 : Hp),
 cappend Try.prog 40 40 (Value.slice none 0 0) (Value.slice a_6 l_3 c_3) h' = some (Value.slice a_7 m n, h'_1) ∧
 (some (Addr.mk w 0 none)).isSome = true ∧
 plainA (some (Addr.mk w 0 none)) = true ∧
 ∃ (a_8 : Option Addr),
 ∃ (l_4 : Nat),
 ∃ (c_4 : Nat),
 (plainA (some (Addr.mk w 2 none)) = true ∧ h'_1.cellsAt w 2 1 = some [Value.slice a_8 l_4 c_4]) ∧
 ∀ (h' : Hp),
 h' = h'_1.alloc [Value.slice a l c] 40 →
 ∃ (a_10 : Option Addr),
 ∃ (m_1 : Nat),
 ∃ (n_1 : Nat),
 ∃ (h'_2 : Hp),
 cappend Try.prog 41 41 (Value.slice a_8 l_4 c_4) (Value.slice (some (Addr.mk h'_1.next 0 none)) 1 1) h' = some (Value.slice a_10 m_1 n_1, h'_2) ∧
 (some (Addr.mk w 0 none)).isSome = true ∧
 plainA (some (Addr.mk w 0 none)) = true ∧
 plainA (some (Addr.mk w 2 none)) = true ∧
 ∃ (h' : Hp),
 h'_2.store w 2 [Value.slice a_10 m_1 n_1] = some h' ∧
 (some (Addr.mk w 0 none)).isSome = true ∧
 plainA (some (Addr.mk w 0 none)) = true ∧
 ∃ (a_11 : Option Addr),
 ∃ (l_5 : Nat),
 ∃ (c_5 : Nat),
 (plainA (some (Addr.mk w 3 none)) = true ∧ h'.cellsAt w 3 1 = some [Value.slice a_11 l_5 c_5]) ∧
 ∀ (h'_3 : Hp),
 h'_3 = h'.alloc [Value.slice a_7 m n] 40 →
 ∃ (a_13 : Option Addr),
 ∃ (m_2 : Nat),
 ∃ (n_2 : Nat),
 ∃ (h'_4 : Hp),
 cappend Try.prog 41 41 (Value.slice a_11 l_5 c_5) (Value.slice (some (Addr.mk h'.next 0 none)) 1 1) h'_3 = some (Value.slice a_13 m_2 n_2, h'_4) ∧
 (some (Addr.mk w 0 none)).isSome = true ∧
 plainA (some (Addr.mk w 0 none)) = true ∧
 plainA (some (Addr.mk w 3 none)) = true ∧
 ∃ (h' : Hp),
 h'_4.store w 3 [Value.slice a_13 m_2 n_2] = some h' ∧
 (some (Addr.mk w 0 none)).isSome = true ∧
 plainA (some (Addr.mk w 0 none)) = true ∧
 ∃ (a_14 : Option Addr),
 ∃ (l_6 : Nat),
 ∃ (c_6 : Nat),
 (plainA (some (Addr.mk w 4 none)) = true ∧ h'.cellsAt w 4 1 = some [Value.slice a_14 l_6 c_6]) ∧
 ∀ (h'_5 : Hp),
 h'_5 = h'.alloc [Value.slice a_2 l_1 c_1] 51 →
 ∃ (a_16 : Option Addr),
 ∃ (m_3 : Nat),
 ∃ (n_3 : Nat),
 ∃ (h'_6 : Hp),
 cappend Try.prog 124 124 (Value.slice a_14 l_6 c_6) (Value.slice (some (Addr.mk h'.next 0 none)) 1 1) h'_5 = some (Value.slice a_16 m_3 n_3, h'_6) ∧
 (some (Addr.mk w 0 none)).isSome = true ∧
 plainA (some (Addr.mk w 0 none)) = true ∧
 plainA (some (Addr.mk w 4 none)) = true ∧
 ∃ (h' : Hp),
 h'_6.store w 4 [Value.slice a_16 m_3 n_3] = some h' ∧
 (some (Addr.mk w 0 none)).isSome = true ∧
 plainA (some (Addr.mk w 0 none)) = true ∧
 ∃ (a_17 : Option Addr),
 ∃ (l_7 : Nat),
 ∃ (c_7 : Nat),
 (plainA (some (Addr.mk w 5 none)) = true ∧ h'.cellsAt w 5 1 = some [Value.slice a_17 l_7 c_7]) ∧
 ∀ (h'_7 : Hp),
 h'_7 = h'.alloc [Value.slice a_4 l_2 c_2] 51 →
 ∃ (a_19 : Option Addr),
 ∃ (m_4 : Nat),
 ∃ (n_4 : Nat),
 ∃ (h'_8 : Hp),
 cappend Try.prog 124 124 (Value.slice a_17 l_7 c_7) (Value.slice (some (Addr.mk h'.next 0 none)) 1 1) h'_7 = some (Value.slice a_19 m_4 n_4, h'_8) ∧
 (some (Addr.mk w 0 none)).isSome = true ∧
 plainA (some (Addr.mk w 0 none)) = true ∧
 plainA (some (Addr.mk w 5 none)) = true ∧
 ∃ (h' : Hp),
 h'_8.store w 5 [Value.slice a_19 m_4 n_4] = some h' ∧
 C 43 [Value.slice a l c, Value.slice a_7 m n] h' fun (v : Value) (h' : Hp) =>
 ∃ (b : Bool),
 v = Value.bool b ∧
 ∃ (Q : Value → Hp → Prop),
 (b = true → C 90 [Value.slice a_2 l_1 c_1, Value.slice a_4 l_2 c_2] h' fun (v : Value) (h' : Hp) => ∃ (b : Bool), v = Value.bool b ∧ Q (Value.bool b) h') ∧
 (b = false → ∃ (b : Bool), Q (Value.bool b) h') ∧ ∀ (b_1 : Bool) (h' : Hp), Q (Value.bool b_1) h' → K (Value.bool (sel b b_1 false)) h') := by kernel_rfl

def shp89 : Nat → List (Tmp × TypeId) := fun i => []
theorem vc89 (C : FuncId → List Value → Hp → (Value → Hp → Prop) → Prop) (dO wh no n len b st : Int) (aa : Option Addr) (al ac : Nat) (fa : Option Addr) (fl fc : Nat) (h : Hp) (K : Value → Hp → Prop) : vBody Try.prog C pf shp89 Try.f89 (Try.f89.body.getD .skip) [.agg #[.int .i64 dO, .int .i64 wh, .int .u32 no, .int .i64 n, .int .i64 len, .int .u8 b, .int .u8 st, .slice aa al ac, .slice fa fl fc]] h K = (
 ∀ (h' : Hp),
 h' = h.alloc [Value.int IntKind.i64 dO, Value.int IntKind.i64 wh, Value.int IntKind.u32 no, Value.int IntKind.i64 n, Value.int IntKind.i64 len, Value.int IntKind.u8 b, Value.int IntKind.u8 st, Value.slice aa al ac, Value.slice fa fl fc] 47 →
 plainA (some (Addr.mk h.next 0 none)) = true ∧
 ∃ (n : Int),
 (plainA (some (Addr.mk h.next 2 none)) = true ∧ h'.cellsAt h.next 2 1 = some [Value.int IntKind.u32 n]) ∧
 C 55 [Value.pointer none, Value.int IntKind.u32 n] h' fun (v : Value) (h' : Hp) =>
 ∃ (s : ByteArray),
 ∃ (n : Int),
 v = Value.tuple (Array.mk [Value.string s, Value.int IntKind.i64 n]) ∧
 C 85 [Value.pointer none] h' fun (v : Value) (h' : Hp) =>
 ∃ (n_1 : Int),
 ∃ (n_2 : Int),
 v = Value.tuple (Array.mk [Value.int IntKind.i64 n_1, Value.int IntKind.i64 n_2]) ∧
 (sel (eqI n 1) (eqI n_2 1) false = true → plainA (some (Addr.mk h.next 0 none)) = true) ∧
 ∃ (n_3 : Int),
 (sel (eqI n 1) (eqI n_2 1) false = true → plainA (some (Addr.mk h.next 2 none)) = true ∧ h'.cellsAt h.next 2 1 = some [Value.int IntKind.u32 n_3]) ∧
 ∃ (Q : Value → Hp → Prop),
 (sel (eqI n 1) (eqI n_2 1) false = true → C 54 [Value.pointer none, Value.int IntKind.u32 n_3, Value.string (ByteArray.mk (Array.mk []))] h' fun (v : Value) (h' : Hp) => ∃ (n : Int), v = Value.int IntKind.i64 n ∧ Q (Value.int IntKind.i64 n) h') ∧
 (sel (eqI n 1) (eqI n_2 1) false = false → ∃ (n : Int), Q (Value.int IntKind.i64 n) h') ∧
 ∀ (n_4 : Int) (h' : Hp),
 Q (Value.int IntKind.i64 n_4) h' →
 (sel (sel (eqI n 1) (eqI n_2 1) false) (eqI n_4 1) false = true → plainA (some (Addr.mk h.next 0 none)) = true) ∧
 ∃ (n_5 : Int),
 (sel (sel (eqI n 1) (eqI n_2 1) false) (eqI n_4 1) false = true → plainA (some (Addr.mk h.next 3 none)) = true ∧ h'.cellsAt h.next 3 1 = some [Value.int IntKind.i64 n_5]) ∧
 ∃ (Q : Value → Hp → Prop),
 (sel (sel (eqI n 1) (eqI n_2 1) false) (eqI n_4 1) false = true → C 53 [Value.pointer none, Value.int IntKind.i64 n_5] h' fun (v : Value) (h' : Hp) => ∃ (n : Int), v = Value.int IntKind.i64 n ∧ Q (Value.int IntKind.i64 n) h') ∧
 (sel (sel (eqI n 1) (eqI n_2 1) false) (eqI n_4 1) false = false → ∃ (n : Int), Q (Value.int IntKind.i64 n) h') ∧
 ∀ (n_6 : Int) (h' : Hp),
 Q (Value.int IntKind.i64 n_6) h' →
 ∃ (Q : Value → Hp → Prop),
 (sel (sel (sel (eqI n 1) (eqI n_2 1) false) (eqI n_4 1) false) (eqI n_6 1) false = true → C 46 [Value.pointer none] h' fun (v : Value) (h' : Hp) => ∃ (n : Int), v = Value.int IntKind.i64 n ∧ Q (Value.int IntKind.i64 n) h') ∧
 (sel (sel (sel (eqI n 1) (eqI n_2 1) false) (eqI n_4 1) false) (eqI n_6 1) false = false → ∃ (n : Int), Q (Value.int IntKind.i64 n) h') ∧
 ∀ (n_7 : Int) (h' : Hp),
 Q (Value.int IntKind.i64 n_7) h' →
 (sel (sel (sel (sel (eqI n 1) (eqI n_2 1) false) (eqI n_4 1) false) (eqI n_6 1) false) (eqI n_7 1) false = true → plainA (some (Addr.mk h.next 0 none)) = true) ∧
 ∃ (a : Option Addr),
 ∃ (l : Nat),
 ∃ (c : Nat),
 (sel (sel (sel (sel (eqI n 1) (eqI n_2 1) false) (eqI n_4 1) false) (eqI n_6 1) false) (eqI n_7 1) false = true → plainA (some (Addr.mk h.next 7 none)) = true ∧ h'.cellsAt h.next 7 1 = some [Value.slice a l c]) ∧
 ∃ (Q : Value → Hp → Prop),
 (sel (sel (sel (sel (eqI n 1) (eqI n_2 1) false) (eqI n_4 1) false) (eqI n_6 1) false) (eqI n_7 1) false = true → C 44 [Value.pointer none, Value.slice a l c] h' fun (v : Value) (h' : Hp) => ∃ (n : Int), v = Value.int IntKind.i64 n ∧ Q (Value.int IntKind.i64 n) h') ∧
 (sel (sel (sel (sel (eqI n 1) (eqI n_2 1) false) (eqI n_4 1) false) (eqI n_6 1) false) (eqI n_7 1) false = false → ∃ (n : Int), Q (Value.int IntKind.i64 n) h') ∧
 ∀ (n_8 : Int) (h' : Hp),
 Q (Value.int IntKind.i64 n_8) h' →
 plainA (some (Addr.mk h.next 0 none)) = true ∧
 ∃ (a : Option Addr),
 ∃ (l : Nat),
 ∃ (c : Nat),
 (plainA (some (Addr.mk h.next 8 none)) = true ∧ h'.cellsAt h.next 8 1 = some [Value.slice a l c]) ∧
 C 32 [Value.pointer none, Value.slice a l c] h' fun (v : Value) (h' : Hp) =>
 ∃ (n_9 : Int),
 v = Value.int IntKind.i64 n_9 ∧
 ∃ (Q : Value → Hp → Prop),
 (eqI n_9 1 = true → C 36 [Value.pointer none] h' fun (v : Value) (h' : Hp) => ∃ (n : Int), v = Value.int IntKind.i64 n ∧ Q (Value.int IntKind.i64 n) h') ∧
 (eqI n_9 1 = false → ∃ (n : Int), Q (Value.int IntKind.i64 n) h') ∧
 ∀ (n_10 : Int) (h' : Hp),
 Q (Value.int IntKind.i64 n_10) h' →
 ∃ (Q : Value → Hp → Prop),
 (sel (eqI n_9 1) (eqI n_10 1) false = true → C 69 [Value.pointer none] h' fun (v : Value) (h' : Hp) => ∃ (n : Int), v = Value.int IntKind.i64 n ∧ Q (Value.int IntKind.i64 n) h') ∧
 (sel (eqI n_9 1) (eqI n_10 1) false = false → ∃ (n : Int), Q (Value.int IntKind.i64 n) h') ∧
 ∀ (n_11 : Int) (h' : Hp),
 Q (Value.int IntKind.i64 n_11) h' →
 ∃ (Q : Value → Hp → Prop),
 (sel (sel (eqI n_9 1) (eqI n_10 1) false) (eqI n_11 0) false = true → C 70 [Value.pointer none] h' fun (v : Value) (h' : Hp) => ∃ (n : Int), v = Value.int IntKind.i64 n ∧ Q (Value.int IntKind.i64 n) h') ∧
 (sel (sel (eqI n_9 1) (eqI n_10 1) false) (eqI n_11 0) false = false → ∃ (n : Int), Q (Value.int IntKind.i64 n) h') ∧
 ∀ (n_12 : Int) (h' : Hp),
 Q (Value.int IntKind.i64 n_12) h' →
 ∃ (Q : Value → Hp → Prop),
 (sel (sel (sel (eqI n_9 1) (eqI n_10 1) false) (eqI n_11 0) false) (eqI n_12 0) false = true → C 57 [Value.pointer none] h' fun (v : Value) (h' : Hp) => ∃ (n : Int), v = Value.int IntKind.i64 n ∧ Q (Value.int IntKind.i64 n) h') ∧
 (sel (sel (sel (eqI n_9 1) (eqI n_10 1) false) (eqI n_11 0) false) (eqI n_12 0) false = false → ∃ (n : Int), Q (Value.int IntKind.i64 n) h') ∧
 ∀ (n_13 : Int) (h' : Hp),
 Q (Value.int IntKind.i64 n_13) h' →
 ∃ (Q : Value → Hp → Prop),
 (sel (sel (sel (sel (eqI n_9 1) (eqI n_10 1) false) (eqI n_11 0) false) (eqI n_12 0) false) (eqI n_13 0) false = true → C 45 [Value.pointer none] h' fun (v : Value) (h' : Hp) => ∃ (n : Int), v = Value.int IntKind.i64 n ∧ Q (Value.int IntKind.i64 n) h') ∧
 (sel (sel (sel (sel (eqI n_9 1) (eqI n_10 1) false) (eqI n_11 0) false) (eqI n_12 0) false) (eqI n_13 0) false = false → ∃ (n : Int), Q (Value.int IntKind.i64 n) h') ∧
 ∀ (n_14 : Int) (h' : Hp),
 Q (Value.int IntKind.i64 n_14) h' →
 ∃ (Q : Value → Hp → Prop),
 (sel (sel (sel (sel (sel (eqI n_9 1) (eqI n_10 1) false) (eqI n_11 0) false) (eqI n_12 0) false) (eqI n_13 0) false) (eqI n_14 0) false = true →
 C 38 [Value.pointer none] h' fun (v : Value) (h' : Hp) => ∃ (b : Bool), v = Value.bool b ∧ Q (Value.bool b) h') ∧
 (sel (sel (sel (sel (sel (eqI n_9 1) (eqI n_10 1) false) (eqI n_11 0) false) (eqI n_12 0) false) (eqI n_13 0) false) (eqI n_14 0) false = false → ∃ (b : Bool), Q (Value.bool b) h') ∧
 ∀ (b : Bool) (h' : Hp),
 Q (Value.bool b) h' →
 ∃ (Q : Value → Hp → Prop),
 (sel (sel (sel (sel (sel (sel (eqI n_9 1) (eqI n_10 1) false) (eqI n_11 0) false) (eqI n_12 0) false) (eqI n_13 0) false) (eqI n_14 0) false) (notB b) false = true →
 C 56 [Value.pointer none] h' fun (v : Value) (h' : Hp) => ∃ (n : Int), v = Value.int IntKind.i64 n ∧ Q (Value.int IntKind.i64 n) h') ∧
 (sel (sel (sel (sel (sel (sel (eqI n_9 1) (eqI n_10 1) false) (eqI n_11 0) false) (eqI n_12 0) false) (eqI n_13 0) false) (eqI n_14 0) false) (notB b) false = false → ∃ (n : Int), Q (Value.int IntKind.i64 n) h') ∧
 ∀ (n_15 : Int) (h' : Hp),
 Q (Value.int IntKind.i64 n_15) h' →
 ∃ (Q : Value → Hp → Prop),
 (sel (sel (sel (sel (sel (sel (eqI n 1) (eqI n_2 1) false) (eqI n_4 1) false) (eqI n_6 1) false) (eqI n_7 1) false) (eqI n_8 1) false)
 (sel (sel (sel (sel (sel (sel (sel (eqI n_9 1) (eqI n_10 1) false) (eqI n_11 0) false) (eqI n_12 0) false) (eqI n_13 0) false) (eqI n_14 0) false) (notB b) false) (eqI n_15 0) false) false =
 true →
 C 39 [Value.pointer none] h' fun (v : Value) (h' : Hp) => ∃ (n : Int), v = Value.int IntKind.i64 n ∧ Q (Value.int IntKind.i64 n) h') ∧
 (sel (sel (sel (sel (sel (sel (eqI n 1) (eqI n_2 1) false) (eqI n_4 1) false) (eqI n_6 1) false) (eqI n_7 1) false) (eqI n_8 1) false)
 (sel (sel (sel (sel (sel (sel (sel (eqI n_9 1) (eqI n_10 1) false) (eqI n_11 0) false) (eqI n_12 0) false) (eqI n_13 0) false) (eqI n_14 0) false) (notB b) false) (eqI n_15 0) false) false =
 false →
 ∃ (n : Int), Q (Value.int IntKind.i64 n) h') ∧
 ∀ (n_16 : Int) (h' : Hp),
 Q (Value.int IntKind.i64 n_16) h' →
 ∃ (Q : Value → Hp → Prop),
 (sel
 (sel (sel (sel (sel (sel (sel (eqI n 1) (eqI n_2 1) false) (eqI n_4 1) false) (eqI n_6 1) false) (eqI n_7 1) false) (eqI n_8 1) false)
 (sel (sel (sel (sel (sel (sel (sel (eqI n_9 1) (eqI n_10 1) false) (eqI n_11 0) false) (eqI n_12 0) false) (eqI n_13 0) false) (eqI n_14 0) false) (notB b) false) (eqI n_15 0) false) false)
 (eqI n_16 0) false =
 true →
 C 30 [Value.pointer none] h' fun (v : Value) (h' : Hp) => ∃ (a : Option Addr), ∃ (l : Nat), ∃ (c : Nat), v = Value.slice a l c ∧ Q (Value.slice a l c) h') ∧
 (sel
 (sel (sel (sel (sel (sel (sel (eqI n 1) (eqI n_2 1) false) (eqI n_4 1) false) (eqI n_6 1) false) (eqI n_7 1) false) (eqI n_8 1) false)
 (sel (sel (sel (sel (sel (sel (sel (eqI n_9 1) (eqI n_10 1) false) (eqI n_11 0) false) (eqI n_12 0) false) (eqI n_13 0) false) (eqI n_14 0) false) (notB b) false) (eqI n_15 0) false) false)
 (eqI n_16 0) false =
 false →
 ∃ (a : Option Addr), ∃ (l : Nat), ∃ (c : Nat), Q (Value.slice a l c) h') ∧
 ∀ (a : Option Addr) (l c : Nat) (h' : Hp),
 Q (Value.slice a l c) h' →
 ∃ (Q : Value → Hp → Prop),
 (sel
 (sel
 (sel (sel (sel (sel (sel (sel (eqI n 1) (eqI n_2 1) false) (eqI n_4 1) false) (eqI n_6 1) false) (eqI n_7 1) false) (eqI n_8 1) false)
 (sel (sel (sel (sel (sel (sel (sel (eqI n_9 1) (eqI n_10 1) false) (eqI n_11 0) false) (eqI n_12 0) false) (eqI n_13 0) false) (eqI n_14 0) false) (notB b) false) (eqI n_15 0) false) false)
 (eqI n_16 0) false)
 (eqI (natI l) 0) false =
 true →
 C 34 [Value.pointer none] h' fun (v : Value) (h' : Hp) => ∃ (a : Option Addr), ∃ (l : Nat), ∃ (c : Nat), v = Value.slice a l c ∧ Q (Value.slice a l c) h') ∧
 (sel
 (sel
 (sel (sel (sel (sel (sel (sel (eqI n 1) (eqI n_2 1) false) (eqI n_4 1) false) (eqI n_6 1) false) (eqI n_7 1) false) (eqI n_8 1) false)
 (sel (sel (sel (sel (sel (sel (sel (eqI n_9 1) (eqI n_10 1) false) (eqI n_11 0) false) (eqI n_12 0) false) (eqI n_13 0) false) (eqI n_14 0) false) (notB b) false) (eqI n_15 0) false) false)
 (eqI n_16 0) false)
 (eqI (natI l) 0) false =
 false →
 ∃ (a : Option Addr), ∃ (l : Nat), ∃ (c : Nat), Q (Value.slice a l c) h') ∧
 ∀ (a : Option Addr) (l_1 c : Nat) (h' : Hp),
 Q (Value.slice a l_1 c) h' →
 ∃ (Q : Value → Hp → Prop),
 (sel
 (sel
 (sel
 (sel (sel (sel (sel (sel (sel (eqI n 1) (eqI n_2 1) false) (eqI n_4 1) false) (eqI n_6 1) false) (eqI n_7 1) false) (eqI n_8 1) false)
 (sel (sel (sel (sel (sel (sel (sel (eqI n_9 1) (eqI n_10 1) false) (eqI n_11 0) false) (eqI n_12 0) false) (eqI n_13 0) false) (eqI n_14 0) false) (notB b) false) (eqI n_15 0)
 false)
 false)
 (eqI n_16 0) false)
 (eqI (natI l) 0) false)
 (eqI (natI l_1) 0) false =
 true →
 C 37 [Value.pointer none] h' fun (v : Value) (h' : Hp) =>
 ∃ (n : Int),
 ∃ (n_17 : Int),
 ∃ (n_18 : Int),
 v = Value.agg (Array.mk [Value.int IntKind.i64 n, Value.int IntKind.i64 n_17, Value.int IntKind.i64 n_18]) ∧
 Q (Value.agg (Array.mk [Value.int IntKind.i64 n, Value.int IntKind.i64 n_17, Value.int IntKind.i64 n_18])) h') ∧
 (sel
 (sel
 (sel
 (sel (sel (sel (sel (sel (sel (eqI n 1) (eqI n_2 1) false) (eqI n_4 1) false) (eqI n_6 1) false) (eqI n_7 1) false) (eqI n_8 1) false)
 (sel (sel (sel (sel (sel (sel (sel (eqI n_9 1) (eqI n_10 1) false) (eqI n_11 0) false) (eqI n_12 0) false) (eqI n_13 0) false) (eqI n_14 0) false) (notB b) false) (eqI n_15 0)
 false)
 false)
 (eqI n_16 0) false)
 (eqI (natI l) 0) false)
 (eqI (natI l_1) 0) false =
 false →
 ∃ (n : Int), ∃ (n_17 : Int), ∃ (n_18 : Int), Q (Value.agg (Array.mk [Value.int IntKind.i64 n, Value.int IntKind.i64 n_17, Value.int IntKind.i64 n_18])) h') ∧
 ∀ (n_17 n_18 n_19 : Int) (h' : Hp),
 Q (Value.agg (Array.mk [Value.int IntKind.i64 n_17, Value.int IntKind.i64 n_18, Value.int IntKind.i64 n_19])) h' →
 ∃ (Q : Value → Hp → Prop),
 (sel
 (sel
 (sel
 (sel
 (sel (sel (sel (sel (sel (sel (eqI n 1) (eqI n_2 1) false) (eqI n_4 1) false) (eqI n_6 1) false) (eqI n_7 1) false) (eqI n_8 1) false)
 (sel (sel (sel (sel (sel (sel (sel (eqI n_9 1) (eqI n_10 1) false) (eqI n_11 0) false) (eqI n_12 0) false) (eqI n_13 0) false) (eqI n_14 0) false) (notB b) false)
 (eqI n_15 0) false)
 false)
 (eqI n_16 0) false)
 (eqI (natI l) 0) false)
 (eqI (natI l_1) 0) false)
 (andB (eqI n_17 (Int.ofNat 0)) (andB (eqI n_18 (Int.ofNat 0)) (andB (eqI n_19 (Int.ofNat 0)) true))) false =
 true →
 C 31 [Value.pointer none] h' fun (v : Value) (h' : Hp) => ∃ (a : Option Addr), v = Value.pointer a ∧ Q (Value.pointer a) h') ∧
 (sel
 (sel
 (sel
 (sel
 (sel (sel (sel (sel (sel (sel (eqI n 1) (eqI n_2 1) false) (eqI n_4 1) false) (eqI n_6 1) false) (eqI n_7 1) false) (eqI n_8 1) false)
 (sel (sel (sel (sel (sel (sel (sel (eqI n_9 1) (eqI n_10 1) false) (eqI n_11 0) false) (eqI n_12 0) false) (eqI n_13 0) false) (eqI n_14 0) false) (notB b) false)
 (eqI n_15 0) false)
 false)
 (eqI n_16 0) false)
 (eqI (natI l) 0) false)
 (eqI (natI l_1) 0) false)
 (andB (eqI n_17 (Int.ofNat 0)) (andB (eqI n_18 (Int.ofNat 0)) (andB (eqI n_19 (Int.ofNat 0)) true))) false =
 false →
 ∃ (a : Option Addr), Q (Value.pointer a) h') ∧
 ∀ (a : Option Addr) (h' : Hp),
 Q (Value.pointer a) h' →
 K
 (Value.bool
 (sel
 (sel
 (sel
 (sel
 (sel
 (sel (sel (sel (sel (sel (sel (eqI n 1) (eqI n_2 1) false) (eqI n_4 1) false) (eqI n_6 1) false) (eqI n_7 1) false) (eqI n_8 1) false)
 (sel
 (sel (sel (sel (sel (sel (sel (eqI n_9 1) (eqI n_10 1) false) (eqI n_11 0) false) (eqI n_12 0) false) (eqI n_13 0) false) (eqI n_14 0) false) (notB b) false)
 (eqI n_15 0) false)
 false)
 (eqI n_16 0) false)
 (eqI (natI l) 0) false)
 (eqI (natI l_1) 0) false)
 (andB (eqI n_17 (Int.ofNat 0)) (andB (eqI n_18 (Int.ofNat 0)) (andB (eqI n_19 (Int.ofNat 0)) true))) false)
 (isN a) false))
 h') := by kernel_rfl

def shp49 : Nat → List (Tmp × TypeId) := fun i => if i = 1000004 then [(5, 3)] else if i = 1000037 then [(211, 4)] else []
theorem vc49 (C : FuncId → List Value → Hp → (Value → Hp → Prop) → Prop) (w : Nat) (dO wh no n len b st : Int) (aa : Option Addr) (al ac : Nat) (fa : Option Addr) (fl fc : Nat) (h : Hp) (K : Value → Hp → Prop) : vBody Try.prog C pf shp49 Try.f49 (Try.f49.body.getD .skip) [.pointer (some ⟨w, 0, none⟩), .agg #[.int .i64 dO, .int .i64 wh, .int .u32 no, .int .i64 n, .int .i64 len, .int .u8 b, .int .u8 st, .slice aa al ac, .slice fa fl fc]] h K = (
 ∀ (h' : Hp),
 h' = h.alloc [Value.int IntKind.i64 dO, Value.int IntKind.i64 wh, Value.int IntKind.u32 no, Value.int IntKind.i64 n, Value.int IntKind.i64 len, Value.int IntKind.u8 b, Value.int IntKind.u8 st, Value.slice aa al ac, Value.slice fa fl fc] 47 →
 plainA (some (Addr.mk h.next 0 none)) = true ∧
 ∃ (n : Int),
 (plainA (some (Addr.mk h.next 1 none)) = true ∧ h'.cellsAt h.next 1 1 = some [Value.int IntKind.i64 n]) ∧
 (some (Addr.mk w 0 none)).isSome = true ∧
 plainA (some (Addr.mk w 0 none)) = true ∧
 ∃ (a : Option Addr),
 ∃ (l : Nat),
 ∃ (c : Nat),
 (plainA (some (Addr.mk w 0 none)) = true ∧ h'.cellsAt w 0 1 = some [Value.slice a l c]) ∧
 nonzero (natI l) ∧
 ∃ (J : List Value → Hp → Prop),
 (if ltI (remW n (natI l)) 0 = true then (some (Addr.mk w 0 none)).isSome = true ∧ plainA (some (Addr.mk w 0 none)) = true ∧ ∃ (a : Option Addr), ∃ (l_1 : Nat), ∃ (c : Nat), (plainA (some (Addr.mk w 0 none)) = true ∧ h'.cellsAt w 0 1 = some [Value.slice a l_1 c]) ∧ J [Value.int IntKind.i64 (addW IntKind.i64 (remW n (natI l)) (natI l_1))] h'
 else J [Value.int IntKind.i64 (remW n (natI l))] h') ∧
 ∀ (n : Int) (h_1 : Hp),
 J [Value.int IntKind.i64 n] h_1 →
 (some (Addr.mk w 0 none)).isSome = true ∧
 plainA (some (Addr.mk w 0 none)) = true ∧
 ∃ (a : Option Addr),
 ∃ (l : Nat),
 ∃ (c : Nat),
 (plainA (some (Addr.mk w 0 none)) = true ∧ h_1.cellsAt w 0 1 = some [Value.slice a l c]) ∧
 (a.isSome = true ∧ inR n l) ∧
 plainA (some (Addr.mk (blk a) (plusI (off a) n 2) none)) = true ∧
 ∃ (a_1 : Option Addr),
 (plainA (some (Addr.mk (blk a) (plusI (off a) n 2) none)) = true ∧ h_1.cellsAt (blk a) (plusI (off a) n 2) 1 = some [Value.pointer a_1]) ∧
 (some (Addr.mk w 0 none)).isSome = true ∧
 plainA (some (Addr.mk w 0 none)) = true ∧
 ∃ (a : Option Addr),
 ∃ (l : Nat),
 ∃ (c : Nat),
 (plainA (some (Addr.mk w 0 none)) = true ∧ h_1.cellsAt w 0 1 = some [Value.slice a l c]) ∧
 (a.isSome = true ∧ inR n l) ∧
 plainA (some (Addr.mk (blk a) (plusI (off a) n 2) none)) = true ∧
 ∃ (a_2 : Option Addr),
 (plainA (some (Addr.mk (blk a) (plusN (plusI (off a) n 2) 1) none)) = true ∧ h_1.cellsAt (blk a) (plusN (plusI (off a) n 2) 1) 1 = some [Value.pointer a_2]) ∧
 plainA (some (Addr.mk h.next 0 none)) = true ∧
 ∃ (n_1 : Int),
 (plainA (some (Addr.mk h.next 0 none)) = true ∧ h_1.cellsAt h.next 0 1 = some [Value.int IntKind.i64 n_1]) ∧
 if eqI n_1 0 = true then
 plainA (some (Addr.mk h.next 0 none)) = true ∧
 ∃ (n : Int),
 (plainA (some (Addr.mk h.next 2 none)) = true ∧ h_1.cellsAt h.next 2 1 = some [Value.int IntKind.u32 n]) ∧
 C 55 [Value.pointer a_1, Value.int IntKind.u32 n] h_1 fun (v : Value) (h' : Hp) =>
 ∃ (s : ByteArray),
 ∃ (n : Int),
 v = Value.tuple (Array.mk [Value.string s, Value.int IntKind.i64 n]) ∧
 plainA (some (Addr.mk h.next 0 none)) = true ∧
 ∃ (n_2 : Int),
 (plainA (some (Addr.mk h.next 2 none)) = true ∧ h'.cellsAt h.next 2 1 = some [Value.int IntKind.u32 n_2]) ∧
 C 75 [Value.pointer a_2, Value.int IntKind.u32 n_2] h' fun (v : Value) (h' : Hp) => ∃ (s_1 : ByteArray), ∃ (n_3 : Int), v = Value.tuple (Array.mk [Value.string s_1, Value.int IntKind.i64 n_3]) ∧ K (Value.bool (sel (strEq s s_1) (eqI n n_3) false)) h'
 else
 if eqI n_1 1 = true then
 plainA (some (Addr.mk h.next 0 none)) = true ∧
 ∃ (n : Int),
 ∃ (n_2 : Int),
 ∃ (n_3 : Int),
 (plainA (some (Addr.mk h.next 4 none)) = true ∧ h_1.cellsAt h.next 4 3 = some [Value.int IntKind.i64 n, Value.int IntKind.u8 n_2, Value.int IntKind.u8 n_3]) ∧
 (some (Addr.mk w 0 none)).isSome = true ∧
 plainA (some (Addr.mk w 0 none)) = true ∧
 ∃ (n_4 : Int),
 (plainA (some (Addr.mk w 1 none)) = true ∧ h_1.cellsAt w 1 1 = some [Value.int IntKind.i64 n_4]) ∧
 C 29 [Value.agg (Array.mk [Value.int IntKind.i64 n, Value.int IntKind.u8 n_2, Value.int IntKind.u8 n_3]), Value.int IntKind.i64 n_4] h_1 fun (v : Value) (h' : Hp) =>
 ∃ (s : ByteArray),
 v = Value.string s ∧
 plainA (some (Addr.mk h.next 0 none)) = true ∧
 ∃ (n : Int),
 (plainA (some (Addr.mk h.next 2 none)) = true ∧ h'.cellsAt h.next 2 1 = some [Value.int IntKind.u32 n]) ∧
 plainA (some (Addr.mk h.next 0 none)) = true ∧
 ∃ (n_5 : Int),
 (plainA (some (Addr.mk h.next 2 none)) = true ∧ h'.cellsAt h.next 2 1 = some [Value.int IntKind.u32 n_5]) ∧
 C 54 [Value.pointer a_1, Value.int IntKind.u32 n, Value.string s] h' fun (v : Value) (h' : Hp) =>
 ∃ (n : Int),
 v = Value.int IntKind.i64 n ∧
 (plainA (some (Addr.mk h.next 2 none)) = true ∧ h'.cellsAt h.next 2 1 = some [Value.int IntKind.u32 n_5]) ∧
 C 76 [Value.pointer a_2, Value.int IntKind.u32 n_5, Value.string s] h' fun (v : Value) (h' : Hp) => ∃ (n_6 : Int), v = Value.int IntKind.i64 n_6 ∧ K (Value.bool (eqI n n_6)) h'
 else
 if eqI n_1 2 = true then
 plainA (some (Addr.mk h.next 0 none)) = true ∧
 ∃ (n : Int),
 (plainA (some (Addr.mk h.next 3 none)) = true ∧ h_1.cellsAt h.next 3 1 = some [Value.int IntKind.i64 n]) ∧
 plainA (some (Addr.mk h.next 0 none)) = true ∧
 ∃ (n_2 : Int),
 (plainA (some (Addr.mk h.next 3 none)) = true ∧ h_1.cellsAt h.next 3 1 = some [Value.int IntKind.i64 n_2]) ∧
 C 53 [Value.pointer a_1, Value.int IntKind.i64 n] h_1 fun (v : Value) (h' : Hp) =>
 ∃ (n : Int),
 v = Value.int IntKind.i64 n ∧ (plainA (some (Addr.mk h.next 3 none)) = true ∧ h'.cellsAt h.next 3 1 = some [Value.int IntKind.i64 n_2]) ∧ C 77 [Value.pointer a_2, Value.int IntKind.i64 n_2] h' fun (v : Value) (h' : Hp) => ∃ (n_3 : Int), v = Value.int IntKind.i64 n_3 ∧ K (Value.bool (eqI n n_3)) h'
 else
 if eqI n_1 3 = true then C 46 [Value.pointer a_1] h_1 fun (v : Value) (h' : Hp) => ∃ (n : Int), v = Value.int IntKind.i64 n ∧ C 78 [Value.pointer a_2] h' fun (v : Value) (h' : Hp) => ∃ (n_2 : Int), v = Value.int IntKind.i64 n_2 ∧ K (Value.bool (eqI n n_2)) h'
 else
 if eqI n_1 4 = true then
 plainA (some (Addr.mk h.next 0 none)) = true ∧
 ∃ (a : Option Addr),
 ∃ (l : Nat),
 ∃ (c : Nat),
 (plainA (some (Addr.mk h.next 7 none)) = true ∧ h_1.cellsAt h.next 7 1 = some [Value.slice a l c]) ∧
 C 79 [Value.slice a l c] h_1 fun (v : Value) (h' : Hp) =>
 ∃ (a : Option Addr),
 ∃ (l : Nat),
 ∃ (c : Nat),
 v = Value.slice a l c ∧
 C 44 [Value.pointer a_1, Value.slice a l c] h' fun (v : Value) (h' : Hp) =>
 ∃ (n : Int),
 v = Value.int IntKind.i64 n ∧
 plainA (some (Addr.mk h.next 0 none)) = true ∧
 ∃ (a_3 : Option Addr),
 ∃ (l_1 : Nat),
 ∃ (c_1 : Nat),
 (plainA (some (Addr.mk h.next 7 none)) = true ∧ h'.cellsAt h.next 7 1 = some [Value.slice a_3 l_1 c_1]) ∧
 C 80 [Value.pointer a_2, Value.slice a_3 l_1 c_1] h' fun (v : Value) (h' : Hp) =>
 ∃ (n_2 : Int),
 v = Value.int IntKind.i64 n_2 ∧
 plainA (some (Addr.mk h.next 0 none)) = true ∧
 ∃ (a_4 : Option Addr),
 ∃ (l_2 : Nat),
 ∃ (c_2 : Nat),
 (plainA (some (Addr.mk h.next 7 none)) = true ∧ h'.cellsAt h.next 7 1 = some [Value.slice a_4 l_2 c_2]) ∧
 C 81 [Value.slice a l c, Value.slice a_4 l_2 c_2] h' fun (v : Value) (h' : Hp) => ∃ (b : Bool), v = Value.bool b ∧ K (Value.bool (sel b (eqI n n_2) false)) h'
 else
 if eqI n_1 5 = true then
 plainA (some (Addr.mk h.next 0 none)) = true ∧
 ∃ (a : Option Addr),
 ∃ (l : Nat),
 ∃ (c : Nat),
 (plainA (some (Addr.mk h.next 8 none)) = true ∧ h_1.cellsAt h.next 8 1 = some [Value.slice a l c]) ∧
 ∃ (a_3 : Option Addr),
 ∃ (m : Nat),
 ∃ (n : Nat),
 ∃ (h' : Hp),
 cappend Try.prog 36 36 (Value.slice none 0 0) (Value.slice a l c) h_1 = some (Value.slice a_3 m n, h') ∧
 ∀ (h'_1 : Hp),
 h'_1 = h'.alloc [Value.int IntKind.u8 165] 57 →
 ∃ (a : Option Addr),
 ∃ (m_1 : Nat),
 ∃ (n_2 : Nat),
 ∃ (h'_2 : Hp),
 cappend Try.prog 36 36 (Value.slice a_3 m n) (Value.slice (some (Addr.mk h'.next 0 none)) 1 1) h'_1 = some (Value.slice a m_1 n_2, h'_2) ∧
 plainA (some (Addr.mk h.next 0 none)) = true ∧
 ∃ (a_4 : Option Addr),
 ∃ (l : Nat),
 ∃ (c : Nat),
 (plainA (some (Addr.mk h.next 8 none)) = true ∧ h'_2.cellsAt h.next 8 1 = some [Value.slice a_4 l c]) ∧
 (cutOk 0 (natI l) (natI n_2) (natI n_2) ∧ spotOk 1 a) ∧
 C 32 [Value.pointer a_1, Value.slice (cutA 0 1 a) (diffN (natI l) 0) (diffN (natI n_2) 0)] h'_2 fun (v : Value) (h' : Hp) =>
 ∃ (n : Int),
 v = Value.int IntKind.i64 n ∧
 plainA (some (Addr.mk h.next 0 none)) = true ∧
 ∃ (a_5 : Option Addr),
 ∃ (l : Nat),
 ∃ (c : Nat),
 (plainA (some (Addr.mk h.next 8 none)) = true ∧ h'.cellsAt h.next 8 1 = some [Value.slice a_5 l c]) ∧
 C 82 [Value.pointer a_2, Value.slice a_5 l c] h' fun (v : Value) (h' : Hp) =>
 ∃ (n_3 : Int),
 v = Value.int IntKind.i64 n_3 ∧
 (eqI n n_3 = true → plainA (some (Addr.mk h.next 0 none)) = true) ∧
 ∃ (a_6 : Option Addr),
 ∃ (l : Nat),
 ∃ (c : Nat),
 (eqI n n_3 = true → plainA (some (Addr.mk h.next 8 none)) = true ∧ h'.cellsAt h.next 8 1 = some [Value.slice a_6 l c]) ∧
 (eqI n n_3 = true → cutOk 0 (natI l) (natI n_2) (natI n_2) ∧ spotOk 1 a) ∧
 (eqI n n_3 = true → plainA (some (Addr.mk h.next 0 none)) = true) ∧
 ∃ (a_7 : Option Addr),
 ∃ (l_1 : Nat),
 ∃ (c : Nat),
 (eqI n n_3 = true → plainA (some (Addr.mk h.next 8 none)) = true ∧ h'.cellsAt h.next 8 1 = some [Value.slice a_7 l_1 c]) ∧
 ∃ (Q : Value → Hp → Prop),
 (eqI n n_3 = true → C 83 [Value.slice (cutA 0 1 a) (diffN (natI l) 0) (diffN (natI n_2) 0), Value.slice a_7 l_1 c] h' fun (v : Value) (h' : Hp) => ∃ (b : Bool), v = Value.bool b ∧ Q (Value.bool b) h') ∧
 (eqI n n_3 = false → ∃ (b : Bool), Q (Value.bool b) h') ∧
 ∀ (b : Bool) (h' : Hp),
 Q (Value.bool b) h' →
 (sel (eqI n n_3) b false = true → plainA (some (Addr.mk h.next 0 none)) = true) ∧
 ∃ (a_9 : Option Addr),
 ∃ (l : Nat),
 ∃ (c : Nat),
 (sel (eqI n n_3) b false = true → plainA (some (Addr.mk h.next 8 none)) = true ∧ h'.cellsAt h.next 8 1 = some [Value.slice a_9 l c]) ∧
 (sel (eqI n n_3) b false = true → a.isSome = true ∧ inR (natI l) m_1) ∧
 ∃ (n_4 : Int),
 (sel (eqI n n_3) b false = true → plainA (some (Addr.mk (blk a) (plusI (off a) (natI l) 1) none)) = true ∧ h'.cellsAt (blk a) (plusI (off a) (natI l) 1) 1 = some [Value.int IntKind.u8 n_4]) ∧
 K (Value.bool (sel (sel (eqI n n_3) b false) (eqI n_4 165) false)) h'
 else
 if eqI n_1 6 = true then C 36 [Value.pointer a_1] h_1 fun (v : Value) (h' : Hp) => ∃ (n : Int), v = Value.int IntKind.i64 n ∧ C 84 [Value.pointer a_2] h' fun (v : Value) (h' : Hp) => ∃ (n_2 : Int), v = Value.int IntKind.i64 n_2 ∧ K (Value.bool (eqI n n_2)) h'
 else
 if eqI n_1 7 = true then
 C 85 [Value.pointer a_1] h_1 fun (v : Value) (h' : Hp) =>
 ∃ (n : Int),
 ∃ (n_2 : Int),
 v = Value.tuple (Array.mk [Value.int IntKind.i64 n, Value.int IntKind.i64 n_2]) ∧
 C 86 [Value.pointer a_2] h' fun (v : Value) (h' : Hp) => ∃ (n_3 : Int), ∃ (n_4 : Int), v = Value.tuple (Array.mk [Value.int IntKind.i64 n_3, Value.int IntKind.i64 n_4]) ∧ K (Value.bool (sel (eqI n n_3) (eqI n_2 n_4) false)) h'
 else
 ∃ (J : List Value → Hp → Prop),
 (if eqI n_1 8 = true then J [Value.bool (eqI n_1 8)] h_1 else J [Value.bool (eqI n_1 9)] h_1) ∧
 ∀ (b : Bool) (h_2 : Hp),
 J [Value.bool b] h_2 →
 if b = true then
 (some (Addr.mk w 0 none)).isSome = true ∧
 plainA (some (Addr.mk w 0 none)) = true ∧
 ∃ (a : Option Addr),
 ∃ (l : Nat),
 ∃ (c : Nat),
 (plainA (some (Addr.mk w 0 none)) = true ∧ h_2.cellsAt w 0 1 = some [Value.slice a l c]) ∧
 (a.isSome = true ∧ inR n l) ∧
 ∃ (a_3 : Option Addr),
 ∃ (a_4 : Option Addr),
 (plainA (some (Addr.mk (blk a) (plusI (off a) n 2) none)) = true ∧ h_2.cellsAt (blk a) (plusI (off a) n 2) 2 = some [Value.pointer a_3, Value.pointer a_4]) ∧
 C 87 [Value.pointer (some (Addr.mk w 0 none)), Value.agg (Array.mk [Value.pointer a_3, Value.pointer a_4])] h_2 fun (v : Value) (h' : Hp) => ∃ (b : Bool), v = Value.bool b ∧ K (Value.bool b) h'
 else
 if eqI n_1 10 = true then C 42 [Value.pointer a_1, Value.pointer a_2] h_2 fun (v : Value) (h' : Hp) => ∃ (b : Bool), v = Value.bool b ∧ K (Value.bool b) h'
 else
 if eqI n_1 11 = true then
 C 31 [Value.pointer a_1] h_2 fun (v : Value) (h' : Hp) =>
 ∃ (a : Option Addr),
 v = Value.pointer a ∧
 if isN a = true then K (Value.bool false) h'
 else
 (some (Addr.mk w 0 none)).isSome = true ∧
 plainA (some (Addr.mk w 0 none)) = true ∧
 ∃ (a_3 : Option Addr),
 ∃ (l : Nat),
 ∃ (c : Nat),
 (plainA (some (Addr.mk w 0 none)) = true ∧ h'.cellsAt w 0 1 = some [Value.slice a_3 l c]) ∧
 C 88 [Value.pointer a_2] h' fun (v : Value) (h' : Hp) =>
 ∃ (a_4 : Option Addr),
 v = Value.pointer a_4 ∧
 (plainA (some (Addr.mk w 0 none)) = true ∧ h'.cellsAt w 0 1 = some [Value.slice a_3 l c]) ∧
 ∀ (h'_1 : Hp),
 h'_1 = h'.alloc [Value.pointer a, Value.pointer a_4] 122 →
 (plainA (some (Addr.mk w 0 none)) = true ∧ h'_1.cellsAt w 0 1 = some [Value.slice a_3 l c]) ∧
 ∃ (a : Option Addr),
 ∃ (m : Nat),
 ∃ (n : Nat),
 ∃ (h'_2 : Hp),
 cappend Try.prog 123 123 (Value.slice a_3 l c) (Value.slice (some (Addr.mk h'.next 0 none)) 1 1) h'_1 = some (Value.slice a m n, h'_2) ∧
 (some (Addr.mk w 0 none)).isSome = true ∧
 plainA (some (Addr.mk w 0 none)) = true ∧
 plainA (some (Addr.mk w 0 none)) = true ∧
 ∃ (h' : Hp),
 h'_2.store w 0 [Value.slice a m n] = some h' ∧
 (some (Addr.mk w 0 none)).isSome = true ∧
 plainA (some (Addr.mk w 0 none)) = true ∧
 ∃ (a : Option Addr),
 ∃ (l : Nat),
 ∃ (c : Nat),
 (plainA (some (Addr.mk w 0 none)) = true ∧ h'.cellsAt w 0 1 = some [Value.slice a l c]) ∧
 if gtI (natI l) 4 = true then
 (some (Addr.mk w 0 none)).isSome = true ∧
 plainA (some (Addr.mk w 0 none)) = true ∧
 ∃ (a : Option Addr),
 ∃ (l : Nat),
 ∃ (c : Nat),
 (plainA (some (Addr.mk w 0 none)) = true ∧ h'.cellsAt w 0 1 = some [Value.slice a l c]) ∧
 (cutOk 1 (natI l) (natI c) (natI c) ∧ spotOk 2 a) ∧
 (some (Addr.mk w 0 none)).isSome = true ∧
 plainA (some (Addr.mk w 0 none)) = true ∧
 plainA (some (Addr.mk w 0 none)) = true ∧ ∃ (h'_3 : Hp), h'.store w 0 [Value.slice (cutA 1 2 a) (diffN (natI l) 1) (diffN (natI c) 1)] = some h'_3 ∧ K (Value.bool true) h'_3
 else K (Value.bool true) h'
 else
 if eqI n_1 12 = true then
 ∃ (n : Int),
 ∃ (n_2 : Int),
 ∃ (n_3 : Int),
 ∃ (n_4 : Int),
 ∃ (n_5 : Int),
 ∃ (n_6 : Int),
 ∃ (n_7 : Int),
 ∃ (a : Option Addr),
 ∃ (l : Nat),
 ∃ (c : Nat),
 ∃ (a_3 : Option Addr),
 ∃ (l_1 : Nat),
 ∃ (c_1 : Nat),
 (plainA (some (Addr.mk h.next 0 none)) = true ∧
 h_2.cellsAt h.next 0 9 =
 some [Value.int IntKind.i64 n, Value.int IntKind.i64 n_2, Value.int IntKind.u32 n_3, Value.int IntKind.i64 n_4, Value.int IntKind.i64 n_5, Value.int IntKind.u8 n_6, Value.int IntKind.u8 n_7, Value.slice a l c, Value.slice a_3 l_1 c_1]) ∧
 C 89 [Value.agg (Array.mk [Value.int IntKind.i64 n, Value.int IntKind.i64 n_2, Value.int IntKind.u32 n_3, Value.int IntKind.i64 n_4, Value.int IntKind.i64 n_5, Value.int IntKind.u8 n_6, Value.int IntKind.u8 n_7, Value.slice a l c, Value.slice a_3 l_1 c_1])] h_2
 fun (v : Value) (h' : Hp) => ∃ (b : Bool), v = Value.bool b ∧ K (Value.bool b) h'
 else K (Value.bool true) h_2) := by kernel_rfl

def shp50 : Nat → List (Tmp × TypeId) := fun i => if i = 2 then [(3, 3)] else if i = 7 then [(4, 3)] else if i = 10 then [(5, 3)] else if i = 14 then [(6, 3)] else if i = 20 then [(7, 41), (8, 124), (9, 3)] else if i = 24 then [(10, 40), (11, 51), (12, 3)] else if i = 31 then [(13, 3)] else if i = 34 then [(14, 3)] else if i = 39 then [(15, 3)] else if i = 44 then [(16, 3)] else if i = 49 then [(17, 3)] else []
theorem vc50 (C : FuncId → List Value → Hp → (Value → Hp → Prop) → Prop) (w : Nat) (h : Hp) (K : Value → Hp → Prop) : vBody Try.prog C pf shp50 Try.f50 (Try.f50.body.getD .skip) [.pointer (some ⟨w, 0, none⟩)] h K = (
 ∃ (I : List Value → Nat → Hp → Prop),
 (∃ (m : Nat), I [Value.int IntKind.i64 0] m h) ∧
 ∀ (n : Int) (m : Nat) (h : Hp),
 I [Value.int IntKind.i64 n] m h →
 (some (Addr.mk w 0 none)).isSome = true ∧
 plainA (some (Addr.mk w 0 none)) = true ∧
 ∃ (a : Option Addr),
 ∃ (l : Nat),
 ∃ (c : Nat),
 (plainA (some (Addr.mk w 2 none)) = true ∧ h.cellsAt w 2 1 = some [Value.slice a l c]) ∧
 if ltI n (natI l) = true then
 (some (Addr.mk w 0 none)).isSome = true ∧
 plainA (some (Addr.mk w 0 none)) = true ∧
 ∃ (a : Option Addr),
 ∃ (l : Nat),
 ∃ (c : Nat),
 (plainA (some (Addr.mk w 2 none)) = true ∧ h.cellsAt w 2 1 = some [Value.slice a l c]) ∧
 (a.isSome = true ∧ inR n l) ∧
 ∃ (a_1 : Option Addr),
 ∃ (l : Nat),
 ∃ (c : Nat),
 (plainA (some (Addr.mk (blk a) (plusI (off a) n 1) none)) = true ∧ h.cellsAt (blk a) (plusI (off a) n 1) 1 = some [Value.slice a_1 l c]) ∧
 (some (Addr.mk w 0 none)).isSome = true ∧
 plainA (some (Addr.mk w 0 none)) = true ∧
 ∃ (a : Option Addr),
 ∃ (l_1 : Nat),
 ∃ (c_1 : Nat),
 (plainA (some (Addr.mk w 3 none)) = true ∧ h.cellsAt w 3 1 = some [Value.slice a l_1 c_1]) ∧
 (a.isSome = true ∧ inR n l_1) ∧
 ∃ (a_2 : Option Addr),
 ∃ (l_2 : Nat),
 ∃ (c_2 : Nat),
 (plainA (some (Addr.mk (blk a) (plusI (off a) n 1) none)) = true ∧ h.cellsAt (blk a) (plusI (off a) n 1) 1 = some [Value.slice a_2 l_2 c_2]) ∧
 C 43 [Value.slice a_1 l c, Value.slice a_2 l_2 c_2] h fun (v : Value) (h' : Hp) =>
 ∃ (b : Bool),
 v = Value.bool b ∧
 (notB (notB b) = true → (some (Addr.mk w 0 none)).isSome = true) ∧
 (notB (notB b) = true → plainA (some (Addr.mk w 0 none)) = true) ∧
 ∃ (a : Option Addr),
 ∃ (l : Nat),
 ∃ (c : Nat),
 (notB (notB b) = true → plainA (some (Addr.mk w 4 none)) = true ∧ h'.cellsAt w 4 1 = some [Value.slice a l c]) ∧
 (notB (notB b) = true → a.isSome = true ∧ inR n l) ∧
 ∃ (a_3 : Option Addr),
 ∃ (l : Nat),
 ∃ (c : Nat),
 (notB (notB b) = true → plainA (some (Addr.mk (blk a) (plusI (off a) n 1) none)) = true ∧ h'.cellsAt (blk a) (plusI (off a) n 1) 1 = some [Value.slice a_3 l c]) ∧
 (notB (notB b) = true → (some (Addr.mk w 0 none)).isSome = true) ∧
 (notB (notB b) = true → plainA (some (Addr.mk w 0 none)) = true) ∧
 ∃ (a : Option Addr),
 ∃ (l_3 : Nat),
 ∃ (c_3 : Nat),
 (notB (notB b) = true → plainA (some (Addr.mk w 5 none)) = true ∧ h'.cellsAt w 5 1 = some [Value.slice a l_3 c_3]) ∧
 (notB (notB b) = true → a.isSome = true ∧ inR n l_3) ∧
 ∃ (a_4 : Option Addr),
 ∃ (l_4 : Nat),
 ∃ (c_4 : Nat),
 (notB (notB b) = true → plainA (some (Addr.mk (blk a) (plusI (off a) n 1) none)) = true ∧ h'.cellsAt (blk a) (plusI (off a) n 1) 1 = some [Value.slice a_4 l_4 c_4]) ∧
 ∃ (Q : Value → Hp → Prop),
 (notB (notB b) = true → C 90 [Value.slice a_3 l c, Value.slice a_4 l_4 c_4] h' fun (v : Value) (h' : Hp) => ∃ (b : Bool), v = Value.bool b ∧ Q (Value.bool b) h') ∧
 (notB (notB b) = false → ∃ (b : Bool), Q (Value.bool b) h') ∧ ∀ (b_1 : Bool) (h' : Hp), Q (Value.bool b_1) h' → if sel (notB b) true (notB b_1) = true then K (Value.bool false) h' else ∃ (m' : Nat), lessN m' m ∧ I [Value.int IntKind.i64 (addW IntKind.i64 n 1)] m' h'
 else
 ∃ (I : List Value → Nat → Hp → Prop),
 (∃ (m : Nat), I [Value.int IntKind.i64 0] m h) ∧
 ∀ (n : Int) (m : Nat) (h : Hp),
 I [Value.int IntKind.i64 n] m h →
 (some (Addr.mk w 0 none)).isSome = true ∧
 plainA (some (Addr.mk w 0 none)) = true ∧
 ∃ (a : Option Addr),
 ∃ (l : Nat),
 ∃ (c : Nat),
 (plainA (some (Addr.mk w 2 none)) = true ∧ h.cellsAt w 2 1 = some [Value.slice a l c]) ∧
 if ltI n (natI l) = true then
 ∃ (I_1 : List Value → Nat → Hp → Prop),
 (∃ (m : Nat), I_1 [Value.int IntKind.i64 0] m h) ∧
 ∀ (n_1 : Int) (m_1 : Nat) (h : Hp),
 I_1 [Value.int IntKind.i64 n_1] m_1 h →
 (some (Addr.mk w 0 none)).isSome = true ∧
 plainA (some (Addr.mk w 0 none)) = true ∧
 ∃ (a : Option Addr),
 ∃ (l : Nat),
 ∃ (c : Nat),
 (plainA (some (Addr.mk w 2 none)) = true ∧ h.cellsAt w 2 1 = some [Value.slice a l c]) ∧
 (a.isSome = true ∧ inR n l) ∧
 ∃ (a_1 : Option Addr),
 ∃ (l : Nat),
 ∃ (c : Nat),
 (plainA (some (Addr.mk (blk a) (plusI (off a) n 1) none)) = true ∧ h.cellsAt (blk a) (plusI (off a) n 1) 1 = some [Value.slice a_1 l c]) ∧
 if ltI n_1 (natI l) = true then
 (some (Addr.mk w 0 none)).isSome = true ∧
 plainA (some (Addr.mk w 0 none)) = true ∧
 ∃ (a : Option Addr),
 ∃ (l : Nat),
 ∃ (c : Nat),
 (plainA (some (Addr.mk w 2 none)) = true ∧ h.cellsAt w 2 1 = some [Value.slice a l c]) ∧
 (a.isSome = true ∧ inR n l) ∧
 ∃ (a_2 : Option Addr),
 ∃ (l_1 : Nat),
 ∃ (c_1 : Nat),
 (plainA (some (Addr.mk (blk a) (plusI (off a) n 1) none)) = true ∧ h.cellsAt (blk a) (plusI (off a) n 1) 1 = some [Value.slice a_2 l_1 c_1]) ∧
 nonneg 8 ∧
 ∀ (h' : Hp),
 h' = h.alloc [Value.int IntKind.u8 (toW IntKind.u8 n), Value.int IntKind.u8 (toW IntKind.u8 (shrW IntKind.i64 n 8))] 5 →
 (plainA (some (Addr.mk (blk a) (plusI (off a) n 1) none)) = true ∧ h'.cellsAt (blk a) (plusI (off a) n 1) 1 = some [Value.slice a_2 l_1 c_1]) ∧
 (plainA (some (Addr.mk w 2 none)) = true ∧ h'.cellsAt w 2 1 = some [Value.slice a l c]) ∧
 ∃ (s : ByteArray),
 readStr (some (Addr.mk h.next 0 none)) 2 h' s ∧
 catOk (ByteArray.mk (Array.mk [109, 97, 114, 107])) s ∧
 (a_2.isSome = true ∧ inR n_1 l_1) ∧
 plainA (some (Addr.mk (blk a_2) (plusI (off a_2) n_1 1) none)) = true ∧
 ∃ (h'_1 : Hp), h'.store (blk a_2) (plusI (off a_2) n_1 1) [Value.string (strCat (ByteArray.mk (Array.mk [109, 97, 114, 107])) s)] = some h'_1 ∧ ∃ (m' : Nat), lessN m' m_1 ∧ I_1 [Value.int IntKind.i64 (addW IntKind.i64 n_1 1)] m' h'_1
 else
 ∃ (I_2 : List Value → Nat → Hp → Prop),
 (∃ (m : Nat), I_2 [Value.int IntKind.i64 0] m h) ∧
 ∀ (n_2 : Int) (m_2 : Nat) (h : Hp),
 I_2 [Value.int IntKind.i64 n_2] m_2 h →
 (some (Addr.mk w 0 none)).isSome = true ∧
 plainA (some (Addr.mk w 0 none)) = true ∧
 ∃ (a : Option Addr),
 ∃ (l : Nat),
 ∃ (c : Nat),
 (plainA (some (Addr.mk w 4 none)) = true ∧ h.cellsAt w 4 1 = some [Value.slice a l c]) ∧
 (a.isSome = true ∧ inR n l) ∧
 ∃ (a_2 : Option Addr),
 ∃ (l : Nat),
 ∃ (c : Nat),
 (plainA (some (Addr.mk (blk a) (plusI (off a) n 1) none)) = true ∧ h.cellsAt (blk a) (plusI (off a) n 1) 1 = some [Value.slice a_2 l c]) ∧
 if ltI n_2 (natI l) = true then
 (some (Addr.mk w 0 none)).isSome = true ∧
 plainA (some (Addr.mk w 0 none)) = true ∧
 ∃ (a : Option Addr),
 ∃ (l : Nat),
 ∃ (c : Nat),
 (plainA (some (Addr.mk w 4 none)) = true ∧ h.cellsAt w 4 1 = some [Value.slice a l c]) ∧
 (a.isSome = true ∧ inR n l) ∧
 ∃ (a_3 : Option Addr),
 ∃ (l : Nat),
 ∃ (c : Nat),
 (plainA (some (Addr.mk (blk a) (plusI (off a) n 1) none)) = true ∧ h.cellsAt (blk a) (plusI (off a) n 1) 1 = some [Value.slice a_3 l c]) ∧
 (a_3.isSome = true ∧ inR n_2 l) ∧
 plainA (some (Addr.mk (blk a_3) (plusI (off a_3) n_2 3) none)) = true ∧
 ∃ (h' : Hp),
 h.store (blk a_3) (plusI (off a_3) n_2 3) [Value.int IntKind.u8 (Int.ofNat 0), Value.int IntKind.u32 (Int.ofNat 0), Value.int IntKind.i64 (subW IntKind.i64 (-1) n)] = some h' ∧ ∃ (m' : Nat), lessN m' m_2 ∧ I_2 [Value.int IntKind.i64 (addW IntKind.i64 n_2 1)] m' h'
 else ∃ (m' : Nat), lessN m' m ∧ I [Value.int IntKind.i64 (addW IntKind.i64 n 1)] m' h
 else
 ∃ (I : List Value → Nat → Hp → Prop),
 (∃ (m : Nat), I [Value.slice none 0 0, Value.slice none 0 0, Value.int IntKind.i64 0] m h) ∧
 ∀ (a : Option Addr) (l c : Nat) (a_1 : Option Addr) (l_1 c_1 : Nat) (n : Int) (m : Nat) (h : Hp),
 I [Value.slice a l c, Value.slice a_1 l_1 c_1, Value.int IntKind.i64 n] m h →
 (some (Addr.mk w 0 none)).isSome = true ∧
 plainA (some (Addr.mk w 0 none)) = true ∧
 ∃ (a_3 : Option Addr),
 ∃ (l_2 : Nat),
 ∃ (c_2 : Nat),
 (plainA (some (Addr.mk w 2 none)) = true ∧ h.cellsAt w 2 1 = some [Value.slice a_3 l_2 c_2]) ∧
 if ltI n (natI l_2) = true then
 (some (Addr.mk w 0 none)).isSome = true ∧
 plainA (some (Addr.mk w 0 none)) = true ∧
 ∃ (a_4 : Option Addr),
 ∃ (l_3 : Nat),
 ∃ (c_3 : Nat),
 (plainA (some (Addr.mk w 2 none)) = true ∧ h.cellsAt w 2 1 = some [Value.slice a_4 l_3 c_3]) ∧
 (a_4.isSome = true ∧ inR n l_3) ∧
 ∃ (a_5 : Option Addr),
 ∃ (l_4 : Nat),
 ∃ (c_4 : Nat),
 (plainA (some (Addr.mk (blk a_4) (plusI (off a_4) n 1) none)) = true ∧ h.cellsAt (blk a_4) (plusI (off a_4) n 1) 1 = some [Value.slice a_5 l_4 c_4]) ∧
 (some (Addr.mk w 0 none)).isSome = true ∧
 plainA (some (Addr.mk w 0 none)) = true ∧
 ∃ (a_6 : Option Addr),
 ∃ (l_5 : Nat),
 ∃ (c_5 : Nat),
 (plainA (some (Addr.mk w 4 none)) = true ∧ h.cellsAt w 4 1 = some [Value.slice a_6 l_5 c_5]) ∧
 (a_6.isSome = true ∧ inR n l_5) ∧
 ∃ (a_7 : Option Addr),
 ∃ (l_6 : Nat),
 ∃ (c_6 : Nat),
 (plainA (some (Addr.mk (blk a_6) (plusI (off a_6) n 1) none)) = true ∧ h.cellsAt (blk a_6) (plusI (off a_6) n 1) 1 = some [Value.slice a_7 l_6 c_6]) ∧
 ∃ (I_1 : List Value → Nat → Hp → Prop),
 (∃ (m : Nat), I_1 [Value.slice a_5 l_4 c_4, Value.slice a_7 l_6 c_6, Value.int IntKind.i64 0] m h) ∧
 ∀ (a_8 : Option Addr) (l_7 c_7 : Nat) (a_9 : Option Addr) (l_8 c_8 : Nat) (n_1 : Int) (m_1 : Nat) (h : Hp),
 I_1 [Value.slice a_8 l_7 c_7, Value.slice a_9 l_8 c_8, Value.int IntKind.i64 n_1] m_1 h →
 if ltI n_1 40 = true then
 nonneg 8 ∧
 ∀ (h' : Hp),
 h' = h.alloc [Value.int IntKind.u8 (toW IntKind.u8 n), Value.int IntKind.u8 (toW IntKind.u8 (shrW IntKind.i64 n 8))] 5 →
 ∃ (s : ByteArray),
 readStr (some (Addr.mk h.next 0 none)) 2 h' s ∧
 catOk (ByteArray.mk (Array.mk [109, 111, 114, 101])) s ∧
 ∀ (h'_1 : Hp),
 h'_1 = h'.alloc [Value.string (strCat (ByteArray.mk (Array.mk [109, 111, 114, 101])) s)] 9 →
 ∃ (a : Option Addr),
 ∃ (m : Nat),
 ∃ (n_2 : Nat),
 ∃ (h'_2 : Hp),
 cappend Try.prog 40 40 (Value.slice a_8 l_7 c_7) (Value.slice (some (Addr.mk h'.next 0 none)) 1 1) h'_1 = some (Value.slice a m n_2, h'_2) ∧
 ∀ (h' : Hp),
 h' = h'_2.alloc [Value.int IntKind.u8 (Int.ofNat 0), Value.int IntKind.u32 (Int.ofNat 0), Value.int IntKind.i64 (addW IntKind.i64 1 n)] 60 →
 ∃ (a_12 : Option Addr),
 ∃ (m_2 : Nat),
 ∃ (n : Nat),
 ∃ (h'_3 : Hp),
 cappend Try.prog 51 51 (Value.slice a_9 l_8 c_8) (Value.slice (some (Addr.mk h'_2.next 0 none)) 1 1) h' = some (Value.slice a_12 m_2 n, h'_3) ∧
 ∃ (m' : Nat), lessN m' m_1 ∧ I_1 [Value.slice a m n_2, Value.slice a_12 m_2 n, Value.int IntKind.i64 (addW IntKind.i64 n_1 1)] m' h'_3
 else
 ∀ (h' : Hp),
 h' = h.alloc [Value.slice a_8 l_7 c_7] 40 →
 ∃ (a_12 : Option Addr),
 ∃ (m_2 : Nat),
 ∃ (n_2 : Nat),
 ∃ (h'_1 : Hp),
 cappend Try.prog 41 41 (Value.slice a l c) (Value.slice (some (Addr.mk h.next 0 none)) 1 1) h' = some (Value.slice a_12 m_2 n_2, h'_1) ∧
 ∀ (h' : Hp),
 h' = h'_1.alloc [Value.slice a_9 l_8 c_8] 51 →
 ∃ (a : Option Addr),
 ∃ (m_3 : Nat),
 ∃ (n_3 : Nat),
 ∃ (h'_2 : Hp),
 cappend Try.prog 124 124 (Value.slice a_1 l_1 c_1) (Value.slice (some (Addr.mk h'_1.next 0 none)) 1 1) h' = some (Value.slice a m_3 n_3, h'_2) ∧
 ∃ (m' : Nat), lessN m' m ∧ I [Value.slice a_12 m_2 n_2, Value.slice a m_3 n_3, Value.int IntKind.i64 (addW IntKind.i64 n 1)] m' h'_2
 else
 ∃ (I : List Value → Nat → Hp → Prop),
 (∃ (m : Nat), I [Value.int IntKind.i64 0] m h) ∧
 ∀ (n : Int) (m : Nat) (h : Hp),
 I [Value.int IntKind.i64 n] m h →
 (some (Addr.mk w 0 none)).isSome = true ∧
 plainA (some (Addr.mk w 0 none)) = true ∧
 ∃ (a_5 : Option Addr),
 ∃ (l_3 : Nat),
 ∃ (c : Nat),
 (plainA (some (Addr.mk w 2 none)) = true ∧ h.cellsAt w 2 1 = some [Value.slice a_5 l_3 c]) ∧
 if ltI n (natI l_3) = true then
 ∃ (I_1 : List Value → Nat → Hp → Prop),
 (∃ (m : Nat), I_1 [Value.int IntKind.i64 0] m h) ∧
 ∀ (n_1 : Int) (m_1 : Nat) (h : Hp),
 I_1 [Value.int IntKind.i64 n_1] m_1 h →
 (a.isSome = true ∧ inR n l) ∧
 ∃ (a_7 : Option Addr),
 ∃ (l_4 : Nat),
 ∃ (c : Nat),
 (plainA (some (Addr.mk (blk a) (plusI (off a) n 1) none)) = true ∧ h.cellsAt (blk a) (plusI (off a) n 1) 1 = some [Value.slice a_7 l_4 c]) ∧
 if ltI n_1 (natI l_4) = true then
 (some (Addr.mk w 0 none)).isSome = true ∧
 plainA (some (Addr.mk w 0 none)) = true ∧
 ∃ (a_8 : Option Addr),
 ∃ (l_5 : Nat),
 ∃ (c : Nat),
 (plainA (some (Addr.mk w 2 none)) = true ∧ h.cellsAt w 2 1 = some [Value.slice a_8 l_5 c]) ∧
 (a_8.isSome = true ∧ inR n l_5) ∧
 ∃ (a_9 : Option Addr),
 ∃ (l_6 : Nat),
 ∃ (c : Nat),
 (plainA (some (Addr.mk (blk a_8) (plusI (off a_8) n 1) none)) = true ∧ h.cellsAt (blk a_8) (plusI (off a_8) n 1) 1 = some [Value.slice a_9 l_6 c]) ∧
 (ltI n_1 (natI l_6) = true → (some (Addr.mk w 0 none)).isSome = true) ∧
 (ltI n_1 (natI l_6) = true → plainA (some (Addr.mk w 0 none)) = true) ∧
 ∃ (a_10 : Option Addr),
 ∃ (l_7 : Nat),
 ∃ (c : Nat),
 (ltI n_1 (natI l_6) = true → plainA (some (Addr.mk w 2 none)) = true ∧ h.cellsAt w 2 1 = some [Value.slice a_10 l_7 c]) ∧
 (ltI n_1 (natI l_6) = true → a_10.isSome = true ∧ inR n l_7) ∧
 ∃ (a_11 : Option Addr),
 ∃ (l_8 : Nat),
 ∃ (c_3 : Nat),
 (ltI n_1 (natI l_6) = true → plainA (some (Addr.mk (blk a_10) (plusI (off a_10) n 1) none)) = true ∧ h.cellsAt (blk a_10) (plusI (off a_10) n 1) 1 = some [Value.slice a_11 l_8 c_3]) ∧
 (ltI n_1 (natI l_6) = true → a_11.isSome = true ∧ inR n_1 l_8) ∧
 ∃ (s : ByteArray),
 (ltI n_1 (natI l_6) = true → plainA (some (Addr.mk (blk a_11) (plusI (off a_11) n_1 1) none)) = true ∧ h.cellsAt (blk a_11) (plusI (off a_11) n_1 1) 1 = some [Value.string s]) ∧
 (ltI n_1 (natI l_6) = true → nonneg 8) ∧
 ∃ (Q : Value → Hp → Prop),
 (ltI n_1 (natI l_6) = true →
 ∀ (h' : Hp),
 h' = h.alloc [Value.int IntKind.u8 (toW IntKind.u8 n), Value.int IntKind.u8 (toW IntKind.u8 (shrW IntKind.i64 n 8))] 5 →
 ∃ (a : Option Addr), ∃ (l : Nat), ∃ (c : Nat), Value.slice (some (Addr.mk h.next 0 none)) 2 2 = Value.slice a l c ∧ Q (Value.slice a l c) h') ∧
 (ltI n_1 (natI l_6) = false → ∃ (a : Option Addr), ∃ (l : Nat), ∃ (c : Nat), Q (Value.slice a l c) h) ∧
 ∀ (a_12 : Option Addr) (l_9 c_4 : Nat) (h' : Hp),
 Q (Value.slice a_12 l_9 c_4) h' →
 (ltI n_1 (natI l_6) = true → plainA (some (Addr.mk (blk a_11) (plusI (off a_11) n_1 1) none)) = true ∧ h'.cellsAt (blk a_11) (plusI (off a_11) n_1 1) 1 = some [Value.string s]) ∧
 (ltI n_1 (natI l_6) = true → plainA (some (Addr.mk (blk a_10) (plusI (off a_10) n 1) none)) = true ∧ h'.cellsAt (blk a_10) (plusI (off a_10) n 1) 1 = some [Value.slice a_11 l_8 c_3]) ∧
 (ltI n_1 (natI l_6) = true → plainA (some (Addr.mk w 2 none)) = true ∧ h'.cellsAt w 2 1 = some [Value.slice a_10 l_7 c]) ∧
 ∃ (s_1 : ByteArray),
 (ltI n_1 (natI l_6) = true → readStr a_12 l_9 h' s_1) ∧
 (ltI n_1 (natI l_6) = true → catOk (ByteArray.mk (Array.mk [109, 97, 114, 107])) s_1) ∧
 (notB (sel (ltI n_1 (natI l_6)) (notB (strEq s (strCat (ByteArray.mk (Array.mk [109, 97, 114, 107])) s_1))) false) = true → (some (Addr.mk w 0 none)).isSome = true) ∧
 (notB (sel (ltI n_1 (natI l_6)) (notB (strEq s (strCat (ByteArray.mk (Array.mk [109, 97, 114, 107])) s_1))) false) = true → plainA (some (Addr.mk w 0 none)) = true) ∧
 ∃ (a_14 : Option Addr),
 ∃ (l_10 : Nat),
 ∃ (c : Nat),
 (notB (sel (ltI n_1 (natI l_6)) (notB (strEq s (strCat (ByteArray.mk (Array.mk [109, 97, 114, 107])) s_1))) false) = true →
 plainA (some (Addr.mk w 2 none)) = true ∧ h'.cellsAt w 2 1 = some [Value.slice a_14 l_10 c]) ∧
 (notB (sel (ltI n_1 (natI l_6)) (notB (strEq s (strCat (ByteArray.mk (Array.mk [109, 97, 114, 107])) s_1))) false) = true → a_14.isSome = true ∧ inR n l_10) ∧
 ∃ (a_15 : Option Addr),
 ∃ (l_11 : Nat),
 ∃ (c : Nat),
 (notB (sel (ltI n_1 (natI l_6)) (notB (strEq s (strCat (ByteArray.mk (Array.mk [109, 97, 114, 107])) s_1))) false) = true →
 plainA (some (Addr.mk (blk a_14) (plusI (off a_14) n 1) none)) = true ∧ h'.cellsAt (blk a_14) (plusI (off a_14) n 1) 1 = some [Value.slice a_15 l_11 c]) ∧
 (andB (geI n_1 (natI l_11)) (notB (sel (ltI n_1 (natI l_6)) (notB (strEq s (strCat (ByteArray.mk (Array.mk [109, 97, 114, 107])) s_1))) false)) = true → a.isSome = true ∧ inR n l) ∧
 ∃ (a_16 : Option Addr),
 ∃ (l : Nat),
 ∃ (c : Nat),
 (andB (geI n_1 (natI l_11)) (notB (sel (ltI n_1 (natI l_6)) (notB (strEq s (strCat (ByteArray.mk (Array.mk [109, 97, 114, 107])) s_1))) false)) = true →
 plainA (some (Addr.mk (blk a) (plusI (off a) n 1) none)) = true ∧ h'.cellsAt (blk a) (plusI (off a) n 1) 1 = some [Value.slice a_16 l c]) ∧
 (andB (geI n_1 (natI l_11)) (notB (sel (ltI n_1 (natI l_6)) (notB (strEq s (strCat (ByteArray.mk (Array.mk [109, 97, 114, 107])) s_1))) false)) = true → a_16.isSome = true ∧ inR n_1 l) ∧
 ∃ (s_2 : ByteArray),
 (andB (geI n_1 (natI l_11)) (notB (sel (ltI n_1 (natI l_6)) (notB (strEq s (strCat (ByteArray.mk (Array.mk [109, 97, 114, 107])) s_1))) false)) = true →
 plainA (some (Addr.mk (blk a_16) (plusI (off a_16) n_1 1) none)) = true ∧ h'.cellsAt (blk a_16) (plusI (off a_16) n_1 1) 1 = some [Value.string s_2]) ∧
 (andB (geI n_1 (natI l_11)) (notB (sel (ltI n_1 (natI l_6)) (notB (strEq s (strCat (ByteArray.mk (Array.mk [109, 97, 114, 107])) s_1))) false)) = true → nonneg 8) ∧
 ∃ (Q : Value → Hp → Prop),
 (andB (geI n_1 (natI l_11)) (notB (sel (ltI n_1 (natI l_6)) (notB (strEq s (strCat (ByteArray.mk (Array.mk [109, 97, 114, 107])) s_1))) false)) = true →
 ∀ (h'_1 : Hp),
 h'_1 = h'.alloc [Value.int IntKind.u8 (toW IntKind.u8 n), Value.int IntKind.u8 (toW IntKind.u8 (shrW IntKind.i64 n 8))] 5 →
 ∃ (a : Option Addr), ∃ (l : Nat), ∃ (c : Nat), Value.slice (some (Addr.mk h'.next 0 none)) 2 2 = Value.slice a l c ∧ Q (Value.slice a l c) h'_1) ∧
 (andB (geI n_1 (natI l_11)) (notB (sel (ltI n_1 (natI l_6)) (notB (strEq s (strCat (ByteArray.mk (Array.mk [109, 97, 114, 107])) s_1))) false)) = false →
 ∃ (a : Option Addr), ∃ (l : Nat), ∃ (c : Nat), Q (Value.slice a l c) h') ∧
 ∀ (a_17 : Option Addr) (l_12 c_5 : Nat) (h' : Hp),
 Q (Value.slice a_17 l_12 c_5) h' →
 (andB (geI n_1 (natI l_11)) (notB (sel (ltI n_1 (natI l_6)) (notB (strEq s (strCat (ByteArray.mk (Array.mk [109, 97, 114, 107])) s_1))) false)) = true →
 plainA (some (Addr.mk (blk a_16) (plusI (off a_16) n_1 1) none)) = true ∧ h'.cellsAt (blk a_16) (plusI (off a_16) n_1 1) 1 = some [Value.string s_2]) ∧
 (andB (geI n_1 (natI l_11)) (notB (sel (ltI n_1 (natI l_6)) (notB (strEq s (strCat (ByteArray.mk (Array.mk [109, 97, 114, 107])) s_1))) false)) = true →
 plainA (some (Addr.mk (blk a) (plusI (off a) n 1) none)) = true ∧ h'.cellsAt (blk a) (plusI (off a) n 1) 1 = some [Value.slice a_16 l c]) ∧
 ∃ (s_3 : ByteArray),
 (andB (geI n_1 (natI l_11)) (notB (sel (ltI n_1 (natI l_6)) (notB (strEq s (strCat (ByteArray.mk (Array.mk [109, 97, 114, 107])) s_1))) false)) = true →
 readStr a_17 l_12 h' s_3) ∧
 (andB (geI n_1 (natI l_11)) (notB (sel (ltI n_1 (natI l_6)) (notB (strEq s (strCat (ByteArray.mk (Array.mk [109, 97, 114, 107])) s_1))) false)) = true →
 catOk (ByteArray.mk (Array.mk [109, 111, 114, 101])) s_3) ∧
 if
 sel (sel (ltI n_1 (natI l_6)) (notB (strEq s (strCat (ByteArray.mk (Array.mk [109, 97, 114, 107])) s_1))) false) true
 (sel (geI n_1 (natI l_11)) (notB (strEq s_2 (strCat (ByteArray.mk (Array.mk [109, 111, 114, 101])) s_3))) false) =
 true then
 K (Value.bool false) h'
 else ∃ (m' : Nat), lessN m' m_1 ∧ I_1 [Value.int IntKind.i64 (addW IntKind.i64 n_1 1)] m' h'
 else
 ∃ (I_2 : List Value → Nat → Hp → Prop),
 (∃ (m : Nat), I_2 [Value.int IntKind.i64 0] m h) ∧
 ∀ (n_2 : Int) (m_2 : Nat) (h : Hp),
 I_2 [Value.int IntKind.i64 n_2] m_2 h →
 (a_1.isSome = true ∧ inR n l_1) ∧
 ∃ (a : Option Addr),
 ∃ (l : Nat),
 ∃ (c : Nat),
 (plainA (some (Addr.mk (blk a_1) (plusI (off a_1) n 1) none)) = true ∧ h.cellsAt (blk a_1) (plusI (off a_1) n 1) 1 = some [Value.slice a l c]) ∧
 if ltI n_2 (natI l) = true then
 (some (Addr.mk w 0 none)).isSome = true ∧
 plainA (some (Addr.mk w 0 none)) = true ∧
 ∃ (a : Option Addr),
 ∃ (l : Nat),
 ∃ (c : Nat),
 (plainA (some (Addr.mk w 4 none)) = true ∧ h.cellsAt w 4 1 = some [Value.slice a l c]) ∧
 (a.isSome = true ∧ inR n l) ∧
 ∃ (a_8 : Option Addr),
 ∃ (l : Nat),
 ∃ (c : Nat),
 (plainA (some (Addr.mk (blk a) (plusI (off a) n 1) none)) = true ∧ h.cellsAt (blk a) (plusI (off a) n 1) 1 = some [Value.slice a_8 l c]) ∧
 (ltI n_2 (natI l) = true → (some (Addr.mk w 0 none)).isSome = true) ∧
 (ltI n_2 (natI l) = true → plainA (some (Addr.mk w 0 none)) = true) ∧
 ∃ (a : Option Addr),
 ∃ (l_5 : Nat),
 ∃ (c : Nat),
 (ltI n_2 (natI l) = true → plainA (some (Addr.mk w 4 none)) = true ∧ h.cellsAt w 4 1 = some [Value.slice a l_5 c]) ∧
 (ltI n_2 (natI l) = true → a.isSome = true ∧ inR n l_5) ∧
 ∃ (a_9 : Option Addr),
 ∃ (l_6 : Nat),
 ∃ (c : Nat),
 (ltI n_2 (natI l) = true → plainA (some (Addr.mk (blk a) (plusI (off a) n 1) none)) = true ∧ h.cellsAt (blk a) (plusI (off a) n 1) 1 = some [Value.slice a_9 l_6 c]) ∧
 (ltI n_2 (natI l) = true → a_9.isSome = true ∧ inR n_2 l_6) ∧
 (ltI n_2 (natI l) = true → plainA (some (Addr.mk (blk a_9) (plusI (off a_9) n_2 3) none)) = true) ∧
 ∃ (n_3 : Int),
 (ltI n_2 (natI l) = true → plainA (some (Addr.mk (blk a_9) (plusN (plusI (off a_9) n_2 3) 2) none)) = true ∧ h.cellsAt (blk a_9) (plusN (plusI (off a_9) n_2 3) 2) 1 = some [Value.int IntKind.i64 n_3]) ∧
 (notB (sel (ltI n_2 (natI l)) (neI n_3 (subW IntKind.i64 (-1) n)) false) = true → (some (Addr.mk w 0 none)).isSome = true) ∧
 (notB (sel (ltI n_2 (natI l)) (neI n_3 (subW IntKind.i64 (-1) n)) false) = true → plainA (some (Addr.mk w 0 none)) = true) ∧
 ∃ (a : Option Addr),
 ∃ (l_7 : Nat),
 ∃ (c : Nat),
 (notB (sel (ltI n_2 (natI l)) (neI n_3 (subW IntKind.i64 (-1) n)) false) = true → plainA (some (Addr.mk w 4 none)) = true ∧ h.cellsAt w 4 1 = some [Value.slice a l_7 c]) ∧
 (notB (sel (ltI n_2 (natI l)) (neI n_3 (subW IntKind.i64 (-1) n)) false) = true → a.isSome = true ∧ inR n l_7) ∧
 ∃ (a_10 : Option Addr),
 ∃ (l_8 : Nat),
 ∃ (c : Nat),
 (notB (sel (ltI n_2 (natI l)) (neI n_3 (subW IntKind.i64 (-1) n)) false) = true →
 plainA (some (Addr.mk (blk a) (plusI (off a) n 1) none)) = true ∧ h.cellsAt (blk a) (plusI (off a) n 1) 1 = some [Value.slice a_10 l_8 c]) ∧
 (andB (geI n_2 (natI l_8)) (notB (sel (ltI n_2 (natI l)) (neI n_3 (subW IntKind.i64 (-1) n)) false)) = true → a_1.isSome = true ∧ inR n l_1) ∧
 ∃ (a : Option Addr),
 ∃ (l_9 : Nat),
 ∃ (c : Nat),
 (andB (geI n_2 (natI l_8)) (notB (sel (ltI n_2 (natI l)) (neI n_3 (subW IntKind.i64 (-1) n)) false)) = true →
 plainA (some (Addr.mk (blk a_1) (plusI (off a_1) n 1) none)) = true ∧ h.cellsAt (blk a_1) (plusI (off a_1) n 1) 1 = some [Value.slice a l_9 c]) ∧
 (andB (geI n_2 (natI l_8)) (notB (sel (ltI n_2 (natI l)) (neI n_3 (subW IntKind.i64 (-1) n)) false)) = true → a.isSome = true ∧ inR n_2 l_9) ∧
 (andB (geI n_2 (natI l_8)) (notB (sel (ltI n_2 (natI l)) (neI n_3 (subW IntKind.i64 (-1) n)) false)) = true → plainA (some (Addr.mk (blk a) (plusI (off a) n_2 3) none)) = true) ∧
 ∃ (n_4 : Int),
 (andB (geI n_2 (natI l_8)) (notB (sel (ltI n_2 (natI l)) (neI n_3 (subW IntKind.i64 (-1) n)) false)) = true →
 plainA (some (Addr.mk (blk a) (plusN (plusI (off a) n_2 3) 2) none)) = true ∧ h.cellsAt (blk a) (plusN (plusI (off a) n_2 3) 2) 1 = some [Value.int IntKind.i64 n_4]) ∧
 if sel (sel (ltI n_2 (natI l)) (neI n_3 (subW IntKind.i64 (-1) n)) false) true (sel (geI n_2 (natI l_8)) (neI n_4 (addW IntKind.i64 1 n)) false) = true then K (Value.bool false) h
 else ∃ (m' : Nat), lessN m' m_2 ∧ I_2 [Value.int IntKind.i64 (addW IntKind.i64 n_2 1)] m' h
 else ∃ (m' : Nat), lessN m' m ∧ I [Value.int IntKind.i64 (addW IntKind.i64 n 1)] m' h
 else
 ∃ (I : List Value → Nat → Hp → Prop),
 (∃ (m : Nat), I [Value.int IntKind.i64 0] m h) ∧
 ∀ (n : Int) (m : Nat) (h : Hp),
 I [Value.int IntKind.i64 n] m h →
 (some (Addr.mk w 0 none)).isSome = true ∧
 plainA (some (Addr.mk w 0 none)) = true ∧
 ∃ (a : Option Addr),
 ∃ (l : Nat),
 ∃ (c : Nat),
 (plainA (some (Addr.mk w 0 none)) = true ∧ h.cellsAt w 0 1 = some [Value.slice a l c]) ∧
 if ltI n (natI l) = true then
 (some (Addr.mk w 0 none)).isSome = true ∧
 plainA (some (Addr.mk w 0 none)) = true ∧
 ∃ (a : Option Addr),
 ∃ (l : Nat),
 ∃ (c : Nat),
 (plainA (some (Addr.mk w 0 none)) = true ∧ h.cellsAt w 0 1 = some [Value.slice a l c]) ∧
 (a.isSome = true ∧ inR n l) ∧
 plainA (some (Addr.mk (blk a) (plusI (off a) n 2) none)) = true ∧
 ∃ (a_6 : Option Addr),
 (plainA (some (Addr.mk (blk a) (plusI (off a) n 2) none)) = true ∧ h.cellsAt (blk a) (plusI (off a) n 2) 1 = some [Value.pointer a_6]) ∧
 (some (Addr.mk w 0 none)).isSome = true ∧
 plainA (some (Addr.mk w 0 none)) = true ∧
 ∃ (a : Option Addr),
 ∃ (l : Nat),
 ∃ (c : Nat),
 (plainA (some (Addr.mk w 0 none)) = true ∧ h.cellsAt w 0 1 = some [Value.slice a l c]) ∧
 (a.isSome = true ∧ inR n l) ∧
 plainA (some (Addr.mk (blk a) (plusI (off a) n 2) none)) = true ∧
 ∃ (a_7 : Option Addr),
 (plainA (some (Addr.mk (blk a) (plusN (plusI (off a) n 2) 1) none)) = true ∧ h.cellsAt (blk a) (plusN (plusI (off a) n 2) 1) 1 = some [Value.pointer a_7]) ∧
 C 42 [Value.pointer a_6, Value.pointer a_7] h fun (v : Value) (h' : Hp) =>
 ∃ (b : Bool),
 v = Value.bool b ∧
 (notB (notB b) = true → (some (Addr.mk w 0 none)).isSome = true) ∧
 (notB (notB b) = true → plainA (some (Addr.mk w 0 none)) = true) ∧
 ∃ (a : Option Addr),
 ∃ (l : Nat),
 ∃ (c : Nat),
 (notB (notB b) = true → plainA (some (Addr.mk w 0 none)) = true ∧ h'.cellsAt w 0 1 = some [Value.slice a l c]) ∧
 (notB (notB b) = true → a.isSome = true ∧ inR n l) ∧
 (notB (notB b) = true → plainA (some (Addr.mk (blk a) (plusI (off a) n 2) none)) = true) ∧
 ∃ (a_8 : Option Addr),
 (notB (notB b) = true → plainA (some (Addr.mk (blk a) (plusI (off a) n 2) none)) = true ∧ h'.cellsAt (blk a) (plusI (off a) n 2) 1 = some [Value.pointer a_8]) ∧
 (notB (notB b) = true → (some (Addr.mk w 0 none)).isSome = true) ∧
 (notB (notB b) = true → plainA (some (Addr.mk w 0 none)) = true) ∧
 ∃ (a : Option Addr),
 ∃ (l : Nat),
 ∃ (c : Nat),
 (notB (notB b) = true → plainA (some (Addr.mk w 0 none)) = true ∧ h'.cellsAt w 0 1 = some [Value.slice a l c]) ∧
 (notB (notB b) = true → a.isSome = true ∧ inR n l) ∧
 (notB (notB b) = true → plainA (some (Addr.mk (blk a) (plusI (off a) n 2) none)) = true) ∧
 ∃ (a_9 : Option Addr),
 (notB (notB b) = true → plainA (some (Addr.mk (blk a) (plusN (plusI (off a) n 2) 1) none)) = true ∧ h'.cellsAt (blk a) (plusN (plusI (off a) n 2) 1) 1 = some [Value.pointer a_9]) ∧
 (notB (notB b) = true → a_9.isSome = true) ∧
 (notB (notB b) = true → plainA a_9 = true) ∧
 ∃ (a_10 : Option Addr),
 ∃ (l_4 : Nat),
 ∃ (c_3 : Nat),
 (notB (notB b) = true → plainA (some (Addr.mk (blk a_9) (plusN (off a_9) 2) none)) = true ∧ h'.cellsAt (blk a_9) (plusN (off a_9) 2) 1 = some [Value.slice a_10 l_4 c_3]) ∧
 ∃ (Q : Value → Hp → Prop),
 (notB (notB b) = true → C 34 [Value.pointer a_8] h' fun (v : Value) (h' : Hp) => ∃ (a : Option Addr), ∃ (l : Nat), ∃ (c : Nat), v = Value.slice a l c ∧ Q (Value.slice a l c) h') ∧
 (notB (notB b) = false → ∃ (a : Option Addr), ∃ (l : Nat), ∃ (c : Nat), Q (Value.slice a l c) h') ∧
 ∀ (a_11 : Option Addr) (l_5 c_4 : Nat) (h' : Hp),
 Q (Value.slice a_11 l_5 c_4) h' →
 (notB (notB b) = true → plainA (some (Addr.mk (blk a_9) (plusN (off a_9) 2) none)) = true ∧ h'.cellsAt (blk a_9) (plusN (off a_9) 2) 1 = some [Value.slice a_10 l_4 c_3]) ∧
 (notB (notB b) = true → plainA (some (Addr.mk (blk a) (plusN (plusI (off a) n 2) 1) none)) = true ∧ h'.cellsAt (blk a) (plusN (plusI (off a) n 2) 1) 1 = some [Value.pointer a_9]) ∧
 (notB (notB b) = true → plainA (some (Addr.mk w 0 none)) = true ∧ h'.cellsAt w 0 1 = some [Value.slice a l c]) ∧
 ∃ (Q : Value → Hp → Prop),
 (notB (notB b) = true → C 43 [Value.slice a_11 l_5 c_4, Value.slice a_10 l_4 c_3] h' fun (v : Value) (h' : Hp) => ∃ (b : Bool), v = Value.bool b ∧ Q (Value.bool b) h') ∧
 (notB (notB b) = false → ∃ (b : Bool), Q (Value.bool b) h') ∧
 ∀ (b_1 : Bool) (h' : Hp),
 Q (Value.bool b_1) h' →
 if sel (notB b) true (notB b_1) = true then K (Value.bool false) h'
 else
 ∃ (I_1 : List Value → Nat → Hp → Prop),
 (∃ (m : Nat), I_1 [Value.int IntKind.i64 0] m h') ∧
 ∀ (n_1 : Int) (m_1 : Nat) (h : Hp),
 I_1 [Value.int IntKind.i64 n_1] m_1 h →
 (some (Addr.mk w 0 none)).isSome = true ∧
 plainA (some (Addr.mk w 0 none)) = true ∧
 ∃ (a : Option Addr),
 ∃ (l : Nat),
 ∃ (c : Nat),
 (plainA (some (Addr.mk w 0 none)) = true ∧ h.cellsAt w 0 1 = some [Value.slice a l c]) ∧
 (a.isSome = true ∧ inR n l) ∧
 plainA (some (Addr.mk (blk a) (plusI (off a) n 2) none)) = true ∧
 ∃ (a_13 : Option Addr),
 (plainA (some (Addr.mk (blk a) (plusN (plusI (off a) n 2) 1) none)) = true ∧
 h.cellsAt (blk a) (plusN (plusI (off a) n 2) 1) 1 = some [Value.pointer a_13]) ∧
 C 71 [Value.pointer a_13] h fun (v : Value) (h' : Hp) =>
 ∃ (n_2 : Int),
 v = Value.int IntKind.i64 n_2 ∧
 if ltI n_1 n_2 = true then
 (some (Addr.mk w 0 none)).isSome = true ∧
 plainA (some (Addr.mk w 0 none)) = true ∧
 ∃ (a : Option Addr),
 ∃ (l : Nat),
 ∃ (c : Nat),
 (plainA (some (Addr.mk w 0 none)) = true ∧ h'.cellsAt w 0 1 = some [Value.slice a l c]) ∧
 (a.isSome = true ∧ inR n l) ∧
 plainA (some (Addr.mk (blk a) (plusI (off a) n 2) none)) = true ∧
 ∃ (a_14 : Option Addr),
 (plainA (some (Addr.mk (blk a) (plusI (off a) n 2) none)) = true ∧
 h'.cellsAt (blk a) (plusI (off a) n 2) 1 = some [Value.pointer a_14]) ∧
 C 55 [Value.pointer a_14, Value.int IntKind.u32 (toW IntKind.u32 n_1)] h' fun (v : Value) (h' : Hp) =>
 ∃ (s : ByteArray),
 ∃ (n_3 : Int),
 v = Value.tuple (Array.mk [Value.string s, Value.int IntKind.i64 n_3]) ∧
 (some (Addr.mk w 0 none)).isSome = true ∧
 plainA (some (Addr.mk w 0 none)) = true ∧
 ∃ (a : Option Addr),
 ∃ (l : Nat),
 ∃ (c : Nat),
 (plainA (some (Addr.mk w 0 none)) = true ∧ h'.cellsAt w 0 1 = some [Value.slice a l c]) ∧
 (a.isSome = true ∧ inR n l) ∧
 plainA (some (Addr.mk (blk a) (plusI (off a) n 2) none)) = true ∧
 ∃ (a_15 : Option Addr),
 (plainA (some (Addr.mk (blk a) (plusN (plusI (off a) n 2) 1) none)) = true ∧
 h'.cellsAt (blk a) (plusN (plusI (off a) n 2) 1) 1 =
 some [Value.pointer a_15]) ∧
 C 75 [Value.pointer a_15, Value.int IntKind.u32 (toW IntKind.u32 n_1)] h'
 fun (v : Value) (h' : Hp) =>
 ∃ (s_1 : ByteArray),
 ∃ (n : Int),
 v = Value.tuple (Array.mk [Value.string s_1, Value.int IntKind.i64 n]) ∧
 if sel (notB (strEq s s_1)) true (neI n_3 n) = true then
 K (Value.bool false) h'
 else
 ∃ (m' : Nat),
 lessN m' m_1 ∧
 I_1 [Value.int IntKind.i64 (addW IntKind.i64 n_1 1)] m' h'
 else ∃ (m' : Nat), lessN m' m ∧ I [Value.int IntKind.i64 (addW IntKind.i64 n 1)] m' h'
 else K (Value.bool true) h) := by kernel_rfl
end Go.Proofs.Ytfkhjbfddeahaaa.vc

/- The conditions of the symbolic runs of functions of the program (printed by a program of ours, vcgen.py; checked by the kernel). -/
set_option linter.unusedVariables false
set_option maxRecDepth 100000
namespace Go.Proofs.Ytfkhjbfddeahaaa.vc
open Go Go.Cn Go.Proofs

def shp58n : Nat → List (Tmp × TypeId) := fun i => []
theorem vc58n (C : FuncId → List Value → Hp → (Value → Hp → Prop) → Prop)  (h : Hp) (K : Value → Hp → Prop) : vBody Try.prog C pf shp58n Try.f58 (Try.f58.body.getD .skip) [.pointer none] h K = (
 (notB (isN none) = true → (none : Option Addr).isSome = true) ∧
 (notB (isN none) = true → plainA none = true) ∧ (notB (isN none) = true → plainA (some (Addr.mk (blk none) (plusN (off none) 2) none)) = true) ∧ ∃ (n : Int), (notB (isN none) = true → plainA (some (Addr.mk (blk none) (plusN (off none) 2) none)) = true ∧ h.cellsAt (blk none) (plusN (off none) 2) 1 = some [Value.int IntKind.i64 n]) ∧ K (Value.bool (sel (notB (isN none)) (gtI n 0) false)) h) := by kernel_rfl

def shp62n : Nat → List (Tmp × TypeId) := fun i => []
theorem vc62n (C : FuncId → List Value → Hp → (Value → Hp → Prop) → Prop)  (h : Hp) (K : Value → Hp → Prop) : vBody Try.prog C pf shp62n Try.f62 (Try.f62.body.getD .skip) [.pointer none] h K = (
 C 58 [Value.pointer none] h fun (v : Value) (h' : Hp) =>
 ∃ (b : Bool), v = Value.bool b ∧ if notB b = true then K (Value.int IntKind.i64 1) h' else (none : Option Addr).isSome = true ∧ plainA none = true ∧ ∃ (b : Bool), (plainA (some (Addr.mk (blk none) (plusN (off none) 5) none)) = true ∧ h'.cellsAt (blk none) (plusN (off none) 5) 1 = some [Value.bool b]) ∧ if b = true then K (Value.int IntKind.i64 7) h' else K (Value.int IntKind.i64 0) h') := by kernel_rfl

def shp55n : Nat → List (Tmp × TypeId) := fun i => []
theorem vc55n (C : FuncId → List Value → Hp → (Value → Hp → Prop) → Prop) (no : Int) (h : Hp) (K : Value → Hp → Prop) : vBody Try.prog C pf shp55n Try.f55 (Try.f55.body.getD .skip) [.pointer none, .int .u32 no] h K = (
 C 62 [Value.pointer none] h fun (v : Value) (h' : Hp) =>
 ∃ (n : Int),
 v = Value.int IntKind.i64 n ∧
 if neI n 0 = true then K (Value.tuple (Array.mk [Value.string (ByteArray.mk (Array.mk [])), Value.int IntKind.i64 n])) h'
 else
 (none : Option Addr).isSome = true ∧
 plainA none = true ∧
 C 92 [Value.pointer (some (Addr.mk (blk none) (off none) none)), Value.int IntKind.u32 no] h' fun (v : Value) (h' : Hp) =>
 ∃ (b : Bool),
 v = Value.bool b ∧
 if notB b = true then K (Value.tuple (Array.mk [Value.string (ByteArray.mk (Array.mk [])), Value.int IntKind.i64 41])) h'
 else
 (none : Option Addr).isSome = true ∧
 plainA none = true ∧
 plainA (some (Addr.mk (blk none) (off none) none)) = true ∧
 ∃ (a : Option Addr),
 ∃ (l : Nat),
 ∃ (c : Nat),
 (plainA (some (Addr.mk (blk none) (plusN (off none) 1) none)) = true ∧ h'.cellsAt (blk none) (plusN (off none) 1) 1 = some [Value.slice a l c]) ∧
 (a.isSome = true ∧ inR no l) ∧ ∃ (s : ByteArray), (plainA (some (Addr.mk (blk a) (plusI (off a) no 1) none)) = true ∧ h'.cellsAt (blk a) (plusI (off a) no 1) 1 = some [Value.string s]) ∧ K (Value.tuple (Array.mk [Value.string s, Value.int IntKind.i64 0])) h') := by kernel_rfl

def shp85n : Nat → List (Tmp × TypeId) := fun i => []
theorem vc85n (C : FuncId → List Value → Hp → (Value → Hp → Prop) → Prop)  (h : Hp) (K : Value → Hp → Prop) : vBody Try.prog C pf shp85n Try.f85 (Try.f85.body.getD .skip) [.pointer none] h K = (
 C 62 [Value.pointer none] h fun (v : Value) (h' : Hp) =>
 ∃ (n : Int),
 v = Value.int IntKind.i64 n ∧
 if neI n 0 = true then K (Value.tuple (Array.mk [Value.int IntKind.i64 0, Value.int IntKind.i64 n])) h'
 else
 (none : Option Addr).isSome = true ∧
 plainA none = true ∧
 ∃ (n : Int),
 (plainA (some (Addr.mk (blk none) (plusN (off none) 9) none)) = true ∧ h'.cellsAt (blk none) (plusN (off none) 9) 1 = some [Value.int IntKind.i64 n]) ∧
 (none : Option Addr).isSome = true ∧
 plainA none = true ∧
 plainA (some (Addr.mk (blk none) (plusN (off none) 9) none)) = true ∧
 ∃ (h'_1 : Hp),
 h'.store (blk none) (plusN (off none) 9) [Value.int IntKind.i64 (addW IntKind.i64 n 1)] = some h'_1 ∧
 (none : Option Addr).isSome = true ∧ plainA none = true ∧ ∃ (n : Int), (plainA (some (Addr.mk (blk none) (plusN (off none) 9) none)) = true ∧ h'_1.cellsAt (blk none) (plusN (off none) 9) 1 = some [Value.int IntKind.i64 n]) ∧ K (Value.tuple (Array.mk [Value.int IntKind.i64 n, Value.int IntKind.i64 0])) h'_1) := by kernel_rfl

def shp54n : Nat → List (Tmp × TypeId) := fun i => []
theorem vc54n (C : FuncId → List Value → Hp → (Value → Hp → Prop) → Prop) (no : Int) (s : ByteArray) (h : Hp) (K : Value → Hp → Prop) : vBody Try.prog C pf shp54n Try.f54 (Try.f54.body.getD .skip) [.pointer none, .int .u32 no, .string s] h K = (
 C 62 [Value.pointer none] h fun (v : Value) (h' : Hp) =>
 ∃ (n : Int),
 v = Value.int IntKind.i64 n ∧
 if neI n 0 = true then K (Value.int IntKind.i64 n) h'
 else
 (none : Option Addr).isSome = true ∧
 plainA none = true ∧
 C 92 [Value.pointer (some (Addr.mk (blk none) (off none) none)), Value.int IntKind.u32 no] h' fun (v : Value) (h' : Hp) =>
 ∃ (b : Bool),
 v = Value.bool b ∧
 if notB b = true then K (Value.int IntKind.i64 41) h'
 else
 (none : Option Addr).isSome = true ∧
 plainA none = true ∧
 plainA (some (Addr.mk (blk none) (off none) none)) = true ∧
 ∃ (n : Int),
 (plainA (some (Addr.mk (blk none) (off none) none)) = true ∧ h'.cellsAt (blk none) (off none) 1 = some [Value.int IntKind.i64 n]) ∧
 if neI (natI (lenS s)) n = true then K (Value.int IntKind.i64 2) h'
 else
 ∀ (h'_1 : Hp),
 h'_1 = h'.alloc [Value.int IntKind.u8 1, Value.int IntKind.u32 no, Value.int IntKind.i64 (Int.ofNat 0), Value.string s] 103 →
 C 73 [Value.pointer none, Value.int IntKind.u8 1, Value.int IntKind.i64 6, Value.slice (some (Addr.mk h'.next 0 none)) 1 1] h'_1 fun (v : Value) (h' : Hp) =>
 ∃ (n : Int),
 v = Value.int IntKind.i64 n ∧
 if neI n 0 = true then K (Value.int IntKind.i64 n) h'
 else
 (none : Option Addr).isSome = true ∧
 plainA none = true ∧
 plainA (some (Addr.mk (blk none) (off none) none)) = true ∧
 ∃ (a : Option Addr),
 ∃ (l : Nat),
 ∃ (c : Nat),
 (plainA (some (Addr.mk (blk none) (plusN (off none) 1) none)) = true ∧ h'.cellsAt (blk none) (plusN (off none) 1) 1 = some [Value.slice a l c]) ∧
 (a.isSome = true ∧ inR no l) ∧
 plainA (some (Addr.mk (blk a) (plusI (off a) no 1) none)) = true ∧
 ∃ (h'_2 : Hp),
 h'.store (blk a) (plusI (off a) no 1) [Value.string s] = some h'_2 ∧
 (none : Option Addr).isSome = true ∧
 plainA none = true ∧
 plainA (some (Addr.mk (blk none) (plusN (off none) 10) none)) = true ∧
 ∃ (n : Int),
 (plainA (some (Addr.mk (blk none) (plusN (off none) 10) none)) = true ∧ h'_2.cellsAt (blk none) (plusN (off none) 10) 1 = some [Value.int IntKind.i64 n]) ∧
 (none : Option Addr).isSome = true ∧
 plainA none = true ∧ plainA (some (Addr.mk (blk none) (plusN (off none) 10) none)) = true ∧ plainA (some (Addr.mk (blk none) (plusN (off none) 10) none)) = true ∧ ∃ (h' : Hp), h'_2.store (blk none) (plusN (off none) 10) [Value.int IntKind.i64 (addW IntKind.i64 n 1)] = some h' ∧ K (Value.int IntKind.i64 0) h') := by kernel_rfl

def shp53n : Nat → List (Tmp × TypeId) := fun i => []
theorem vc53n (C : FuncId → List Value → Hp → (Value → Hp → Prop) → Prop) (n : Int) (h : Hp) (K : Value → Hp → Prop) : vBody Try.prog C pf shp53n Try.f53 (Try.f53.body.getD .skip) [.pointer none, .int .i64 n] h K = (
 C 62 [Value.pointer none] h fun (v : Value) (h' : Hp) =>
 ∃ (n_1 : Int),
 v = Value.int IntKind.i64 n_1 ∧
 if neI n_1 0 = true then K (Value.int IntKind.i64 n_1) h'
 else
 if ltI n 1 = true then K (Value.int IntKind.i64 2) h'
 else
 (none : Option Addr).isSome = true ∧
 plainA none = true ∧
 ∃ (n_2 : Int),
 (plainA (some (Addr.mk (blk none) (plusN (off none) 4) none)) = true ∧ h'.cellsAt (blk none) (plusN (off none) 4) 1 = some [Value.int IntKind.i64 n_2]) ∧
 C 57 [Value.pointer none] h' fun (v : Value) (h' : Hp) =>
 ∃ (n_3 : Int),
 v = Value.int IntKind.i64 n_3 ∧
 (plainA (some (Addr.mk (blk none) (plusN (off none) 4) none)) = true ∧ h'.cellsAt (blk none) (plusN (off none) 4) 1 = some [Value.int IntKind.i64 n_2]) ∧
 if gtI n (subW IntKind.i64 n_2 n_3) = true then K (Value.int IntKind.i64 5) h'
 else
 C 57 [Value.pointer none] h' fun (v : Value) (h' : Hp) =>
 ∃ (n_4 : Int),
 v = Value.int IntKind.i64 n_4 ∧
 ∀ (h'_1 : Hp),
 h'_1 = h'.alloc [Value.int IntKind.u8 2, Value.int IntKind.u32 (Int.ofNat 0), Value.int IntKind.i64 (addW IntKind.i64 n_4 n), Value.string (ByteArray.mk (Array.mk []))] 103 →
 C 73 [Value.pointer none, Value.int IntKind.u8 2, Value.int IntKind.i64 5, Value.slice (some (Addr.mk h'.next 0 none)) 1 1] h'_1 fun (v : Value) (h' : Hp) =>
 ∃ (n_5 : Int),
 v = Value.int IntKind.i64 n_5 ∧
 if neI n_5 0 = true then K (Value.int IntKind.i64 n_5) h'
 else
 (none : Option Addr).isSome = true ∧
 plainA none = true ∧
 C 91 [Value.pointer (some (Addr.mk (blk none) (off none) none)), Value.int IntKind.i64 (addW IntKind.i64 n_4 n)] h' fun (v : Value) (h' : Hp) =>
 v = Value.tuple (Array.mk []) ∧
 (none : Option Addr).isSome = true ∧
 plainA none = true ∧
 plainA (some (Addr.mk (blk none) (plusN (off none) 10) none)) = true ∧
 ∃ (n : Int),
 (plainA (some (Addr.mk (blk none) (plusN (plusN (off none) 10) 1) none)) = true ∧ h'.cellsAt (blk none) (plusN (plusN (off none) 10) 1) 1 = some [Value.int IntKind.i64 n]) ∧
 (none : Option Addr).isSome = true ∧
 plainA none = true ∧ plainA (some (Addr.mk (blk none) (plusN (off none) 10) none)) = true ∧ plainA (some (Addr.mk (blk none) (plusN (plusN (off none) 10) 1) none)) = true ∧ ∃ (h'_2 : Hp), h'.store (blk none) (plusN (plusN (off none) 10) 1) [Value.int IntKind.i64 (addW IntKind.i64 n 1)] = some h'_2 ∧ K (Value.int IntKind.i64 0) h'_2) := by kernel_rfl

def shp46n : Nat → List (Tmp × TypeId) := fun i => []
theorem vc46n (C : FuncId → List Value → Hp → (Value → Hp → Prop) → Prop)  (h : Hp) (K : Value → Hp → Prop) : vBody Try.prog C pf shp46n Try.f46 (Try.f46.body.getD .skip) [.pointer none] h K = (
 C 62 [Value.pointer none] h fun (v : Value) (h' : Hp) =>
 ∃ (n : Int),
 v = Value.int IntKind.i64 n ∧
 if neI n 0 = true then K (Value.int IntKind.i64 n) h'
 else
 C 73 [Value.pointer none, Value.int IntKind.u8 3, Value.int IntKind.i64 6, Value.slice none 0 0] h' fun (v : Value) (h' : Hp) =>
 ∃ (n : Int),
 v = Value.int IntKind.i64 n ∧
 if neI n 0 = true then K (Value.int IntKind.i64 n) h'
 else
 (none : Option Addr).isSome = true ∧
 plainA none = true ∧
 plainA (some (Addr.mk (blk none) (off none) none)) = true ∧
 ∃ (a : Option Addr),
 ∃ (l : Nat),
 ∃ (c : Nat),
 (plainA (some (Addr.mk (blk none) (plusN (off none) 1) none)) = true ∧ h'.cellsAt (blk none) (plusN (off none) 1) 1 = some [Value.slice a l c]) ∧
 C 59 [Value.slice a l c] h' fun (v : Value) (h' : Hp) =>
 ∃ (a : Option Addr),
 ∃ (l : Nat),
 ∃ (c : Nat),
 v = Value.slice a l c ∧
 (none : Option Addr).isSome = true ∧
 plainA none = true ∧
 plainA (some (Addr.mk (blk none) (plusN (off none) 2) none)) = true ∧
 plainA (some (Addr.mk (blk none) (plusN (plusN (off none) 2) 1) none)) = true ∧
 ∃ (h'_1 : Hp),
 h'.store (blk none) (plusN (plusN (off none) 2) 1) [Value.slice a l c] = some h'_1 ∧
 (none : Option Addr).isSome = true ∧
 plainA none = true ∧
 plainA (some (Addr.mk (blk none) (plusN (off none) 6) none)) = true ∧
 ∃ (h' : Hp),
 h'_1.store (blk none) (plusN (off none) 6) [Value.slice none 0 0] = some h' ∧
 (none : Option Addr).isSome = true ∧
 plainA none = true ∧
 plainA (some (Addr.mk (blk none) (plusN (off none) 10) none)) = true ∧
 ∃ (n : Int),
 (plainA (some (Addr.mk (blk none) (plusN (plusN (off none) 10) 2) none)) = true ∧ h'.cellsAt (blk none) (plusN (plusN (off none) 10) 2) 1 = some [Value.int IntKind.i64 n]) ∧
 (none : Option Addr).isSome = true ∧
 plainA none = true ∧
 plainA (some (Addr.mk (blk none) (plusN (off none) 10) none)) = true ∧ plainA (some (Addr.mk (blk none) (plusN (plusN (off none) 10) 2) none)) = true ∧ ∃ (h'_2 : Hp), h'.store (blk none) (plusN (plusN (off none) 10) 2) [Value.int IntKind.i64 (addW IntKind.i64 n 1)] = some h'_2 ∧ K (Value.int IntKind.i64 0) h'_2) := by kernel_rfl

def shp44n : Nat → List (Tmp × TypeId) := fun i => if i = 5 then [(17, 3)] else if i = 13 then [(41, 3)] else []
theorem vc44n (C : FuncId → List Value → Hp → (Value → Hp → Prop) → Prop) (a : Option Addr) (l c : Nat) (h : Hp) (K : Value → Hp → Prop) : vBody Try.prog C pf shp44n Try.f44 (Try.f44.body.getD .skip) [.pointer none, .slice a l c] h K = (
 C 62 [Value.pointer none] h fun (v : Value) (h' : Hp) =>
 ∃ (n : Int),
 v = Value.int IntKind.i64 n ∧
 if neI n 0 = true then K (Value.int IntKind.i64 n) h'
 else
 ∃ (I : List Value → Nat → Hp → Prop),
 (∃ (m : Nat), I [Value.int IntKind.i64 0] m h') ∧
 ∀ (n : Int) (m : Nat) (h : Hp),
 I [Value.int IntKind.i64 n] m h →
 if ltI n (natI l) = true then
 (a.isSome = true ∧ inR n l) ∧
 ∃ (n_1 : Int),
 ∃ (n_2 : Int),
 ∃ (b : Bool),
 ∃ (a_2 : Option Addr),
 ∃ (l : Nat),
 ∃ (c : Nat),
 (plainA (some (Addr.mk (blk a) (plusI (off a) n 4) none)) = true ∧ h.cellsAt (blk a) (plusI (off a) n 4) 4 = some [Value.int IntKind.u8 n_1, Value.int IntKind.i64 n_2, Value.bool b, Value.slice a_2 l c]) ∧
 ∀ (h' : Hp),
 h' = h.alloc [Value.int IntKind.u8 (Int.ofNat 0), Value.int IntKind.i64 (Int.ofNat 0), Value.bool false, Value.slice none 0 0] 77 →
 plainA (some (Addr.mk h.next 0 none)) = true ∧
 ∃ (h'_1 : Hp),
 h'.store h.next 0 [Value.int IntKind.u8 n_1, Value.int IntKind.i64 n_2, Value.bool b, Value.slice a_2 l c] = some h'_1 ∧
 plainA (some (Addr.mk h.next 0 none)) = true ∧
 ∃ (n_3 : Int),
 (plainA (some (Addr.mk h.next 0 none)) = true ∧ h'_1.cellsAt h.next 0 1 = some [Value.int IntKind.u8 n_3]) ∧
 (notB (gtI n_3 3) = true → plainA (some (Addr.mk h.next 0 none)) = true) ∧
 ∃ (n_4 : Int), (notB (gtI n_3 3) = true → plainA (some (Addr.mk h.next 1 none)) = true ∧ h'_1.cellsAt h.next 1 1 = some [Value.int IntKind.i64 n_4]) ∧ if sel (gtI n_3 3) true (ltI n_4 1) = true then K (Value.int IntKind.i64 2) h'_1 else ∃ (m' : Nat), lessN m' m ∧ I [Value.int IntKind.i64 (addW IntKind.i64 n 1)] m' h'_1
 else
 (none : Option Addr).isSome = true ∧
 plainA none = true ∧
 ∃ (a_2 : Option Addr),
 ∃ (l_1 : Nat),
 ∃ (c : Nat),
 (plainA (some (Addr.mk (blk none) (plusN (off none) 7) none)) = true ∧ h.cellsAt (blk none) (plusN (off none) 7) 1 = some [Value.slice a_2 l_1 c]) ∧
 if gtI (addW IntKind.i64 (natI l_1) (natI l)) 64 = true then K (Value.int IntKind.i64 4) h
 else
 ∃ (I : List Value → Nat → Hp → Prop),
 (∃ (m : Nat), I [Value.int IntKind.i64 0] m h) ∧
 ∀ (n : Int) (m : Nat) (h : Hp),
 I [Value.int IntKind.i64 n] m h →
 if ltI n (natI l) = true then
 (a.isSome = true ∧ inR n l) ∧
 ∃ (n_1 : Int),
 ∃ (n_2 : Int),
 ∃ (b : Bool),
 ∃ (a_4 : Option Addr),
 ∃ (l : Nat),
 ∃ (c : Nat),
 (plainA (some (Addr.mk (blk a) (plusI (off a) n 4) none)) = true ∧ h.cellsAt (blk a) (plusI (off a) n 4) 4 = some [Value.int IntKind.u8 n_1, Value.int IntKind.i64 n_2, Value.bool b, Value.slice a_4 l c]) ∧
 ∀ (h' : Hp),
 h' = h.alloc [Value.int IntKind.u8 (Int.ofNat 0), Value.int IntKind.i64 (Int.ofNat 0), Value.bool false, Value.slice none 0 0] 77 →
 plainA (some (Addr.mk h.next 0 none)) = true ∧
 ∃ (h'_1 : Hp),
 h'.store h.next 0 [Value.int IntKind.u8 n_1, Value.int IntKind.i64 n_2, Value.bool b, Value.slice a_4 l c] = some h'_1 ∧
 plainA (some (Addr.mk h.next 0 none)) = true ∧
 ∃ (a : Option Addr),
 ∃ (l : Nat),
 ∃ (c : Nat),
 (plainA (some (Addr.mk h.next 3 none)) = true ∧ h'_1.cellsAt h.next 3 1 = some [Value.slice a l c]) ∧
 C 72 [Value.slice a l c] h'_1 fun (v : Value) (h' : Hp) =>
 ∃ (a : Option Addr),
 ∃ (l : Nat),
 ∃ (c : Nat),
 v = Value.slice a l c ∧
 plainA (some (Addr.mk h.next 0 none)) = true ∧
 plainA (some (Addr.mk h.next 3 none)) = true ∧
 ∃ (h'_2 : Hp),
 h'.store h.next 3 [Value.slice a l c] = some h'_2 ∧
 (none : Option Addr).isSome = true ∧
 plainA none = true ∧
 ∃ (a : Option Addr),
 ∃ (l : Nat),
 ∃ (c : Nat),
 (plainA (some (Addr.mk (blk none) (plusN (off none) 7) none)) = true ∧ h'_2.cellsAt (blk none) (plusN (off none) 7) 1 = some [Value.slice a l c]) ∧
 ∃ (n_3 : Int),
 ∃ (n_4 : Int),
 ∃ (b : Bool),
 ∃ (a_5 : Option Addr),
 ∃ (l_2 : Nat),
 ∃ (c_1 : Nat),
 (plainA (some (Addr.mk h.next 0 none)) = true ∧ h'_2.cellsAt h.next 0 4 = some [Value.int IntKind.u8 n_3, Value.int IntKind.i64 n_4, Value.bool b, Value.slice a_5 l_2 c_1]) ∧
 plainA (some (Addr.mk h.next 0 none)) = true ∧
 ∃ (n_5 : Int),
 (plainA (some (Addr.mk h.next 1 none)) = true ∧ h'_2.cellsAt h.next 1 1 = some [Value.int IntKind.i64 n_5]) ∧
 ∀ (h' : Hp),
 h' = h'_2.alloc [Value.int IntKind.u8 n_3, Value.int IntKind.i64 n_4, Value.bool b, Value.slice a_5 l_2 c_1, Value.int IntKind.i64 n_5] 108 →
 (plainA (some (Addr.mk (blk none) (plusN (off none) 7) none)) = true ∧ h'.cellsAt (blk none) (plusN (off none) 7) 1 = some [Value.slice a l c]) ∧
 ∃ (a_7 : Option Addr),
 ∃ (m_1 : Nat),
 ∃ (n_6 : Nat),
 ∃ (h'_3 : Hp),
 cappend Try.prog 99 99 (Value.slice a l c) (Value.slice (some (Addr.mk h'_2.next 0 none)) 1 1) h' = some (Value.slice a_7 m_1 n_6, h'_3) ∧
 (none : Option Addr).isSome = true ∧
 plainA none = true ∧
 plainA (some (Addr.mk (blk none) (plusN (off none) 7) none)) = true ∧ ∃ (h' : Hp), h'_3.store (blk none) (plusN (off none) 7) [Value.slice a_7 m_1 n_6] = some h' ∧ ∃ (m' : Nat), lessN m' m ∧ I [Value.int IntKind.i64 (addW IntKind.i64 n 1)] m' h'
 else K (Value.int IntKind.i64 0) h) := by kernel_rfl

def shp32n : Nat → List (Tmp × TypeId) := fun i => []
theorem vc32n (C : FuncId → List Value → Hp → (Value → Hp → Prop) → Prop) (a : Option Addr) (l c : Nat) (h : Hp) (K : Value → Hp → Prop) : vBody Try.prog C pf shp32n Try.f32 (Try.f32.body.getD .skip) [.pointer none, .slice a l c] h K = (
 C 62 [Value.pointer none] h fun (v : Value) (h' : Hp) => ∃ (n : Int), v = Value.int IntKind.i64 n ∧ if neI n 0 = true then K (Value.int IntKind.i64 n) h' else C 63 [Value.pointer none, Value.slice a l c] h' fun (v : Value) (h' : Hp) => v = Value.tuple (Array.mk []) ∧ K (Value.int IntKind.i64 0) h') := by kernel_rfl

def shp36n : Nat → List (Tmp × TypeId) := fun i => []
theorem vc36n (C : FuncId → List Value → Hp → (Value → Hp → Prop) → Prop)  (h : Hp) (K : Value → Hp → Prop) : vBody Try.prog C pf shp36n Try.f36 (Try.f36.body.getD .skip) [.pointer none] h K = (
 C 58 [Value.pointer none] h fun (v : Value) (h' : Hp) =>
 ∃ (b : Bool),
 v = Value.bool b ∧
 if notB b = true then K (Value.int IntKind.i64 1) h'
 else
 (none : Option Addr).isSome = true ∧
 plainA none = true ∧
 ∃ (b : Bool),
 (plainA (some (Addr.mk (blk none) (plusN (off none) 5) none)) = true ∧ h'.cellsAt (blk none) (plusN (off none) 5) 1 = some [Value.bool b]) ∧
 if notB b = true then K (Value.int IntKind.i64 40) h'
 else
 (none : Option Addr).isSome = true ∧
 plainA none = true ∧
 plainA (some (Addr.mk (blk none) (plusN (off none) 5) none)) = true ∧
 ∃ (h'_1 : Hp),
 h'.store (blk none) (plusN (off none) 5) [Value.bool false] = some h'_1 ∧
 (none : Option Addr).isSome = true ∧
 plainA none = true ∧
 ∃ (n : Int),
 (plainA (some (Addr.mk (blk none) (plusN (off none) 8) none)) = true ∧ h'_1.cellsAt (blk none) (plusN (off none) 8) 1 = some [Value.int IntKind.i64 n]) ∧
 (none : Option Addr).isSome = true ∧ plainA none = true ∧ plainA (some (Addr.mk (blk none) (plusN (off none) 8) none)) = true ∧ ∃ (h' : Hp), h'_1.store (blk none) (plusN (off none) 8) [Value.int IntKind.i64 (addW IntKind.i64 n 1)] = some h' ∧ K (Value.int IntKind.i64 0) h') := by kernel_rfl

def shp69n : Nat → List (Tmp × TypeId) := fun i => []
theorem vc69n (C : FuncId → List Value → Hp → (Value → Hp → Prop) → Prop)  (h : Hp) (K : Value → Hp → Prop) : vBody Try.prog C pf shp69n Try.f69 (Try.f69.body.getD .skip) [.pointer none] h K = (
 C 58 [Value.pointer none] h fun (v : Value) (h' : Hp) =>
 ∃ (b : Bool), v = Value.bool b ∧ if notB b = true then K (Value.int IntKind.i64 0) h' else (none : Option Addr).isSome = true ∧ plainA none = true ∧ plainA (some (Addr.mk (blk none) (plusN (off none) 2) none)) = true ∧ ∃ (n : Int), (plainA (some (Addr.mk (blk none) (plusN (off none) 2) none)) = true ∧ h'.cellsAt (blk none) (plusN (off none) 2) 1 = some [Value.int IntKind.i64 n]) ∧ K (Value.int IntKind.i64 n) h') := by kernel_rfl

def shp70n : Nat → List (Tmp × TypeId) := fun i => []
theorem vc70n (C : FuncId → List Value → Hp → (Value → Hp → Prop) → Prop)  (h : Hp) (K : Value → Hp → Prop) : vBody Try.prog C pf shp70n Try.f70 (Try.f70.body.getD .skip) [.pointer none] h K = (
 C 58 [Value.pointer none] h fun (v : Value) (h' : Hp) => ∃ (b : Bool), v = Value.bool b ∧ if notB b = true then K (Value.int IntKind.i64 0) h' else (none : Option Addr).isSome = true ∧ plainA none = true ∧ ∃ (n : Int), (plainA (some (Addr.mk (blk none) (plusN (off none) 4) none)) = true ∧ h'.cellsAt (blk none) (plusN (off none) 4) 1 = some [Value.int IntKind.i64 n]) ∧ K (Value.int IntKind.i64 n) h') := by kernel_rfl

def shp57n : Nat → List (Tmp × TypeId) := fun i => []
theorem vc57n (C : FuncId → List Value → Hp → (Value → Hp → Prop) → Prop)  (h : Hp) (K : Value → Hp → Prop) : vBody Try.prog C pf shp57n Try.f57 (Try.f57.body.getD .skip) [.pointer none] h K = (
 C 58 [Value.pointer none] h fun (v : Value) (h' : Hp) => ∃ (b : Bool), v = Value.bool b ∧ if notB b = true then K (Value.int IntKind.i64 0) h' else (none : Option Addr).isSome = true ∧ plainA none = true ∧ C 93 [Value.pointer (some (Addr.mk (blk none) (off none) none))] h' fun (v : Value) (h' : Hp) => ∃ (n : Int), v = Value.int IntKind.i64 n ∧ K (Value.int IntKind.i64 n) h') := by kernel_rfl

def shp45n : Nat → List (Tmp × TypeId) := fun i => []
theorem vc45n (C : FuncId → List Value → Hp → (Value → Hp → Prop) → Prop)  (h : Hp) (K : Value → Hp → Prop) : vBody Try.prog C pf shp45n Try.f45 (Try.f45.body.getD .skip) [.pointer none] h K = (
 C 58 [Value.pointer none] h fun (v : Value) (h' : Hp) =>
 ∃ (b : Bool), v = Value.bool b ∧ if notB b = true then K (Value.int IntKind.i64 0) h' else (none : Option Addr).isSome = true ∧ plainA none = true ∧ ∃ (a : Option Addr), ∃ (l : Nat), ∃ (c : Nat), (plainA (some (Addr.mk (blk none) (plusN (off none) 7) none)) = true ∧ h'.cellsAt (blk none) (plusN (off none) 7) 1 = some [Value.slice a l c]) ∧ K (Value.int IntKind.i64 (natI l)) h') := by kernel_rfl

def shp38n : Nat → List (Tmp × TypeId) := fun i => []
theorem vc38n (C : FuncId → List Value → Hp → (Value → Hp → Prop) → Prop)  (h : Hp) (K : Value → Hp → Prop) : vBody Try.prog C pf shp38n Try.f38 (Try.f38.body.getD .skip) [.pointer none] h K = (
 C 58 [Value.pointer none] h fun (v : Value) (h' : Hp) => ∃ (b : Bool), v = Value.bool b ∧ (b = true → (none : Option Addr).isSome = true) ∧ (b = true → plainA none = true) ∧ ∃ (b_1 : Bool), (b = true → plainA (some (Addr.mk (blk none) (plusN (off none) 5) none)) = true ∧ h'.cellsAt (blk none) (plusN (off none) 5) 1 = some [Value.bool b_1]) ∧ K (Value.bool (sel b (notB b_1) false)) h') := by kernel_rfl

def shp56n : Nat → List (Tmp × TypeId) := fun i => []
theorem vc56n (C : FuncId → List Value → Hp → (Value → Hp → Prop) → Prop)  (h : Hp) (K : Value → Hp → Prop) : vBody Try.prog C pf shp56n Try.f56 (Try.f56.body.getD .skip) [.pointer none] h K = (
 C 58 [Value.pointer none] h fun (v : Value) (h' : Hp) => ∃ (b : Bool), v = Value.bool b ∧ if notB b = true then K (Value.int IntKind.i64 0) h' else (none : Option Addr).isSome = true ∧ plainA none = true ∧ ∃ (n : Int), (plainA (some (Addr.mk (blk none) (plusN (off none) 8) none)) = true ∧ h'.cellsAt (blk none) (plusN (off none) 8) 1 = some [Value.int IntKind.i64 n]) ∧ K (Value.int IntKind.i64 n) h') := by kernel_rfl

def shp39n : Nat → List (Tmp × TypeId) := fun i => []
theorem vc39n (C : FuncId → List Value → Hp → (Value → Hp → Prop) → Prop)  (h : Hp) (K : Value → Hp → Prop) : vBody Try.prog C pf shp39n Try.f39 (Try.f39.body.getD .skip) [.pointer none] h K = (
 C 58 [Value.pointer none] h fun (v : Value) (h' : Hp) => ∃ (b : Bool), v = Value.bool b ∧ if notB b = true then K (Value.int IntKind.i64 0) h' else (none : Option Addr).isSome = true ∧ plainA none = true ∧ ∃ (n : Int), (plainA (some (Addr.mk (blk none) (plusN (off none) 9) none)) = true ∧ h'.cellsAt (blk none) (plusN (off none) 9) 1 = some [Value.int IntKind.i64 n]) ∧ K (Value.int IntKind.i64 n) h') := by kernel_rfl

def shp30n : Nat → List (Tmp × TypeId) := fun i => if i = 5 then [(3, 51), (14, 3)] else []
theorem vc30n (C : FuncId → List Value → Hp → (Value → Hp → Prop) → Prop)  (h : Hp) (K : Value → Hp → Prop) : vBody Try.prog C pf shp30n Try.f30 (Try.f30.body.getD .skip) [.pointer none] h K = (
 C 58 [Value.pointer none] h fun (v : Value) (h' : Hp) =>
 ∃ (b : Bool),
 v = Value.bool b ∧
 if notB b = true then K (Value.slice none 0 0) h'
 else
 (none : Option Addr).isSome = true ∧
 plainA none = true ∧
 ∃ (a : Option Addr),
 ∃ (l : Nat),
 ∃ (c : Nat),
 (plainA (some (Addr.mk (blk none) (plusN (off none) 6) none)) = true ∧ h'.cellsAt (blk none) (plusN (off none) 6) 1 = some [Value.slice a l c]) ∧
 ∃ (I : List Value → Nat → Hp → Prop),
 (∃ (m : Nat), I [Value.slice none 0 0, Value.int IntKind.i64 0] m h') ∧
 ∀ (a_1 : Option Addr) (l_1 c : Nat) (n : Int) (m : Nat) (h : Hp),
 I [Value.slice a_1 l_1 c, Value.int IntKind.i64 n] m h →
 if ltI n (natI l) = true then
 (a.isSome = true ∧ inR n l) ∧
 ∃ (n_1 : Int),
 ∃ (n_2 : Int),
 ∃ (n_3 : Int),
 ∃ (s : ByteArray),
 (plainA (some (Addr.mk (blk a) (plusI (off a) n 4) none)) = true ∧ h.cellsAt (blk a) (plusI (off a) n 4) 4 = some [Value.int IntKind.u8 n_1, Value.int IntKind.u32 n_2, Value.int IntKind.i64 n_3, Value.string s]) ∧
 ∀ (h' : Hp),
 h' = h.alloc [Value.int IntKind.u8 (Int.ofNat 0), Value.int IntKind.u32 (Int.ofNat 0), Value.int IntKind.i64 (Int.ofNat 0), Value.string (ByteArray.mk (Array.mk []))] 103 →
 plainA (some (Addr.mk h.next 0 none)) = true ∧
 ∃ (h'_1 : Hp),
 h'.store h.next 0 [Value.int IntKind.u8 n_1, Value.int IntKind.u32 n_2, Value.int IntKind.i64 n_3, Value.string s] = some h'_1 ∧
 plainA (some (Addr.mk h.next 0 none)) = true ∧
 ∃ (n_4 : Int),
 ∃ (n_5 : Int),
 ∃ (n_6 : Int),
 (plainA (some (Addr.mk h.next 0 none)) = true ∧ h'_1.cellsAt h.next 0 3 = some [Value.int IntKind.u8 n_4, Value.int IntKind.u32 n_5, Value.int IntKind.i64 n_6]) ∧
 ∀ (h' : Hp),
 h' = h'_1.alloc [Value.int IntKind.u8 n_4, Value.int IntKind.u32 n_5, Value.int IntKind.i64 n_6] 60 →
 ∃ (a : Option Addr), ∃ (m_1 : Nat), ∃ (n_7 : Nat), ∃ (h'_2 : Hp), cappend Try.prog 51 51 (Value.slice a_1 l_1 c) (Value.slice (some (Addr.mk h'_1.next 0 none)) 1 1) h' = some (Value.slice a m_1 n_7, h'_2) ∧ ∃ (m' : Nat), lessN m' m ∧ I [Value.slice a m_1 n_7, Value.int IntKind.i64 (addW IntKind.i64 n 1)] m' h'_2
 else K (Value.slice a_1 l_1 c) h) := by kernel_rfl

def shp34n : Nat → List (Tmp × TypeId) := fun i => []
theorem vc34n (C : FuncId → List Value → Hp → (Value → Hp → Prop) → Prop)  (h : Hp) (K : Value → Hp → Prop) : vBody Try.prog C pf shp34n Try.f34 (Try.f34.body.getD .skip) [.pointer none] h K = (
 C 58 [Value.pointer none] h fun (v : Value) (h' : Hp) =>
 ∃ (b : Bool),
 v = Value.bool b ∧
 if notB b = true then K (Value.slice none 0 0) h'
 else
 (none : Option Addr).isSome = true ∧
 plainA none = true ∧
 plainA (some (Addr.mk (blk none) (plusN (off none) 2) none)) = true ∧
 ∃ (a : Option Addr), ∃ (l : Nat), ∃ (c : Nat), (plainA (some (Addr.mk (blk none) (plusN (plusN (off none) 2) 1) none)) = true ∧ h'.cellsAt (blk none) (plusN (plusN (off none) 2) 1) 1 = some [Value.slice a l c]) ∧ C 59 [Value.slice a l c] h' fun (v : Value) (h' : Hp) => ∃ (a : Option Addr), ∃ (l : Nat), ∃ (c : Nat), v = Value.slice a l c ∧ K (Value.slice a l c) h') := by kernel_rfl

def shp37n : Nat → List (Tmp × TypeId) := fun i => []
theorem vc37n (C : FuncId → List Value → Hp → (Value → Hp → Prop) → Prop)  (h : Hp) (K : Value → Hp → Prop) : vBody Try.prog C pf shp37n Try.f37 (Try.f37.body.getD .skip) [.pointer none] h K = (
 ∀ (h' : Hp),
 h' = h.alloc [Value.int IntKind.i64 (Int.ofNat 0), Value.int IntKind.i64 (Int.ofNat 0), Value.int IntKind.i64 (Int.ofNat 0)] 65 →
 C 58 [Value.pointer none] h' fun (v : Value) (h' : Hp) =>
 ∃ (b : Bool),
 v = Value.bool b ∧
 if notB b = true then
 plainA (some (Addr.mk h.next 0 none)) = true ∧
 ∃ (h'_1 : Hp),
 h'.store h.next 0 [Value.int IntKind.i64 (Int.ofNat 0), Value.int IntKind.i64 (Int.ofNat 0), Value.int IntKind.i64 (Int.ofNat 0)] = some h'_1 ∧
 ∃ (n : Int), ∃ (n_1 : Int), ∃ (n_2 : Int), (plainA (some (Addr.mk h.next 0 none)) = true ∧ h'_1.cellsAt h.next 0 3 = some [Value.int IntKind.i64 n, Value.int IntKind.i64 n_1, Value.int IntKind.i64 n_2]) ∧ K (Value.agg (Array.mk [Value.int IntKind.i64 n, Value.int IntKind.i64 n_1, Value.int IntKind.i64 n_2])) h'_1
 else
 (none : Option Addr).isSome = true ∧
 plainA none = true ∧
 ∃ (n : Int),
 ∃ (n_1 : Int),
 ∃ (n_2 : Int),
 (plainA (some (Addr.mk (blk none) (plusN (off none) 10) none)) = true ∧ h'.cellsAt (blk none) (plusN (off none) 10) 3 = some [Value.int IntKind.i64 n, Value.int IntKind.i64 n_1, Value.int IntKind.i64 n_2]) ∧
 plainA (some (Addr.mk h.next 0 none)) = true ∧
 ∃ (h'_1 : Hp),
 h'.store h.next 0 [Value.int IntKind.i64 n, Value.int IntKind.i64 n_1, Value.int IntKind.i64 n_2] = some h'_1 ∧
 ∃ (n : Int), ∃ (n_3 : Int), ∃ (n_4 : Int), (plainA (some (Addr.mk h.next 0 none)) = true ∧ h'_1.cellsAt h.next 0 3 = some [Value.int IntKind.i64 n, Value.int IntKind.i64 n_3, Value.int IntKind.i64 n_4]) ∧ K (Value.agg (Array.mk [Value.int IntKind.i64 n, Value.int IntKind.i64 n_3, Value.int IntKind.i64 n_4])) h'_1) := by kernel_rfl

def shp31n : Nat → List (Tmp × TypeId) := fun i => []
theorem vc31n (C : FuncId → List Value → Hp → (Value → Hp → Prop) → Prop)  (h : Hp) (K : Value → Hp → Prop) : vBody Try.prog C pf shp31n Try.f31 (Try.f31.body.getD .skip) [.pointer none] h K = (
 C 58 [Value.pointer none] h fun (v : Value) (h' : Hp) =>
 ∃ (b : Bool),
 v = Value.bool b ∧
 if notB b = true then K (Value.pointer none) h'
 else
 (none : Option Addr).isSome = true ∧
 ∃ (n : Int),
 ∃ (a : Option Addr),
 ∃ (l : Nat),
 ∃ (c : Nat),
 ∃ (n_1 : Int),
 ∃ (a_1 : Option Addr),
 ∃ (l_1 : Nat),
 ∃ (c_1 : Nat),
 ∃ (n_2 : Int),
 ∃ (b : Bool),
 ∃ (a_2 : Option Addr),
 ∃ (l_2 : Nat),
 ∃ (c_2 : Nat),
 ∃ (a_3 : Option Addr),
 ∃ (l_3 : Nat),
 ∃ (c_3 : Nat),
 ∃ (n_3 : Int),
 ∃ (n_4 : Int),
 ∃ (n_5 : Int),
 ∃ (n_6 : Int),
 ∃ (n_7 : Int),
 (plainA none = true ∧
 h'.cellsAt (blk none) (off none) 13 =
 some [Value.int IntKind.i64 n, Value.slice a l c, Value.int IntKind.i64 n_1, Value.slice a_1 l_1 c_1, Value.int IntKind.i64 n_2, Value.bool b, Value.slice a_2 l_2 c_2, Value.slice a_3 l_3 c_3, Value.int IntKind.i64 n_3, Value.int IntKind.i64 n_4, Value.int IntKind.i64 n_5, Value.int IntKind.i64 n_6, Value.int IntKind.i64 n_7]) ∧
 ∀ (h'_1 : Hp),
 h'_1 =
 h'.alloc
 [Value.int IntKind.i64 (Int.ofNat 0), Value.slice none 0 0, Value.int IntKind.i64 (Int.ofNat 0), Value.slice none 0 0, Value.int IntKind.i64 (Int.ofNat 0), Value.bool false, Value.slice none 0 0, Value.slice none 0 0, Value.int IntKind.i64 (Int.ofNat 0), Value.int IntKind.i64 (Int.ofNat 0), Value.int IntKind.i64 (Int.ofNat 0),
 Value.int IntKind.i64 (Int.ofNat 0), Value.int IntKind.i64 (Int.ofNat 0)]
 101 →
 plainA (some (Addr.mk h'.next 0 none)) = true ∧
 ∃ (h'_2 : Hp),
 h'_1.store h'.next 0
 [Value.int IntKind.i64 n, Value.slice a l c, Value.int IntKind.i64 n_1, Value.slice a_1 l_1 c_1, Value.int IntKind.i64 n_2, Value.bool b, Value.slice a_2 l_2 c_2, Value.slice a_3 l_3 c_3, Value.int IntKind.i64 n_3, Value.int IntKind.i64 n_4, Value.int IntKind.i64 n_5, Value.int IntKind.i64 n_6, Value.int IntKind.i64 n_7] =
 some h'_2 ∧
 (none : Option Addr).isSome = true ∧
 plainA none = true ∧
 plainA (some (Addr.mk (blk none) (off none) none)) = true ∧
 ∃ (a : Option Addr),
 ∃ (l : Nat),
 ∃ (c : Nat),
 (plainA (some (Addr.mk (blk none) (plusN (off none) 1) none)) = true ∧ h'_2.cellsAt (blk none) (plusN (off none) 1) 1 = some [Value.slice a l c]) ∧
 C 59 [Value.slice a l c] h'_2 fun (v : Value) (h'_3 : Hp) =>
 ∃ (a : Option Addr),
 ∃ (l : Nat),
 ∃ (c : Nat),
 v = Value.slice a l c ∧
 plainA (some (Addr.mk h'.next 0 none)) = true ∧
 plainA (some (Addr.mk h'.next 0 none)) = true ∧
 plainA (some (Addr.mk h'.next 1 none)) = true ∧
 ∃ (h'_4 : Hp),
 h'_3.store h'.next 1 [Value.slice a l c] = some h'_4 ∧
 (none : Option Addr).isSome = true ∧
 plainA none = true ∧
 plainA (some (Addr.mk (blk none) (plusN (off none) 2) none)) = true ∧
 ∃ (a : Option Addr),
 ∃ (l : Nat),
 ∃ (c : Nat),
 (plainA (some (Addr.mk (blk none) (plusN (plusN (off none) 2) 1) none)) = true ∧ h'_4.cellsAt (blk none) (plusN (plusN (off none) 2) 1) 1 = some [Value.slice a l c]) ∧
 C 59 [Value.slice a l c] h'_4 fun (v : Value) (h'_5 : Hp) =>
 ∃ (a : Option Addr),
 ∃ (l : Nat),
 ∃ (c : Nat),
 v = Value.slice a l c ∧
 plainA (some (Addr.mk h'.next 0 none)) = true ∧
 plainA (some (Addr.mk h'.next 2 none)) = true ∧
 plainA (some (Addr.mk h'.next 3 none)) = true ∧
 ∃ (h'_6 : Hp),
 h'_5.store h'.next 3 [Value.slice a l c] = some h'_6 ∧
 (none : Option Addr).isSome = true ∧
 plainA none = true ∧
 ∃ (a : Option Addr),
 ∃ (l : Nat),
 ∃ (c : Nat),
 (plainA (some (Addr.mk (blk none) (plusN (off none) 6) none)) = true ∧ h'_6.cellsAt (blk none) (plusN (off none) 6) 1 = some [Value.slice a l c]) ∧
 C 60 [Value.slice a l c] h'_6 fun (v : Value) (h'_7 : Hp) =>
 ∃ (a : Option Addr),
 ∃ (l : Nat),
 ∃ (c : Nat),
 v = Value.slice a l c ∧
 plainA (some (Addr.mk h'.next 0 none)) = true ∧
 plainA (some (Addr.mk h'.next 6 none)) = true ∧
 ∃ (h'_8 : Hp),
 h'_7.store h'.next 6 [Value.slice a l c] = some h'_8 ∧
 (none : Option Addr).isSome = true ∧
 plainA none = true ∧
 ∃ (a : Option Addr),
 ∃ (l : Nat),
 ∃ (c : Nat),
 (plainA (some (Addr.mk (blk none) (plusN (off none) 7) none)) = true ∧ h'_8.cellsAt (blk none) (plusN (off none) 7) 1 = some [Value.slice a l c]) ∧
 C 61 [Value.slice a l c] h'_8 fun (v : Value) (h'_9 : Hp) =>
 ∃ (a : Option Addr),
 ∃ (l : Nat),
 ∃ (c : Nat),
 v = Value.slice a l c ∧
 plainA (some (Addr.mk h'.next 0 none)) = true ∧
 plainA (some (Addr.mk h'.next 7 none)) = true ∧ ∃ (h'_10 : Hp), h'_9.store h'.next 7 [Value.slice a l c] = some h'_10 ∧ K (Value.pointer (some (Addr.mk h'.next 0 none))) h'_10) := by kernel_rfl
end Go.Proofs.Ytfkhjbfddeahaaa.vc

/- Reasoning over canonical heaps: single cells of a block; slices that own their memory, with room behind them. -/
set_option linter.unusedVariables false
set_option linter.unusedSimpArgs false
namespace Go.Cn

/-! ### 1. One cell of a block -/
theorem take_one {α : Type} {CS : List α} {o : Nat} {v : α} (h : CS[o]? = some v) : (CS.drop o).take 1 = [v] := by
  obtain ⟨ho, hv⟩ := List.getElem?_eq_some_iff.mp h
  rw [List.drop_eq_getElem_cons ho, hv]; rfl

theorem Blk.one {h : Hp} {b : Nat} {g : Option Nat} {CS : List Value} (hb : Blk h b g CS) {o : Nat} {v : Value} (hv : CS[o]? = some v) : h.cellsAt b o 1 = some [v] := by
  have ho := (List.getElem?_eq_some_iff.mp hv).1
  rw [hb.cells (by omega), take_one hv]

theorem splice_one {CS : List Value} {o : Nat} (ho : o < CS.length) (v : Value) : splice CS o [v] = CS.set o v := by
  rw [List.set_eq_take_append_cons_drop, if_pos ho]
  simp [splice]

theorem Blk.set {h : Hp} {b g : Nat} {CS : List Value} (hb : Blk h b (some g) CS) {o : Nat} (ho : o < CS.length) {v : Value} (hv : isCell v = true) :
    ∃ h', h.store b o [v] = some h' ∧ Blk h' b (some g) (CS.set o v) ∧ Keep (· = g) h h' ∧ h'.next = h.next ∧ (Wf h → Wf h') := by
  obtain ⟨h', h1, h2, h3, h4, h5⟩ := hb.store (o := o) (vs := [v]) (by simp; omega) (by simp [hv])
  rw [splice_one ho] at h2
  exact ⟨h', h1, h2, h3, h4, h5⟩

theorem splice_take {CS vs : List Value} {i n : Nat} (hi : i + vs.length ≤ n) (hn : n ≤ CS.length) : splice (CS.take n) i vs = (splice CS i vs).take n := by
  apply List.ext_getElem?
  intro j
  rw [splice_get (by rw [List.length_take]; omega), List.getElem?_take, List.getElem?_take, splice_get (by omega)]
  split <;> split <;> first | rfl | omega | skip

/-! ### 2. Slices that own their memory -/
/-- Two groups are not the same one. -/
def Ap (x y : Option Nat) : Prop := ∀ g, x = some g → y ≠ some g
theorem Ap.symm {x y : Option Nat} (h : Ap x y) : Ap y x := fun g hy hx => h g hx hy
theorem Ap.nl (x : Option Nat) : Ap none x := fun g h => by simp at h
theorem Ap.nr (x : Option Nat) : Ap x none := fun g h => by simp

/-- A slice that owns its memory: empty, or a block of group g of c elements, of which the first l are its own. -/
def Ow (h : Hp) (w : Nat) (g : Option Nat) (a : Option Addr) (l c : Nat) (cs : List Value) : Prop :=
  (g = none ∧ l = 0 ∧ c = 0 ∧ cs = [] ∧ (a = none ∨ ∃ b o, a = some ⟨b, o, none⟩)) ∨
  ∃ b sp g' CS, g = some g' ∧ a = some ⟨b, 0, sp⟩ ∧ (sp = none ∨ sp = some w) ∧ l ≤ c ∧ 0 < c ∧ Blk h b (some g') CS ∧ CS.length = c * w ∧ cs = CS.take (l * w)

theorem Ow.nil (h : Hp) (w : Nat) : Ow h w none none 0 0 [] := .inl ⟨rfl, rfl, rfl, rfl, .inl rfl⟩

section
variable {h : Hp} {w : Nat} {g : Option Nat} {a : Option Addr} {l c : Nat} {cs : List Value}

theorem Ow.sl (s : Ow h w g a l c cs) : Sl h w g a l c cs := by
  rcases s with ⟨rfl, rfl, rfl, rfl, ha⟩ | ⟨b, sp, g', CS, rfl, rfl, hsp, hl, hc, hb, hlen, rfl⟩
  · refine ⟨Nat.le_refl _, by simp, ?_⟩
    rcases ha with rfl | ⟨b, o, rfl⟩
    · exact ⟨rfl, rfl⟩
    · exact ⟨.inl rfl, fun h0 => by omega⟩
  · have : l * w ≤ c * w := Nat.mul_le_mul_right w hl
    exact ⟨hl, by rw [List.length_take]; omega, hsp, fun _ => ⟨CS, hb, by omega, by rw [List.drop_zero]⟩⟩

theorem Ow.keep {S : Nat → Prop} {h' : Hp} (k : Keep S h h') (s : Ow h w g a l c cs) (hn : ∀ x, g = some x → ¬ S x) : Ow h' w g a l c cs := by
  rcases s with h1 | ⟨b, sp, g', CS, rfl, rfl, hsp, hl, hc, hb, hlen, rfl⟩
  · exact .inl h1
  · exact .inr ⟨b, sp, g', CS, rfl, rfl, hsp, hl, hc, k.blk hb fun x hx => by simp at hx; subst hx; exact hn _ rfl, hlen, rfl⟩

theorem Ow.glt (wf : Wf h) (s : Ow h w g a l c cs) : ∀ x, g = some x → x < h.next := by
  rcases s with ⟨rfl, _⟩ | ⟨b, sp, g', CS, rfl, rfl, hsp, hl, hc, hb, hlen, rfl⟩
  · simp
  · intro x hx; simp at hx; subst hx; exact hb.glt wf

/-- What stays of a slice that is cut behind its k-th element. -/
theorem Ow.cut (s : Ow h w g a l c cs) {k : Nat} (hk : k ≤ l) : Ow h w g a k c (cs.take (k * w)) := by
  rcases s with ⟨rfl, rfl, rfl, rfl, ha⟩ | ⟨b, sp, g', CS, rfl, rfl, hsp, hl, hc, hb, hlen, rfl⟩
  · have : k = 0 := by omega
    subst this
    exact .inl ⟨rfl, rfl, rfl, by simp, ha⟩
  · have : k * w ≤ l * w := Nat.mul_le_mul_right w hk
    exact .inr ⟨b, sp, g', CS, rfl, rfl, hsp, by omega, hc, hb, hlen, by rw [List.take_take, Nat.min_eq_left this]⟩

/-- Cells of an element are written. -/
theorem Ow.store (s : Ow h w g a l c cs) {i : Nat} {vs : List Value} (hi : i + vs.length ≤ l * w) (hl0 : 0 < l) (hv : vs.all isCell = true) :
    a.isSome = true ∧ ∃ h', h.store (blk a) (off a + i) vs = some h' ∧ Ow h' w g a l c (splice cs i vs) ∧ Keep (fun x => g = some x) h h' ∧ h'.next = h.next ∧ (Wf h → Wf h') := by
  rcases s with ⟨rfl, rfl, rfl, rfl, ha⟩ | ⟨b, sp, g', CS, rfl, rfl, hsp, hl, hc, hb, hlen, rfl⟩
  · omega
  · have hlw : l * w ≤ c * w := Nat.mul_le_mul_right w hl
    obtain ⟨h', h1, h2, h3, h4, h5⟩ := hb.store (o := i) (vs := vs) (by omega) hv
    have e0 : off (some ⟨b, 0, sp⟩) + i = i := by simp [off]
    refine ⟨rfl, h', by rw [e0]; exact h1, .inr ⟨b, sp, g', _, rfl, rfl, hsp, hl, hc, h2, ?_, ?_⟩, ⟨h3.next, h3.ro, fun b c t g hb hn => h3.rw b c t g hb fun he => hn (by rw [he])⟩, h4, h5⟩
    · rw [splice_length (by omega)]; exact hlen
    · exact splice_take hi (by omega)
end

section
variable {P : Program}
/-- append to a slice that owns its memory. -/
theorem Ow.append {h : Hp} (wf : Wf h) {t xt elem : TypeId} {w bytes : Nat} (ht : AppT P t xt elem w bytes) {g : Option Nat} {a : Option Addr} {l c : Nat} {cs : List Value} (s : Ow h w g a l c cs)
    {x : Value} {n : Nat} {new : List Value} (hx : dataOf w x h = some (n, new)) (hnl : new.length = n * w) (hv : new.all isCell = true) (hr : roomy (l + n) bytes = true) :
    ∃ a' c' g' h', cappend P t xt (.slice a l c) x h = some (.slice a' (l + n) c', h') ∧ Ow h' w g' a' (l + n) c' (cs ++ new) ∧ (g' = g ∨ ∃ y, g' = some y ∧ h.next ≤ y) ∧ Keep (fun x => g = some x) h h' ∧ Wf h' := by
  obtain ⟨i, z, e1, e2, e3, e4, e5⟩ := ht.info
  obtain ⟨u, e6, e7⟩ := ht.other
  have hp := ht.pos
  have hb := ht.bpos
  have hlc : l ≤ c := by rcases s with ⟨_, h1, h2, _⟩ | ⟨_, _, _, _, _, _, _, h1, _⟩ <;> omega
  have main : cappend P t xt (.slice a l c) x h = if n = 0 then some (.slice a l c, h) else
      (match (Value.slice a l c) with
        | .slice none 0 0 => some (.slice (some ⟨h.next, 0, some w⟩) n n, h.alloc new elem)
        | .slice (some ⟨b, o, sp⟩) l c =>
          if l + n ≤ c then (h.store b (o + l * w) new).map fun h' => (.slice (some ⟨b, o, sp⟩) (l + n) c, h')
          else match sp with
            | none => if l = 0 then some (.slice (some ⟨h.next, 0, some w⟩) n n, h.alloc new elem) else
              (h.cellsAt b o (l * w)).map fun old => (.slice (some ⟨h.next, 0, some w⟩) (l + n) (l + n), h.alloc (old ++ new) elem)
            | some k => if k = w then (h.extend b o (o + l * w) new).map fun h' => (.slice (some ⟨h.next, 0, some w⟩) (l + n) (l + n), h') else none
        | _ => none) := by
    unfold cappend
    rw [ht.under]
    dsimp only
    rw [e1, e6]
    have hb1 : ¬ (w = 0) := by omega
    have hb2 : ¬ (bytes = 0) := by omega
    cases u with
    | int k => exact absurd rfl (e7 k)
    | _ =>
      dsimp only
      rw [e2, hx]
      by_cases hn : n = 0
      · simp [hn, hlc]
      · simp only [hn, if_false, slen, e3, e4, e5, Option.map_some, decide_true, Bool.not_true, hr, Bool.false_or, Bool.or_false, hb1, hb2, decide_false, Bool.false_eq_true]
        cases a <;> rfl
  rw [main]
  by_cases hn : n = 0
  · subst hn
    have : new = [] := by simpa using hnl
    subst this
    simp only [if_true, Nat.add_zero, List.append_nil]
    exact ⟨a, c, g, h, rfl, s, .inl rfl, Keep.refl _ _, wf⟩
  · simp only [hn, if_false]
    have fresh : ∀ (cs' : List Value) (k : Nat), cs'.length = k * w → 0 < k → Ow (h.alloc cs' elem) w (some h.next) (some ⟨h.next, 0, some w⟩) k k cs' ∧ Keep (fun x => g = some x) h (h.alloc cs' elem) ∧ Wf (h.alloc cs' elem) := by
      intro cs' k hk h0
      exact ⟨.inr ⟨h.next, some w, h.next, cs', rfl, rfl, .inr rfl, Nat.le_refl _, h0, alloc_blk wf cs' elem, hk, by rw [← hk, List.take_length]⟩, (alloc_keep wf cs' elem).mono wf fun _ _ hf => hf.elim, alloc_wf wf cs' elem⟩
    rcases s with ⟨rfl, rfl, rfl, rfl, ha⟩ | ⟨b, sp, g', CS, rfl, rfl, hsp, hl, hc, hblk, hlen, rfl⟩
    · obtain ⟨f1, f2, f3⟩ := fresh new n hnl (by omega)
      rcases ha with rfl | ⟨b, o, rfl⟩
      · simp only [Nat.zero_add, List.nil_append]
        exact ⟨_, _, _, _, rfl, f1, .inr ⟨_, rfl, Nat.le_refl _⟩, f2, f3⟩
      · simp only [Nat.zero_add, List.nil_append]
        rw [if_neg (by omega)]
        simp only [if_true]
        exact ⟨_, _, _, _, rfl, f1, .inr ⟨_, rfl, Nat.le_refl _⟩, f2, f3⟩
    · have hlw : l * w ≤ c * w := Nat.mul_le_mul_right w hl
      have htl : (CS.take (l * w)).length = l * w := by rw [List.length_take]; omega
      simp only [Nat.zero_add]
      by_cases hroom : l + n ≤ c
      · rw [if_pos hroom]
        have hlnw : (l + n) * w ≤ c * w := Nat.mul_le_mul_right w hroom
        have hadd : (l + n) * w = l * w + n * w := Nat.add_mul _ _ _
        obtain ⟨h', h1, h2, h3, h4, h5⟩ := hblk.store (o := l * w) (vs := new) (by omega) hv
        rw [h1]
        refine ⟨_, _, _, _, rfl, .inr ⟨b, sp, g', _, rfl, rfl, hsp, hroom, hc, h2, by rw [splice_length (by omega)]; exact hlen, ?_⟩, .inl rfl, ⟨h3.next, h3.ro, fun b c t g hb hn => h3.rw b c t g hb fun he => hn (by rw [he])⟩, h5 wf⟩
        have e : (CS.take (l * w) ++ new).length = (l + n) * w := by rw [List.length_append, htl, hnl, hadd]
        rw [← e]
        exact List.take_left.symm
      · rw [if_neg hroom]
        rcases hsp with rfl | rfl
        · simp only
          by_cases hl0 : l = 0
          · subst hl0
            obtain ⟨f1, f2, f3⟩ := fresh new n hnl (by omega)
            simp only [if_true, Nat.zero_add, Nat.zero_mul, List.take_zero, List.nil_append]
            exact ⟨_, _, _, _, rfl, f1, .inr ⟨_, rfl, Nat.le_refl _⟩, f2, f3⟩
          · rw [if_neg hl0, hblk.cells (by omega)]
            obtain ⟨f1, f2, f3⟩ := fresh (CS.take (l * w) ++ new) (l + n) (by rw [List.length_append, htl, Nat.add_mul]; omega) (by omega)
            simp only [List.drop_zero, Option.map_some]
            exact ⟨_, _, _, _, rfl, f1, .inr ⟨_, rfl, Nat.le_refl _⟩, f2, f3⟩
        · simp only [if_true]
          obtain ⟨h', g1, g2, g3, g4, g5, g6⟩ := hblk.extend wf (o := 0) (e := l * w) (new := new) (by omega) (by omega) hv
          rw [g1]
          rw [List.drop_zero, Nat.sub_zero] at g2
          refine ⟨_, _, _, _, rfl, .inr ⟨h.next, some w, g', _, rfl, rfl, .inr rfl, Nat.le_refl _, by omega, g2, by rw [List.length_append, htl, Nat.add_mul]; omega, ?_⟩, .inl rfl, ⟨g4.next, g4.ro, fun b c t g hb hn => g4.rw b c t g hb fun he => hn (by rw [he])⟩, g6⟩
          exact (List.take_of_length_le (by rw [List.length_append, htl, Nat.add_mul]; omega)).symm

/-- append of one element, which lies in a new block. -/
theorem Ow.append1 {h h1 : Hp} (wf : Wf h) {t xt elem e : TypeId} {w bytes : Nat} (ht : AppT P t xt elem w bytes) {g : Option Nat} {a : Option Addr} {l c : Nat} {cs : List Value} (s : Ow h w g a l c cs)
    {new : List Value} (he : h1 = h.alloc new e) (hnl : new.length = w) (hv : new.all isCell = true) (hr : roomy (l + 1) bytes = true) :
    ∃ a' c' g' h', cappend P t xt (.slice a l c) (.slice (some ⟨h.next, 0, none⟩) 1 1) h1 = some (.slice a' (l + 1) c', h') ∧ Ow h' w g' a' (l + 1) c' (cs ++ new) ∧ (g' = g ∨ ∃ y, g' = some y ∧ h.next ≤ y) ∧ Keep (fun x => g = some x) h h' ∧ Wf h' := by
  subst he
  have k := alloc_keep wf new e
  have wf' := alloc_wf wf new e
  have hb := alloc_blk wf new e
  have hd : dataOf w (.slice (some ⟨h.next, 0, none⟩) 1 1) (h.alloc new e) = some (1, new) := by
    simp only [dataOf, Nat.one_mul]
    rw [hb.cells (by omega)]
    simp [← hnl]
  obtain ⟨a', c', g', h', h1, h2, h3, h4, h5⟩ := Ow.append wf' ht (s.keep k fun _ _ hf => hf) hd (by omega) hv hr
  refine ⟨a', c', g', h', h1, h2, ?_, (k.mono wf (S' := fun x => g = some x) fun _ _ hf => hf.elim).trans wf h4 (fun _ _ hg => hg), h5⟩
  rcases h3 with h3 | ⟨y, h3, h6⟩
  · exact .inl h3
  · exact .inr ⟨y, h3, by rw [alloc_next] at h6; omega⟩
end

/-! ### 3. Tests -/
theorem ltI_iff {a b : Int} : ltI a b = true ↔ a < b := by simp only [ltI, decide_eq_true_eq]
theorem leI_iff {a b : Int} : leI a b = true ↔ a ≤ b := by simp only [leI, decide_eq_true_eq]
theorem gtI_iff {a b : Int} : gtI a b = true ↔ a > b := by simp only [gtI, decide_eq_true_eq]
theorem geI_iff {a b : Int} : geI a b = true ↔ a ≥ b := by simp only [geI, decide_eq_true_eq]
theorem eqI_iff {a b : Int} : eqI a b = true ↔ a = b := by simp only [eqI, beq_iff_eq]
theorem neI_iff {a b : Int} : neI a b = true ↔ a ≠ b := by simp only [neI, bne_iff_ne]
theorem notB_iff {b : Bool} : notB b = true ↔ b = false := by cases b <;> simp [notB]
theorem andB_iff {a b : Bool} : andB a b = true ↔ a = true ∧ b = true := by cases a <;> cases b <;> simp [andB]
theorem or_iff {a b : Bool} : sel a true b = true ↔ a = true ∨ b = true := by cases a <;> cases b <;> simp [sel]
theorem and_iff {a b : Bool} : sel a b false = true ↔ a = true ∧ b = true := by cases a <;> cases b <;> simp [sel]
theorem natI_eq (n : Nat) : natI n = (n : Int) := rfl

/-! ### 4. New slices -/
section
variable {P : Program}
theorem make_slice {h : Hp} (wf : Wf h) {t elem : TypeId} {w bytes : Nat} (ht : AppT P t t elem w bytes) {z : Value} (hz : zero? P elem = some z) (hp : plainV 100 z = true) {n : Int} {m : Nat} (hn : n = m) (hm : bytes * m ≤ 140737488355328) :
    ∃ h', cmakeSlice P t (.int .i64 n) (.int .i64 n) h = some (.slice (some ⟨h.next, 0, none⟩) m m, h') ∧ h' = h.alloc (zeroCells z.cells.toList m) elem := by
  obtain ⟨i, z', e1, e2, e3, e4, e5⟩ := ht.info
  have hpos := ht.pos
  have hbp := ht.bpos
  have ez : z' = z := by simp [zero?, e1, e4] at hz; exact hz
  subst ez
  subst hn
  refine ⟨_, ?_, rfl⟩
  unfold cmakeSlice
  rw [ht.under]
  dsimp only
  rw [e1]
  dsimp only
  rw [e4]
  dsimp only
  have h1 : (0 : Int) ≤ (m : Int) ∧ (m : Int) ≤ (m : Int) ∧ (i.bytes : Int) * (m : Int) ≤ 2 ^ 47 ∧ (m : Int) ≤ IntKind.i64.max := by
    have h2 : ((i.bytes * m : Nat) : Int) ≤ 140737488355328 := by rw [e3]; exact Int.ofNat_le.mpr hm
    have h3 : m ≤ bytes * m := Nat.le_mul_of_pos_left m hbp
    have h4 : IntKind.i64.max = 9223372036854775807 := rfl
    refine ⟨by omega, Int.le_refl _, by push_cast at h2; exact h2, by rw [h4]; omega⟩
  rw [if_pos h1]
  have h5 : (decide (z'.cells.size = i.size) && !decide (i.size = 0) && plainV 100 z') = true := by
    rw [hp, e5, e2]
    have : ¬ w = 0 := by omega
    simp only [this, decide_true, decide_false, Bool.not_false, Bool.and_self]
  show (if (decide (z'.cells.size = i.size) && !decide (i.size = 0) && plainV 100 z') = true then _ else _) = _
  rw [if_pos h5]
  rfl
end
end Go.Cn

/- The disk's memory, told by a plain record; small contracts. -/
set_option linter.unusedVariables false
namespace Go.Proofs.Ytfkhjbfddeahaaa.kc
open Go Go.Cn Go.Proofs Go.Proofs.Ytfkhjbfddeahaaa.vc

theorem fol : Try.prog.follows .mixedOrders = true := by kernel_rfl
abbrev C := SCalls Try.prog

def encS (s : ByteArray) : List Value := [.string s]
def encF (n : Int) : List Value := [.int .u8 n]
theorem encS_w (x : ByteArray) : (encS x).length = 1 := rfl
theorem encF_w (x : Int) : (encF x).length = 1 := rfl

/-- What waits. -/
structure Wt where
  act : Int
  page : Int
  pages : Int
  data : ByteArray
def Wt.enc (x : Wt) : List Value := [.int .u8 x.act, .int .u32 x.page, .int .i64 x.pages, .string x.data]
theorem Wt.w (x : Wt) : x.enc.length = 4 := rfl

/-- An arm, and how many acts are left till it is due. -/
structure Ar where
  on : Int
  nth : Int
  pw : Bool
  fa : Option Addr
  fl : Nat
  fc : Nat
  left : Int
  fates : List Int
def Ar.enc (x : Ar) : List Value := [.int .u8 x.on, .int .i64 x.nth, .bool x.pw, .slice x.fa x.fl x.fc, .int .i64 x.left]
theorem Ar.w (x : Ar) : x.enc.length = 5 := rfl

structure Sv where
  a : Option Addr
  l : Nat
  c : Nat
abbrev Sv.v (s : Sv) : Value := .slice s.a s.l s.c

def OwT {α : Type} (enc : α → List Value) (w : Nat) (h : Hp) (g : Option Nat) (s : Sv) (L : List α) : Prop := Ow h w g s.a s.l s.c (L.flatMap enc) ∧ L.length = s.l

section
variable {α : Type} {enc : α → List Value} {w : Nat} {h : Hp} {g : Option Nat} {s : Sv} {L : List α}
theorem OwT.slT (o : OwT enc w h g s L) : SlT enc w h g s.a s.l s.c L := ⟨o.1.sl, o.2⟩
theorem OwT.keep {S : Nat → Prop} {h' : Hp} (k : Keep S h h') (o : OwT enc w h g s L) (hn : ∀ x, g = some x → ¬ S x) : OwT enc w h' g s L := ⟨o.1.keep k hn, o.2⟩
theorem OwT.nil : OwT enc w h none ⟨none, 0, 0⟩ ([] : List α) := ⟨Ow.nil h w, rfl⟩
end

/-- A disk, plainly. -/
structure Dk where
  bytes : Int
  seen : List ByteArray
  dur : List ByteArray
  most : Int
  off : Bool
  waits : List Wt
  arms : List Ar
  life : Int
  taken : Int
  wr : Int
  gr : Int
  sy : Int

def dcells (D : Dk) (s dd w a : Sv) : List Value :=
  [.int .i64 D.bytes, s.v, .int .i64 D.bytes, dd.v, .int .i64 D.most, .bool D.off, w.v, a.v, .int .i64 D.life, .int .i64 D.taken, .int .i64 D.wr, .int .i64 D.gr, .int .i64 D.sy]

structure DX (h : Hp) (d g0 : Nat) (gs gd gw ga : Option Nat) (R : Nat → Prop) (D : Dk) (s dd w a : Sv) : Prop where
  blk : Blk h d (some g0) (dcells D s dd w a)
  seen : OwT encS 1 h gs s D.seen
  dur : OwT encS 1 h gd dd D.dur
  waits : OwT Wt.enc 4 h gw w D.waits
  arms : OwT Ar.enc 5 h ga a D.arms
  fates : ∀ x ∈ D.arms, ∃ G, (∀ y, G = some y → R y) ∧ SlT encF 1 h G x.fa x.fl x.fc x.fates
  a1 : Ap (some g0) gs
  a2 : Ap (some g0) gd
  a3 : Ap (some g0) gw
  a4 : Ap (some g0) ga
  a5 : Ap gs gd
  a6 : Ap gs gw
  a7 : Ap gs ga
  a8 : Ap gd gw
  a9 : Ap gd ga
  a10 : Ap gw ga
  ro : ∀ y, R y → y ≠ g0 ∧ gs ≠ some y ∧ gd ≠ some y ∧ gw ≠ some y ∧ ga ≠ some y
  rlt : ∀ y, R y → y < h.next

def own (g0 : Nat) (gs gd gw ga : Option Nat) (y : Nat) : Prop := y = g0 ∨ gs = some y ∨ gd = some y ∨ gw = some y ∨ ga = some y

/-- A new group, or the old one. -/
def Nw (h : Hp) (g' g : Option Nat) : Prop := g' = g ∨ g' = none ∨ ∃ y, g' = some y ∧ h.next ≤ y
theorem Nw.same {h : Hp} {g : Option Nat} : Nw h g g := .inl _root_.rfl
theorem Nw.of {h : Hp} {g' g : Option Nat} (n : g' = g ∨ ∃ y, g' = some y ∧ h.next ≤ y) : Nw h g' g := by rcases n with n | n; exact .inl n; exact .inr (.inr n)
theorem Nw.ap {h : Hp} {g' g x : Option Nat} (n : Nw h g' g) (hx : ∀ y, x = some y → y < h.next) (ha : Ap x g) : Ap x g' := by
  rcases n with rfl | rfl | ⟨y, rfl, hy⟩
  · exact ha
  · exact Ap.nr x
  · intro z hz he; have := hx z hz; simp at he; omega

section
variable {h : Hp} {d g0 : Nat} {gs gd gw ga : Option Nat} {R : Nat → Prop} {D : Dk} {s dd w a : Sv}

theorem DX.lts (wf : Wf h) (x : DX h d g0 gs gd gw ga R D s dd w a) : g0 < h.next ∧ (∀ y, gs = some y → y < h.next) ∧ (∀ y, gd = some y → y < h.next) ∧ (∀ y, gw = some y → y < h.next) ∧ (∀ y, ga = some y → y < h.next) :=
  ⟨x.blk.glt wf, x.seen.1.glt wf, x.dur.1.glt wf, x.waits.1.glt wf, x.arms.1.glt wf⟩

theorem DX.keep {S : Nat → Prop} {h' : Hp} (k : Keep S h h') (x : DX h d g0 gs gd gw ga R D s dd w a) (hn : ∀ y, own g0 gs gd gw ga y ∨ R y → ¬ S y) : DX h' d g0 gs gd gw ga R D s dd w a := by
  refine ⟨k.blk x.blk fun y hy => hn y (.inl (.inl (by simpa using hy.symm))), x.seen.keep k fun y hy => hn y (.inl (.inr (.inl hy))), x.dur.keep k fun y hy => hn y (.inl (.inr (.inr (.inl hy)))), x.waits.keep k fun y hy => hn y (.inl (.inr (.inr (.inr (.inl hy))))),
    x.arms.keep k fun y hy => hn y (.inl (.inr (.inr (.inr (.inr hy))))), fun z hz => ?_, x.a1, x.a2, x.a3, x.a4, x.a5, x.a6, x.a7, x.a8, x.a9, x.a10, x.ro, fun y hy => Nat.lt_of_lt_of_le (x.rlt y hy) k.next⟩
  obtain ⟨G, hG, sG⟩ := x.fates z hz
  exact ⟨G, hG, sG.keep k fun y hy => hn y (.inr (hG y hy))⟩

theorem DX.kept {h' : Hp} (k : Kept h h') (x : DX h d g0 gs gd gw ga R D s dd w a) : DX h' d g0 gs gd gw ga R D s dd w a := x.keep k fun _ _ hf => hf

/-- The record alone was written. -/
theorem DX.base (x : DX h d g0 gs gd gw ga R D s dd w a) {h' : Hp} (k : Keep (· = g0) h h') {D' : Dk} (hb : Blk h' d (some g0) (dcells D' s dd w a)) (e1 : D'.seen = D.seen) (e2 : D'.dur = D.dur) (e3 : D'.waits = D.waits) (e4 : D'.arms = D.arms) :
    DX h' d g0 gs gd gw ga R D' s dd w a := by
  have n : ∀ {g : Option Nat}, Ap (some g0) g → ∀ y, g = some y → ¬ (y = g0) := fun ha y hy he => ha g0 rfl (by rw [hy, he])
  refine ⟨hb, by rw [e1]; exact x.seen.keep k (n x.a1), by rw [e2]; exact x.dur.keep k (n x.a2), by rw [e3]; exact x.waits.keep k (n x.a3), by rw [e4]; exact x.arms.keep k (n x.a4), fun z hz => ?_, x.a1, x.a2, x.a3, x.a4, x.a5, x.a6, x.a7, x.a8, x.a9, x.a10, x.ro, fun y hy => Nat.lt_of_lt_of_le (x.rlt y hy) k.next⟩
  rw [e4] at hz
  obtain ⟨G, hG, sG⟩ := x.fates z hz
  exact ⟨G, hG, sG.keep k fun y hy he => (x.ro y (hG y hy)).1 he⟩

/-- What is seen was changed, then the record. -/
theorem DX.setSeen (wf : Wf h) (x : DX h d g0 gs gd gw ga R D s dd w a) {h1 h2 : Hp} {gs' : Option Nat} {s' : Sv} {L : List ByteArray} (k1 : Keep (fun y => gs = some y) h h1) (o : OwT encS 1 h1 gs' s' L) (n : Nw h gs' gs) (k2 : Keep (· = g0) h1 h2)
    (hb : Blk h2 d (some g0) (dcells { D with seen := L } s' dd w a)) : DX h2 d g0 gs' gd gw ga R { D with seen := L } s' dd w a := by
  obtain ⟨l0, l1, l2, l3, l4⟩ := x.lts wf
  have m0 : ∀ {g : Option Nat}, Ap (some g0) g → ∀ y, g = some y → ¬ (y = g0) := fun ha y hy he => ha g0 rfl (by rw [hy, he])
  have m1 : ∀ {g : Option Nat}, Ap gs g → ∀ y, g = some y → ¬ (gs = some y) := fun ha y hy he => ha y he hy
  have c1 := n.ap (x := some g0) (by simpa using l0) x.a1
  refine ⟨hb, o.keep k2 (m0 c1), (x.dur.keep k1 (m1 x.a5)).keep k2 (m0 x.a2), (x.waits.keep k1 (m1 x.a6)).keep k2 (m0 x.a3), (x.arms.keep k1 (m1 x.a7)).keep k2 (m0 x.a4), fun z hz => ?_,
    c1, x.a2, x.a3, x.a4, (n.ap l2 x.a5.symm).symm, (n.ap l3 x.a6.symm).symm, (n.ap l4 x.a7.symm).symm, x.a8, x.a9, x.a10, fun y hy => ?_, fun y hy => Nat.lt_of_lt_of_le (x.rlt y hy) (Nat.le_trans k1.next k2.next)⟩
  · obtain ⟨G, hG, sG⟩ := x.fates z hz
    exact ⟨G, hG, (sG.keep k1 fun y hy he => (x.ro y (hG y hy)).2.1 he).keep k2 fun y hy he => (x.ro y (hG y hy)).1 he⟩
  · obtain ⟨r0, r1, r2, r3, r4⟩ := x.ro y hy
    refine ⟨r0, ?_, r2, r3, r4⟩
    rcases n with rfl | rfl | ⟨z, rfl, hz⟩
    · exact r1
    · simp
    · have := x.rlt y hy; simp; omega

theorem DX.setDur (wf : Wf h) (x : DX h d g0 gs gd gw ga R D s dd w a) {h1 h2 : Hp} {gd' : Option Nat} {dd' : Sv} {L : List ByteArray} (k1 : Keep (fun y => gd = some y) h h1) (o : OwT encS 1 h1 gd' dd' L) (n : Nw h gd' gd) (k2 : Keep (· = g0) h1 h2)
    (hb : Blk h2 d (some g0) (dcells { D with dur := L } s dd' w a)) : DX h2 d g0 gs gd' gw ga R { D with dur := L } s dd' w a := by
  obtain ⟨l0, l1, l2, l3, l4⟩ := x.lts wf
  have m0 : ∀ {g : Option Nat}, Ap (some g0) g → ∀ y, g = some y → ¬ (y = g0) := fun ha y hy he => ha g0 rfl (by rw [hy, he])
  have m1 : ∀ {g : Option Nat}, Ap gd g → ∀ y, g = some y → ¬ (gd = some y) := fun ha y hy he => ha y he hy
  have c1 := n.ap (x := some g0) (by simpa using l0) x.a2
  refine ⟨hb, (x.seen.keep k1 (m1 x.a5.symm)).keep k2 (m0 x.a1), o.keep k2 (m0 c1), (x.waits.keep k1 (m1 x.a8)).keep k2 (m0 x.a3), (x.arms.keep k1 (m1 x.a9)).keep k2 (m0 x.a4), fun z hz => ?_,
    x.a1, c1, x.a3, x.a4, n.ap l1 x.a5, x.a6, x.a7, (n.ap l3 x.a8.symm).symm, (n.ap l4 x.a9.symm).symm, x.a10, fun y hy => ?_, fun y hy => Nat.lt_of_lt_of_le (x.rlt y hy) (Nat.le_trans k1.next k2.next)⟩
  · obtain ⟨G, hG, sG⟩ := x.fates z hz
    exact ⟨G, hG, (sG.keep k1 fun y hy he => (x.ro y (hG y hy)).2.2.1 he).keep k2 fun y hy he => (x.ro y (hG y hy)).1 he⟩
  · obtain ⟨r0, r1, r2, r3, r4⟩ := x.ro y hy
    refine ⟨r0, r1, ?_, r3, r4⟩
    rcases n with rfl | rfl | ⟨z, rfl, hz⟩
    · exact r2
    · simp
    · have := x.rlt y hy; simp; omega

theorem DX.setWaits (wf : Wf h) (x : DX h d g0 gs gd gw ga R D s dd w a) {h1 h2 : Hp} {gw' : Option Nat} {w' : Sv} {L : List Wt} (k1 : Keep (fun y => gw = some y) h h1) (o : OwT Wt.enc 4 h1 gw' w' L) (n : Nw h gw' gw) (k2 : Keep (· = g0) h1 h2)
    (hb : Blk h2 d (some g0) (dcells { D with waits := L } s dd w' a)) : DX h2 d g0 gs gd gw' ga R { D with waits := L } s dd w' a := by
  obtain ⟨l0, l1, l2, l3, l4⟩ := x.lts wf
  have m0 : ∀ {g : Option Nat}, Ap (some g0) g → ∀ y, g = some y → ¬ (y = g0) := fun ha y hy he => ha g0 rfl (by rw [hy, he])
  have m1 : ∀ {g : Option Nat}, Ap gw g → ∀ y, g = some y → ¬ (gw = some y) := fun ha y hy he => ha y he hy
  have c1 := n.ap (x := some g0) (by simpa using l0) x.a3
  refine ⟨hb, (x.seen.keep k1 (m1 x.a6.symm)).keep k2 (m0 x.a1), (x.dur.keep k1 (m1 x.a8.symm)).keep k2 (m0 x.a2), o.keep k2 (m0 c1), (x.arms.keep k1 (m1 x.a10)).keep k2 (m0 x.a4), fun z hz => ?_,
    x.a1, x.a2, c1, x.a4, x.a5, n.ap l1 x.a6, x.a7, n.ap l2 x.a8, x.a9, (n.ap l4 x.a10.symm).symm, fun y hy => ?_, fun y hy => Nat.lt_of_lt_of_le (x.rlt y hy) (Nat.le_trans k1.next k2.next)⟩
  · obtain ⟨G, hG, sG⟩ := x.fates z hz
    exact ⟨G, hG, (sG.keep k1 fun y hy he => (x.ro y (hG y hy)).2.2.2.1 he).keep k2 fun y hy he => (x.ro y (hG y hy)).1 he⟩
  · obtain ⟨r0, r1, r2, r3, r4⟩ := x.ro y hy
    refine ⟨r0, r1, r2, ?_, r4⟩
    rcases n with rfl | rfl | ⟨z, rfl, hz⟩
    · exact r3
    · simp
    · have := x.rlt y hy; simp; omega

/-- The arms were changed (R': the groups of their fates), then the record. -/
theorem DX.setArms (wf : Wf h) (x : DX h d g0 gs gd gw ga R D s dd w a) {h1 h2 : Hp} {ga' : Option Nat} {a' : Sv} {L : List Ar} (k1 : Keep (fun y => ga = some y) h h1) (o : OwT Ar.enc 5 h1 ga' a' L) (n : Nw h ga' ga) (k2 : Keep (· = g0) h1 h2)
    (hb : Blk h2 d (some g0) (dcells { D with arms := L } s dd w a')) {R' : Nat → Prop} (hR : ∀ y, R' y → (R y ∨ h.next ≤ y) ∧ y < h1.next ∧ ga' ≠ some y)
    (hf : ∀ z ∈ L, ∃ G, (∀ y, G = some y → R' y) ∧ SlT encF 1 h1 G z.fa z.fl z.fc z.fates) : DX h2 d g0 gs gd gw ga' R' { D with arms := L } s dd w a' := by
  obtain ⟨l0, l1, l2, l3, l4⟩ := x.lts wf
  have m0 : ∀ {g : Option Nat}, Ap (some g0) g → ∀ y, g = some y → ¬ (y = g0) := fun ha y hy he => ha g0 rfl (by rw [hy, he])
  have m1 : ∀ {g : Option Nat}, Ap ga g → ∀ y, g = some y → ¬ (ga = some y) := fun ha y hy he => ha y he hy
  have c1 := n.ap (x := some g0) (by simpa using l0) x.a4
  have hR' : ∀ y, R' y → y ≠ g0 ∧ gs ≠ some y ∧ gd ≠ some y ∧ gw ≠ some y ∧ ga' ≠ some y := by
    intro y hy
    obtain ⟨h3, h4, h5⟩ := hR y hy
    rcases h3 with h3 | h3
    · obtain ⟨r0, r1, r2, r3, r4⟩ := x.ro y h3
      exact ⟨r0, r1, r2, r3, h5⟩
    · refine ⟨by omega, fun he => ?_, fun he => ?_, fun he => ?_, h5⟩
      · have := l1 y he; omega
      · have := l2 y he; omega
      · have := l3 y he; omega
  refine ⟨hb, (x.seen.keep k1 (m1 x.a7.symm)).keep k2 (m0 x.a1), (x.dur.keep k1 (m1 x.a9.symm)).keep k2 (m0 x.a2), (x.waits.keep k1 (m1 x.a10.symm)).keep k2 (m0 x.a3), o.keep k2 (m0 c1), fun z hz => ?_,
    x.a1, x.a2, x.a3, c1, x.a5, x.a6, n.ap l1 x.a7, x.a8, n.ap l2 x.a9, n.ap l3 x.a10, hR', fun y hy => Nat.lt_of_lt_of_le (hR y hy).2.1 k2.next⟩
  obtain ⟨G, hG, sG⟩ := hf z hz
  exact ⟨G, hG, sG.keep k2 fun y hy he => (hR' y (hG y hy)).1 he⟩
end
end Go.Proofs.Ytfkhjbfddeahaaa.kc

/- Contracts of the disk's small functions: what is there, stretch, lay, clones. -/
set_option linter.unusedVariables false
namespace Go.Proofs.Ytfkhjbfddeahaaa.kc
open Go Go.Cn Go.Proofs Go.Proofs.Ytfkhjbfddeahaaa.vc

theorem app40 : AppT Try.prog 40 40 9 1 16 := AppT.of _ (by kernel_rfl)
theorem app95 : AppT Try.prog 95 95 5 1 1 := AppT.of _ (by kernel_rfl)
theorem app98 : AppT Try.prog 98 98 103 4 32 := AppT.of _ (by kernel_rfl)
theorem app99 : AppT Try.prog 99 99 108 5 56 := AppT.of _ (by kernel_rfl)
theorem app36 : AppT Try.prog 36 36 57 1 1 := AppT.of _ (by kernel_rfl)
theorem app51 : AppT Try.prog 51 51 60 3 16 := AppT.of _ (by kernel_rfl)
theorem zero5 : zero? Try.prog 5 = some (.int .u8 0) := by kernel_rfl

theorem room {n b : Nat} (hn : n ≤ 8589934592) (hb : b ≤ 4096) : roomy n b = true := roomy_of (by
  have h1 : (2 * n + 1024) * b ≤ (2 * 8589934592 + 1024) * b := Nat.mul_le_mul_right b (by omega)
  have h2 : (2 * 8589934592 + 1024) * b ≤ (2 * 8589934592 + 1024) * 4096 := Nat.mul_le_mul_left _ hb
  omega)

def zeros (n : Nat) : ByteArray := ⟨(List.replicate n 0).toArray⟩
theorem zeros_size (n : Nat) : (zeros n).size = n := by simp [zeros, ByteArray.size]

theorem zeroCells_one (v : Value) (n : Nat) : zeroCells [v] n = List.replicate n v := by
  unfold zeroCells
  induction n with
  | zero => rfl
  | succ n ih => rw [List.replicate_succ, List.flatten_cons, ih, List.replicate_succ]; rfl

theorem bytesOf_zero (n : Nat) : bytesOf (List.replicate n (.int .u8 0)) = some (List.replicate n 0) := by
  induction n with
  | zero => rfl
  | succ n ih => rw [List.replicate_succ]; simp only [bytesOf]; rw [ih]; rfl

/-- A new text of bytes 0. -/
theorem make_zeros {h : Hp} (wf : Wf h) {n : Int} {m : Nat} (hn : n = m) (hm : m ≤ 140737488355328) :
    ∃ h', cmakeSlice Try.prog 95 (.int .i64 n) (.int .i64 n) h = some (.slice (some ⟨h.next, 0, none⟩) m m, h') ∧ Blk h' h.next (some h.next) (List.replicate m (.int .u8 0)) ∧ Kept h h' ∧ h'.next = h.next + 1 ∧ Wf h' := by
  obtain ⟨h', h1, h2⟩ := make_slice wf app95 zero5 (by rfl) hn (by omega)
  have h2 : h' = h.alloc (zeroCells [.int .u8 0] m) 5 := h2
  rw [zeroCells_one] at h2
  obtain ⟨b, k, n, w⟩ := new_blk wf h2
  exact ⟨h', h1, b, k, n, w⟩

theorem read_zeros {h : Hp} {b : Nat} {g : Option Nat} {m : Nat} (hb : Blk h b g (List.replicate m (.int .u8 0))) (sp : Option Nat) : readStr (some ⟨b, 0, sp⟩) m h (zeros m) := by
  refine .inr ⟨rfl, _, hb.cells (o := 0) (n := m) (by simp), ?_⟩
  rw [List.drop_zero, List.take_of_length_le (by simp)]
  rw [bytesOf_zero]; simp [zeros]

theorem flatS (L : List ByteArray) (s : ByteArray) : (L ++ [s]).flatMap encS = L.flatMap encS ++ [.string s] := by simp [encS]

theorem get_set_self {CS : List Value} {o : Nat} (v : Value) (h : o < CS.length) : (CS.set o v)[o]? = some v := by simp [h]
theorem get_set_ne {CS : List Value} {o j : Nat} (v : Value) (h : j ≠ o) : (CS.set o v)[j]? = CS[j]? := by rw [List.getElem?_set_ne (by omega)]

def stretchL (bytes : Int) (L : List ByteArray) (n : Int) : List ByteArray := L ++ List.replicate (n.toNat - L.length) (zeros bytes.toNat)

/-- plates.stretch. -/
theorem c91 {h : Hp} {p o g0 : Nat} {g : Option Nat} {CS : List Value} {bytes n : Int} {s : Sv} {L : List ByteArray} (hb : Blk h p (some g0) CS) (h0 : CS[o]? = some (.int .i64 bytes)) (h1 : CS[o + 1]? = some s.v)
    (ow : OwT encS 1 h g s L) (ap : Ap (some g0) g) (hby : 0 ≤ bytes ∧ bytes ≤ 1048576) (hn : n ≤ 1048576) (hL : L.length ≤ 1048576) :
    C 91 [.pointer (some ⟨p, o, none⟩), .int .i64 n] h fun v h' => v = .tuple #[] ∧ ∃ g' s', Blk h' p (some g0) (CS.set (o + 1) s'.v) ∧ OwT encS 1 h' g' s' (stretchL bytes L n) ∧ Nw h g' g ∧ Keep (fun y => y = g0 ∨ g = some y) h h' := by
  refine SCalls_of_vw fol (pf := pf) (shp := shp91) (f := 91) (fn := Try.f91) (by kernel_rfl) (c := Try.f91.body.getD .skip) (by kernel_rfl) (by kernel_rfl) fun wf => ?_
  rw [vc91]
  have ho : o + 1 < CS.length := (List.getElem?_eq_some_iff.mp h1).1
  have hg0 := hb.glt wf
  have hglt := ow.1.glt wf
  have eself : CS.set (o + 1) s.v = CS := by
    obtain ⟨_, hv⟩ := List.getElem?_eq_some_iff.mp h1
    rw [← hv]; exact List.set_getElem_self _
  refine ⟨fun vals m hh => ∃ g' s' k, vals = [] ∧ k ≤ n.toNat - L.length ∧ m = (n.toNat - L.length) - k ∧ Wf hh ∧ Blk hh p (some g0) (CS.set (o + 1) s'.v) ∧ OwT encS 1 hh g' s' (L ++ List.replicate k (zeros bytes.toNat)) ∧ Nw h g' g ∧
      Keep (fun y => y = g0 ∨ g = some y) h hh, ⟨_, g, s, 0, rfl, Nat.zero_le _, rfl, wf, by rw [eself]; exact hb, by simpa using ow, Nw.same, Keep.refl _ _⟩, ?_⟩
  rintro m hh ⟨g', s', k, _, hk, rfl, wf1, b1, o1, nw1, k1⟩
  have hlen : s'.l = L.length + k := by rw [← o1.2]; simp
  have r1 : ∀ {h2 : Hp}, Kept hh h2 → h2.cellsAt p (plusN o 1) 1 = some [s'.v] := fun k => (Keep.blk k b1 fun _ _ hf => hf).one (get_set_self _ ho)
  have r0 : ∀ {h2 : Hp}, Kept hh h2 → h2.cellsAt p o 1 = some [.int .i64 bytes] := fun k => (Keep.blk k b1 fun _ _ hf => hf).one (by rw [get_set_ne _ (by omega)]; exact h0)
  refine ⟨rfl, rfl, s'.a, s'.l, s'.c, ⟨rfl, r1 (Keep.refl _ _)⟩, ?_⟩
  split
  · rename_i hlt
    have hlt : (s'.l : Int) < n := ltI_iff.mp hlt
    obtain ⟨h2, e2, b2, k2, n2, wf2⟩ := make_zeros wf1 (n := bytes) (m := bytes.toNat) (by omega) (by omega)
    refine ⟨rfl, rfl, s'.a, s'.l, s'.c, ⟨rfl, r1 (Keep.refl _ _)⟩, rfl, rfl, bytes, ⟨rfl, r0 (Keep.refl _ _)⟩, _, _, _, h2, e2, ⟨rfl, r1 k2⟩, zeros bytes.toNat, read_zeros b2 none, ?_⟩
    intro h3 e3
    obtain ⟨b3, k3, n3, wf3⟩ := new_blk wf2 e3
    have k23 : Kept hh h3 := k2.trans wf1 k3 fun _ _ hf => hf
    refine ⟨⟨rfl, r1 k23⟩, ?_⟩
    obtain ⟨a4, c4, g4, h4, e4, o4, nw4, k4, wf4⟩ := Ow.append1 wf2 app40 (o1.1.keep k2 fun _ _ hf => hf) e3 rfl rfl (room (by omega) (by omega))
    have k24 : Keep (fun y => g' = some y) hh h4 := (k2.mono wf1 (S' := fun y => g' = some y) fun _ _ hf => hf.elim).trans wf1 k4 fun _ _ hg => hg
    have apg : Ap (some g0) g' := nw1.ap (by simpa using hg0) ap
    have b4 : Blk h4 p (some g0) (CS.set (o + 1) s'.v) := Keep.blk k24 b1 fun y hy he => apg y hy he
    obtain ⟨h5, e5, b5, k5, n5, wf5⟩ := b4.set (o := o + 1) (v := .slice a4 (s'.l + 1) c4) (by simp; omega) rfl
    have nw4' : Nw h g4 g := by
      rcases nw4 with rfl | ⟨y, rfl, hy⟩
      · exact nw1
      · exact .inr (.inr ⟨y, rfl, by have := k1.next; omega⟩)
    have apg4 : Ap (some g0) g4 := nw4'.ap (by simpa using hg0) ap
    refine ⟨a4, _, c4, h4, e4, rfl, rfl, rfl, h5, e5, _, ?_, g4, ⟨a4, s'.l + 1, c4⟩, k + 1, rfl, by omega, rfl, wf5 wf4, by rw [List.set_set] at b5; exact b5, ?_, nw4', ?_⟩
    · simp only [lessN]; omega
    · refine ⟨?_, ?_⟩
      · rw [List.replicate_succ', ← List.append_assoc, flatS]
        exact o4.keep k5 fun y hy he => apg4 g0 rfl (by rw [hy, he])
      · simp; omega
    · refine (k1.trans wf k24 fun y hy he => ?_).trans wf k5 fun y hy he => .inl he
      rcases nw1 with rfl | rfl | ⟨z, rfl, hz⟩
      · exact .inr he
      · simp at he
      · simp at he; omega
  · rename_i hlt
    have hlt : n ≤ (s'.l : Int) := by rw [ltI_iff] at hlt; simp only [natI] at hlt; omega
    refine ⟨rfl, g', s', b1, ?_, nw1, k1⟩
    have hkk : k = n.toNat - L.length := by omega
    unfold stretchL
    rw [← hkk]; exact o1
section
variable {h : Hp} {d g0 : Nat} {gs gd gw ga : Option Nat} {R : Nat → Prop} {D : Dk} {s dd w a : Sv}

theorem c58 (x : DX h d g0 gs gd gw ga R D s dd w a) (hb : 0 < D.bytes) : C 58 [.pointer (some ⟨d, 0, none⟩)] h fun v h' => v = .bool true ∧ h' = h := by
  refine SCalls_of_vw fol (pf := pf) (shp := shp58) (f := 58) (fn := Try.f58) (by kernel_rfl) (c := Try.f58.body.getD .skip) (by kernel_rfl) (by kernel_rfl) fun wf => ?_
  rw [vc58]
  have b := x.blk
  (repeat' first | refine ⟨rfl, ?_⟩ | refine ⟨fun _ => rfl, ?_⟩ | refine ⟨⟨by assumption, by assumption⟩, ?_⟩ | refine ⟨fun _ => ⟨by assumption, by assumption⟩, ?_⟩ | refine ⟨_, ⟨rfl, (Blk.cells (by assumption) (Nat.le_of_ble_eq_true rfl)).trans rfl⟩, ?_⟩ | refine ⟨_, fun _ => ⟨rfl, (Blk.cells (by assumption) (Nat.le_of_ble_eq_true rfl)).trans rfl⟩, ?_⟩ | refine ⟨_, ⟨rfl, by assumption⟩, ?_⟩ | refine ⟨_, fun _ => ⟨rfl, by assumption⟩, ?_⟩ | refine ⟨_, _, ⟨rfl, (Blk.cells (by assumption) (Nat.le_of_ble_eq_true rfl)).trans rfl⟩, ?_⟩ | refine ⟨_, _, fun _ => ⟨rfl, (Blk.cells (by assumption) (Nat.le_of_ble_eq_true rfl)).trans rfl⟩, ?_⟩ | refine ⟨_, _, ⟨rfl, by assumption⟩, ?_⟩ | refine ⟨_, _, fun _ => ⟨rfl, by assumption⟩, ?_⟩ | refine ⟨_, _, _, ⟨rfl, (Blk.cells (by assumption) (Nat.le_of_ble_eq_true rfl)).trans rfl⟩, ?_⟩ | refine ⟨_, _, _, fun _ => ⟨rfl, (Blk.cells (by assumption) (Nat.le_of_ble_eq_true rfl)).trans rfl⟩, ?_⟩ | refine ⟨_, _, _, ⟨rfl, by assumption⟩, ?_⟩ | refine ⟨_, _, _, fun _ => ⟨rfl, by assumption⟩, ?_⟩ | refine ⟨_, _, _, _, ⟨rfl, (Blk.cells (by assumption) (Nat.le_of_ble_eq_true rfl)).trans rfl⟩, ?_⟩ | refine ⟨_, _, _, _, fun _ => ⟨rfl, (Blk.cells (by assumption) (Nat.le_of_ble_eq_true rfl)).trans rfl⟩, ?_⟩ | refine ⟨_, _, _, _, ⟨rfl, by assumption⟩, ?_⟩ | refine ⟨_, _, _, _, fun _ => ⟨rfl, by assumption⟩, ?_⟩ | refine ⟨_, _, _, _, _, ⟨rfl, (Blk.cells (by assumption) (Nat.le_of_ble_eq_true rfl)).trans rfl⟩, ?_⟩ | refine ⟨_, _, _, _, _, fun _ => ⟨rfl, (Blk.cells (by assumption) (Nat.le_of_ble_eq_true rfl)).trans rfl⟩, ?_⟩ | refine ⟨_, _, _, _, _, ⟨rfl, by assumption⟩, ?_⟩ | refine ⟨_, _, _, _, _, fun _ => ⟨rfl, by assumption⟩, ?_⟩ | refine ⟨_, _, _, _, _, _, ⟨rfl, (Blk.cells (by assumption) (Nat.le_of_ble_eq_true rfl)).trans rfl⟩, ?_⟩ | refine ⟨_, _, _, _, _, _, fun _ => ⟨rfl, (Blk.cells (by assumption) (Nat.le_of_ble_eq_true rfl)).trans rfl⟩, ?_⟩ | refine ⟨_, _, _, _, _, _, ⟨rfl, by assumption⟩, ?_⟩ | refine ⟨_, _, _, _, _, _, fun _ => ⟨rfl, by assumption⟩, ?_⟩ | refine ⟨_, _, _, _, _, _, _, ⟨rfl, (Blk.cells (by assumption) (Nat.le_of_ble_eq_true rfl)).trans rfl⟩, ?_⟩ | refine ⟨_, _, _, _, _, _, _, fun _ => ⟨rfl, (Blk.cells (by assumption) (Nat.le_of_ble_eq_true rfl)).trans rfl⟩, ?_⟩ | refine ⟨_, _, _, _, _, _, _, ⟨rfl, by assumption⟩, ?_⟩ | refine ⟨_, _, _, _, _, _, _, fun _ => ⟨rfl, by assumption⟩, ?_⟩ | refine ⟨_, _, _, _, _, _, _, _, ⟨rfl, (Blk.cells (by assumption) (Nat.le_of_ble_eq_true rfl)).trans rfl⟩, ?_⟩ | refine ⟨_, _, _, _, _, _, _, _, fun _ => ⟨rfl, (Blk.cells (by assumption) (Nat.le_of_ble_eq_true rfl)).trans rfl⟩, ?_⟩ | refine ⟨_, _, _, _, _, _, _, _, ⟨rfl, by assumption⟩, ?_⟩ | refine ⟨_, _, _, _, _, _, _, _, fun _ => ⟨rfl, by assumption⟩, ?_⟩ | fail)
  refine ⟨?_, rfl⟩
  rw [gtI_iff.mpr hb]; rfl

theorem c62 (x : DX h d g0 gs gd gw ga R D s dd w a) (hb : 0 < D.bytes) : C 62 [.pointer (some ⟨d, 0, none⟩)] h fun v h' => v = .int .i64 (if D.off then 7 else 0) ∧ h' = h := by
  refine SCalls_of_vw fol (pf := pf) (shp := shp62) (f := 62) (fn := Try.f62) (by kernel_rfl) (c := Try.f62.body.getD .skip) (by kernel_rfl) (by kernel_rfl) fun wf => ?_
  rw [vc62]
  have b := x.blk
  refine (c58 x hb).mono fun v h' ⟨e, e'⟩ => ⟨_, e, ?_⟩
  subst e'
  rw [if_neg (by simp [notB])]
  (repeat' first | refine ⟨rfl, ?_⟩ | refine ⟨fun _ => rfl, ?_⟩ | refine ⟨⟨by assumption, by assumption⟩, ?_⟩ | refine ⟨fun _ => ⟨by assumption, by assumption⟩, ?_⟩ | refine ⟨_, ⟨rfl, (Blk.cells (by assumption) (Nat.le_of_ble_eq_true rfl)).trans rfl⟩, ?_⟩ | refine ⟨_, fun _ => ⟨rfl, (Blk.cells (by assumption) (Nat.le_of_ble_eq_true rfl)).trans rfl⟩, ?_⟩ | refine ⟨_, ⟨rfl, by assumption⟩, ?_⟩ | refine ⟨_, fun _ => ⟨rfl, by assumption⟩, ?_⟩ | refine ⟨_, _, ⟨rfl, (Blk.cells (by assumption) (Nat.le_of_ble_eq_true rfl)).trans rfl⟩, ?_⟩ | refine ⟨_, _, fun _ => ⟨rfl, (Blk.cells (by assumption) (Nat.le_of_ble_eq_true rfl)).trans rfl⟩, ?_⟩ | refine ⟨_, _, ⟨rfl, by assumption⟩, ?_⟩ | refine ⟨_, _, fun _ => ⟨rfl, by assumption⟩, ?_⟩ | refine ⟨_, _, _, ⟨rfl, (Blk.cells (by assumption) (Nat.le_of_ble_eq_true rfl)).trans rfl⟩, ?_⟩ | refine ⟨_, _, _, fun _ => ⟨rfl, (Blk.cells (by assumption) (Nat.le_of_ble_eq_true rfl)).trans rfl⟩, ?_⟩ | refine ⟨_, _, _, ⟨rfl, by assumption⟩, ?_⟩ | refine ⟨_, _, _, fun _ => ⟨rfl, by assumption⟩, ?_⟩ | refine ⟨_, _, _, _, ⟨rfl, (Blk.cells (by assumption) (Nat.le_of_ble_eq_true rfl)).trans rfl⟩, ?_⟩ | refine ⟨_, _, _, _, fun _ => ⟨rfl, (Blk.cells (by assumption) (Nat.le_of_ble_eq_true rfl)).trans rfl⟩, ?_⟩ | refine ⟨_, _, _, _, ⟨rfl, by assumption⟩, ?_⟩ | refine ⟨_, _, _, _, fun _ => ⟨rfl, by assumption⟩, ?_⟩ | refine ⟨_, _, _, _, _, ⟨rfl, (Blk.cells (by assumption) (Nat.le_of_ble_eq_true rfl)).trans rfl⟩, ?_⟩ | refine ⟨_, _, _, _, _, fun _ => ⟨rfl, (Blk.cells (by assumption) (Nat.le_of_ble_eq_true rfl)).trans rfl⟩, ?_⟩ | refine ⟨_, _, _, _, _, ⟨rfl, by assumption⟩, ?_⟩ | refine ⟨_, _, _, _, _, fun _ => ⟨rfl, by assumption⟩, ?_⟩ | refine ⟨_, _, _, _, _, _, ⟨rfl, (Blk.cells (by assumption) (Nat.le_of_ble_eq_true rfl)).trans rfl⟩, ?_⟩ | refine ⟨_, _, _, _, _, _, fun _ => ⟨rfl, (Blk.cells (by assumption) (Nat.le_of_ble_eq_true rfl)).trans rfl⟩, ?_⟩ | refine ⟨_, _, _, _, _, _, ⟨rfl, by assumption⟩, ?_⟩ | refine ⟨_, _, _, _, _, _, fun _ => ⟨rfl, by assumption⟩, ?_⟩ | refine ⟨_, _, _, _, _, _, _, ⟨rfl, (Blk.cells (by assumption) (Nat.le_of_ble_eq_true rfl)).trans rfl⟩, ?_⟩ | refine ⟨_, _, _, _, _, _, _, fun _ => ⟨rfl, (Blk.cells (by assumption) (Nat.le_of_ble_eq_true rfl)).trans rfl⟩, ?_⟩ | refine ⟨_, _, _, _, _, _, _, ⟨rfl, by assumption⟩, ?_⟩ | refine ⟨_, _, _, _, _, _, _, fun _ => ⟨rfl, by assumption⟩, ?_⟩ | refine ⟨_, _, _, _, _, _, _, _, ⟨rfl, (Blk.cells (by assumption) (Nat.le_of_ble_eq_true rfl)).trans rfl⟩, ?_⟩ | refine ⟨_, _, _, _, _, _, _, _, fun _ => ⟨rfl, (Blk.cells (by assumption) (Nat.le_of_ble_eq_true rfl)).trans rfl⟩, ?_⟩ | refine ⟨_, _, _, _, _, _, _, _, ⟨rfl, by assumption⟩, ?_⟩ | refine ⟨_, _, _, _, _, _, _, _, fun _ => ⟨rfl, by assumption⟩, ?_⟩ | fail)
  split <;> exact ⟨rfl, rfl⟩

theorem c93 {p o : Nat} {g : Option Nat} {CS : List Value} {sv : Sv} (hb : Blk h p g CS) (h1 : CS[o + 1]? = some sv.v) : C 93 [.pointer (some ⟨p, o, none⟩)] h fun v h' => v = .int .i64 (natI sv.l) ∧ h' = h := by
  refine SCalls_of_vw fol (pf := pf) (shp := shp93) (f := 93) (fn := Try.f93) (by kernel_rfl) (c := Try.f93.body.getD .skip) (by kernel_rfl) (by kernel_rfl) fun wf => ?_
  rw [vc93]
  exact ⟨rfl, rfl, _, _, _, ⟨rfl, hb.one h1⟩, rfl, rfl⟩

theorem c57 (x : DX h d g0 gs gd gw ga R D s dd w a) (hb : 0 < D.bytes) : C 57 [.pointer (some ⟨d, 0, none⟩)] h fun v h' => v = .int .i64 (natI D.seen.length) ∧ h' = h := by
  refine SCalls_of_vw fol (pf := pf) (shp := shp57) (f := 57) (fn := Try.f57) (by kernel_rfl) (c := Try.f57.body.getD .skip) (by kernel_rfl) (by kernel_rfl) fun wf => ?_
  rw [vc57]
  refine (c58 x hb).mono fun v h' ⟨e, e'⟩ => ⟨_, e, ?_⟩
  subst e'
  rw [if_neg (by simp [notB])]
  refine ⟨rfl, rfl, (c93 x.blk rfl).mono fun v h' ⟨e, e'⟩ => ⟨_, e, ?_, e'⟩⟩
  rw [x.seen.2]

theorem toW_u64 {n : Int} (h0 : 0 ≤ n) (h1 : n < 18446744073709551616) : toW .u64 n = n := by
  unfold toW IntKind.wrap
  simp [IntKind.bits, IntKind.signed]
  omega
theorem toW_i64 {n : Int} (h0 : -9223372036854775808 ≤ n) (h1 : n < 9223372036854775808) : toW .i64 n = n := by
  unfold toW IntKind.wrap
  simp [IntKind.bits, IntKind.signed]
  omega

theorem c92 {p o : Nat} {g : Option Nat} {CS : List Value} {sv : Sv} {n : Int} (hb : Blk h p g CS) (h1 : CS[o + 1]? = some sv.v) (hn : 0 ≤ n ∧ n < 4294967296) (hl : sv.l ≤ 4294967296) :
    C 92 [.pointer (some ⟨p, o, none⟩), .int .u32 n] h fun v h' => v = .bool (decide (n < sv.l)) ∧ h' = h := by
  refine SCalls_of_vw fol (pf := pf) (shp := shp92) (f := 92) (fn := Try.f92) (by kernel_rfl) (c := Try.f92.body.getD .skip) (by kernel_rfl) (by kernel_rfl) fun wf => ?_
  rw [vc92]
  refine ⟨rfl, rfl, _, _, _, ⟨rfl, hb.one h1⟩, ?_, rfl⟩
  rw [toW_u64 (by omega) (by omega), toW_u64 (by simp only [natI]; omega) (by simp only [natI]; omega)]
  rfl
end

/-- slices.Clone, of any element. -/
theorem clone_of {α : Type} {enc : α → List Value} {w bytes : Nat} {t elem : TypeId} (ht : AppT Try.prog t t elem w bytes) (hb : bytes ≤ 4096) (hw : ∀ x, (enc x).length = w) (hc : ∀ x, (enc x).all isCell = true) {h h1 : Hp} (wf : Wf h) (he : h1 = h.alloc [] elem) {G : Option Nat} {a : Option Addr} {l c : Nat} {L : List α} (s : SlT enc w h G a l c L) (hl : l ≤ 8589934592) :
    ∃ a' c' g' h', cappend Try.prog t t (.slice (some ⟨h.next, 0, none⟩) 0 0) (.slice a l c) h1 = some (.slice a' l c', h') ∧ OwT enc w h' g' ⟨a', l, c'⟩ L ∧ (g' = none ∨ ∃ y, g' = some y ∧ h.next ≤ y) ∧ Kept h h' ∧ Wf h' := by
  obtain ⟨b1, k1, n1, wf1⟩ := new_blk wf he
  have s1 := s.keep k1 fun _ _ hf => hf
  have o0 : Ow h1 w none (some ⟨h.next, 0, none⟩) 0 0 [] := .inl ⟨rfl, rfl, rfl, rfl, .inr ⟨_, _, rfl⟩⟩
  have hcell : (L.flatMap enc).all isCell = true := by
    simp only [List.all_eq_true, List.mem_flatMap]
    rintro v ⟨x, _, hv⟩
    exact List.all_eq_true.mp (hc x) v hv
  obtain ⟨a', c', g', h', e1, o1, nw, k2, wf2⟩ := Ow.append wf1 ht o0 (dataOf_sl s1.sl) s1.sl.len hcell (room (by omega) hb)
  simp only [Nat.zero_add, List.nil_append] at e1 o1
  refine ⟨a', c', g', h', e1, ⟨o1, s.len⟩, ?_, k1.trans wf k2 fun y hy he => by simp at he, wf2⟩
  rcases nw with h3 | ⟨y, h3, h4⟩
  · exact .inl h3
  · exact .inr ⟨y, h3, by omega⟩

theorem encS_c (x : ByteArray) : (encS x).all isCell = true := rfl
theorem encF_c (x : Int) : (encF x).all isCell = true := rfl
theorem Wt.c (x : Wt) : x.enc.all isCell = true := rfl
theorem Ar.c (x : Ar) : x.enc.all isCell = true := rfl

/-- What a clone answers. -/
def Cloned {α : Type} (enc : α → List Value) (w : Nat) (h : Hp) (L : List α) (v : Value) (h' : Hp) : Prop :=
  ∃ s g', v = Sv.v s ∧ OwT enc w h' g' s L ∧ (g' = none ∨ ∃ y, g' = some y ∧ h.next ≤ y) ∧ Kept h h'

theorem c59 {h : Hp} {G : Option Nat} {a : Option Addr} {l c : Nat} {L : List ByteArray} (s : SlT encS 1 h G a l c L) (hl : l ≤ 8589934592) : C 59 [.slice a l c] h (Cloned encS 1 h L) := by
  refine SCalls_of_vw fol (pf := pf) (shp := shp59) (f := 59) (fn := Try.f59) (by kernel_rfl) (c := Try.f59.body.getD .skip) (by kernel_rfl) (by kernel_rfl) fun wf => ?_
  rw [vc59]
  split
  · rename_i hn
    have ha : a = none := by cases a with | none => rfl | some a => simp [isN] at hn
    subst ha
    have h0 := s.sl.mem
    have hL : L = [] := List.eq_nil_of_length_eq_zero (by rw [s.len]; exact h0.1)
    subst hL
    exact ⟨⟨none, 0, 0⟩, none, rfl, OwT.nil, .inl rfl, Keep.refl _ _⟩
  · intro h1 e1
    obtain ⟨a', c', g', h', e2, o2, n2, k2, wf2⟩ := clone_of app40 (by omega) encS_w encS_c wf e1 s hl
    exact ⟨a', l, c', h', e2, ⟨a', l, c'⟩, g', rfl, o2, n2, k2⟩

theorem c60 {h : Hp} {G : Option Nat} {a : Option Addr} {l c : Nat} {L : List Wt} (s : SlT Wt.enc 4 h G a l c L) (hl : l ≤ 8589934592) : C 60 [.slice a l c] h (Cloned Wt.enc 4 h L) := by
  refine SCalls_of_vw fol (pf := pf) (shp := shp60) (f := 60) (fn := Try.f60) (by kernel_rfl) (c := Try.f60.body.getD .skip) (by kernel_rfl) (by kernel_rfl) fun wf => ?_
  rw [vc60]
  split
  · rename_i hn
    have ha : a = none := by cases a with | none => rfl | some a => simp [isN] at hn
    subst ha
    have h0 := s.sl.mem
    have hL : L = [] := List.eq_nil_of_length_eq_zero (by rw [s.len]; exact h0.1)
    subst hL
    exact ⟨⟨none, 0, 0⟩, none, rfl, OwT.nil, .inl rfl, Keep.refl _ _⟩
  · intro h1 e1
    obtain ⟨a', c', g', h', e2, o2, n2, k2, wf2⟩ := clone_of app98 (by omega) Wt.w Wt.c wf e1 s hl
    exact ⟨a', l, c', h', e2, ⟨a', l, c'⟩, g', rfl, o2, n2, k2⟩

theorem c61 {h : Hp} {G : Option Nat} {a : Option Addr} {l c : Nat} {L : List Ar} (s : SlT Ar.enc 5 h G a l c L) (hl : l ≤ 8589934592) : C 61 [.slice a l c] h (Cloned Ar.enc 5 h L) := by
  refine SCalls_of_vw fol (pf := pf) (shp := shp61) (f := 61) (fn := Try.f61) (by kernel_rfl) (c := Try.f61.body.getD .skip) (by kernel_rfl) (by kernel_rfl) fun wf => ?_
  rw [vc61]
  split
  · rename_i hn
    have ha : a = none := by cases a with | none => rfl | some a => simp [isN] at hn
    subst ha
    have h0 := s.sl.mem
    have hL : L = [] := List.eq_nil_of_length_eq_zero (by rw [s.len]; exact h0.1)
    subst hL
    exact ⟨⟨none, 0, 0⟩, none, rfl, OwT.nil, .inl rfl, Keep.refl _ _⟩
  · intro h1 e1
    obtain ⟨a', c', g', h', e2, o2, n2, k2, wf2⟩ := clone_of app99 (by omega) Ar.w Ar.c wf e1 s hl
    exact ⟨a', l, c', h', e2, ⟨a', l, c'⟩, g', rfl, o2, n2, k2⟩

theorem c72 {h : Hp} {G : Option Nat} {a : Option Addr} {l c : Nat} {L : List Int} (s : SlT encF 1 h G a l c L) (hl : l ≤ 8589934592) : C 72 [.slice a l c] h (Cloned encF 1 h L) := by
  refine SCalls_of_vw fol (pf := pf) (shp := shp72) (f := 72) (fn := Try.f72) (by kernel_rfl) (c := Try.f72.body.getD .skip) (by kernel_rfl) (by kernel_rfl) fun wf => ?_
  rw [vc72]
  split
  · rename_i hn
    have ha : a = none := by cases a with | none => rfl | some a => simp [isN] at hn
    subst ha
    have h0 := s.sl.mem
    have hL : L = [] := List.eq_nil_of_length_eq_zero (by rw [s.len]; exact h0.1)
    subst hL
    exact ⟨⟨none, 0, 0⟩, none, rfl, OwT.nil, .inl rfl, Keep.refl _ _⟩
  · intro h1 e1
    obtain ⟨a', c', g', h', e2, o2, n2, k2, wf2⟩ := clone_of app36 (by omega) encF_w encF_c wf e1 s hl
    exact ⟨a', l, c', h', e2, ⟨a', l, c'⟩, g', rfl, o2, n2, k2⟩

end Go.Proofs.Ytfkhjbfddeahaaa.kc

/- Contracts: see, lay. -/
set_option linter.unusedVariables false
namespace Go.Proofs.Ytfkhjbfddeahaaa.kc
open Go Go.Cn Go.Proofs Go.Proofs.Ytfkhjbfddeahaaa.vc

/-- The disk behind a call. -/
def Nx (h : Hp) (d g0 : Nat) (gs gd gw ga : Option Nat) (R : Nat → Prop) (D' : Dk) (h' : Hp) : Prop :=
  ∃ gs' gd' gw' ga' R' s' dd' w' a', DX h' d g0 gs' gd' gw' ga' R' D' s' dd' w' a' ∧ Nw h gs' gs ∧ Nw h gd' gd ∧ Nw h gw' gw ∧ Nw h ga' ga ∧ (∀ y, R' y → R y ∨ h.next ≤ y) ∧ Keep (own g0 gs gd gw ga) h h'

theorem Nw.trans {h h1 : Hp} (hn : h.next ≤ h1.next) {g g1 g2 : Option Nat} (a : Nw h g1 g) (b : Nw h1 g2 g1) : Nw h g2 g := by
  rcases b with rfl | rfl | ⟨y, rfl, hy⟩
  · exact a
  · exact .inr (.inl rfl)
  · exact .inr (.inr ⟨y, rfl, by omega⟩)

section
variable {h : Hp} {d g0 : Nat} {gs gd gw ga : Option Nat} {R : Nat → Prop} {D : Dk} {s dd w a : Sv}

theorem DX.nx (x : DX h d g0 gs gd gw ga R D s dd w a) : Nx h d g0 gs gd gw ga R D h := ⟨gs, gd, gw, ga, R, s, dd, w, a, x, Nw.same, Nw.same, Nw.same, Nw.same, fun _ h => .inl h, Keep.refl _ _⟩

/-- A footprint behind a call lies in the one ahead of it, or is new. -/
theorem own_nw {h : Hp} {g0 : Nat} {gs gd gw ga gs' gd' gw' ga' : Option Nat} (n1 : Nw h gs' gs) (n2 : Nw h gd' gd) (n3 : Nw h gw' gw) (n4 : Nw h ga' ga) {y : Nat} (hy : own g0 gs' gd' gw' ga' y) : own g0 gs gd gw ga y ∨ h.next ≤ y := by
  have key : ∀ {g' g : Option Nat}, Nw h g' g → g' = some y → g = some y ∨ h.next ≤ y := by
    intro g' g n e
    rcases n with rfl | rfl | ⟨z, rfl, hz⟩
    · exact .inl e
    · simp at e
    · simp at e; subst e; exact .inr hz
  rcases hy with hy | hy | hy | hy | hy
  · exact .inl (.inl hy)
  · rcases key n1 hy with h1 | h1; exact .inl (.inr (.inl h1)); exact .inr h1
  · rcases key n2 hy with h1 | h1; exact .inl (.inr (.inr (.inl h1))); exact .inr h1
  · rcases key n3 hy with h1 | h1; exact .inl (.inr (.inr (.inr (.inl h1)))); exact .inr h1
  · rcases key n4 hy with h1 | h1; exact .inl (.inr (.inr (.inr (.inr h1)))); exact .inr h1

theorem Nx.pre (wf : Wf h) {h1 h2 : Hp} {D2 : Dk} {gs1 gd1 gw1 ga1 : Option Nat} {R1 : Nat → Prop} (n1 : Nw h gs1 gs) (n2 : Nw h gd1 gd) (n3 : Nw h gw1 gw) (n4 : Nw h ga1 ga) (r : ∀ y, R1 y → R y ∨ h.next ≤ y) (k : Keep (own g0 gs gd gw ga) h h1)
    (b : Nx h1 d g0 gs1 gd1 gw1 ga1 R1 D2 h2) : Nx h d g0 gs gd gw ga R D2 h2 := by
  obtain ⟨gs2, gd2, gw2, ga2, R2, s2, dd2, w2, a2, x2, m1, m2, m3, m4, r2, k2⟩ := b
  refine ⟨gs2, gd2, gw2, ga2, R2, s2, dd2, w2, a2, x2, n1.trans k.next m1, n2.trans k.next m2, n3.trans k.next m3, n4.trans k.next m4, fun y hy => ?_, k.trans wf k2 fun y hy ho => ?_⟩
  · rcases r2 y hy with h3 | h3
    · exact r y h3
    · right; have := k.next; omega
  · rcases own_nw n1 n2 n3 n4 ho with h3 | h3
    · exact h3
    · omega

theorem Nx.trans (wf : Wf h) {h1 h2 : Hp} {D1 D2 : Dk} (a : Nx h d g0 gs gd gw ga R D1 h1) (b : ∀ {gs' gd' gw' ga' R' s' dd' w' a'}, DX h1 d g0 gs' gd' gw' ga' R' D1 s' dd' w' a' → Nx h1 d g0 gs' gd' gw' ga' R' D2 h2) : Nx h d g0 gs gd gw ga R D2 h2 := by
  obtain ⟨gs1, gd1, gw1, ga1, R1, s1, dd1, w1, a1, x1, n1, n2, n3, n4, r, k⟩ := a
  obtain ⟨gs2, gd2, gw2, ga2, R2, s2, dd2, w2, a2, x2, m1, m2, m3, m4, r2, k2⟩ := b x1
  refine ⟨gs2, gd2, gw2, ga2, R2, s2, dd2, w2, a2, x2, n1.trans k.next m1, n2.trans k.next m2, n3.trans k.next m3, n4.trans k.next m4, fun y hy => ?_, k.trans wf k2 fun y hy ho => ?_⟩
  · rcases r2 y hy with h3 | h3
    · exact r y h3
    · right; have := k.next; omega
  · rcases own_nw n1 n2 n3 n4 ho with h3 | h3
    · exact h3
    · omega

/-- Behind something that keeps all, then a change. -/
theorem Nx.after (wf : Wf h) {h1 h2 : Hp} {D2 : Dk} (k : Kept h h1) (b : Nx h1 d g0 gs gd gw ga R D2 h2) : Nx h d g0 gs gd gw ga R D2 h2 := by
  obtain ⟨gs2, gd2, gw2, ga2, R2, s2, dd2, w2, a2, x2, m1, m2, m3, m4, r2, k2⟩ := b
  have up : ∀ {g' g : Option Nat}, Nw h1 g' g → Nw h g' g := fun n => Nw.trans k.next Nw.same n
  refine ⟨gs2, gd2, gw2, ga2, R2, s2, dd2, w2, a2, x2, up m1, up m2, up m3, up m4, fun y hy => ?_, (k.mono wf fun _ _ hf => hf.elim).trans wf k2 fun _ _ ho => ho⟩
  rcases r2 y hy with h3 | h3
  · exact .inl h3
  · right; have := k.next; omega

/-- The record alone was written. -/
theorem DX.nx_base (x : DX h d g0 gs gd gw ga R D s dd w a) {h' : Hp} (k : Keep (· = g0) h h') (wf : Wf h) {D' : Dk} (hb : Blk h' d (some g0) (dcells D' s dd w a)) (e1 : D'.seen = D.seen) (e2 : D'.dur = D.dur) (e3 : D'.waits = D.waits) (e4 : D'.arms = D.arms) :
    Nx h d g0 gs gd gw ga R D' h' :=
  ⟨gs, gd, gw, ga, R, s, dd, w, a, x.base k hb e1 e2 e3 e4, Nw.same, Nw.same, Nw.same, Nw.same, fun _ h => .inl h, k.mono wf fun y _ hy => .inl hy⟩

/-- see. -/
theorem c68 (x : DX h d g0 gs gd gw ga R D s dd w a) (hl : D.dur.length ≤ 8589934592) : C 68 [.pointer (some ⟨d, 0, none⟩)] h fun v h' => v = .tuple #[] ∧ Nx h d g0 gs gd gw ga R { D with seen := D.dur } h' := by
  refine SCalls_of_vw fol (pf := pf) (shp := shp68) (f := 68) (fn := Try.f68) (by kernel_rfl) (c := Try.f68.body.getD .skip) (by kernel_rfl) (by kernel_rfl) fun wf => ?_
  rw [vc68]
  have b := x.blk
  (repeat' first | refine ⟨rfl, ?_⟩ | refine ⟨fun _ => rfl, ?_⟩ | refine ⟨⟨by assumption, by assumption⟩, ?_⟩ | refine ⟨fun _ => ⟨by assumption, by assumption⟩, ?_⟩ | refine ⟨_, ⟨rfl, (Blk.cells (by assumption) (Nat.le_of_ble_eq_true rfl)).trans rfl⟩, ?_⟩ | refine ⟨_, fun _ => ⟨rfl, (Blk.cells (by assumption) (Nat.le_of_ble_eq_true rfl)).trans rfl⟩, ?_⟩ | refine ⟨_, ⟨rfl, by assumption⟩, ?_⟩ | refine ⟨_, fun _ => ⟨rfl, by assumption⟩, ?_⟩ | refine ⟨_, _, ⟨rfl, (Blk.cells (by assumption) (Nat.le_of_ble_eq_true rfl)).trans rfl⟩, ?_⟩ | refine ⟨_, _, fun _ => ⟨rfl, (Blk.cells (by assumption) (Nat.le_of_ble_eq_true rfl)).trans rfl⟩, ?_⟩ | refine ⟨_, _, ⟨rfl, by assumption⟩, ?_⟩ | refine ⟨_, _, fun _ => ⟨rfl, by assumption⟩, ?_⟩ | refine ⟨_, _, _, ⟨rfl, (Blk.cells (by assumption) (Nat.le_of_ble_eq_true rfl)).trans rfl⟩, ?_⟩ | refine ⟨_, _, _, fun _ => ⟨rfl, (Blk.cells (by assumption) (Nat.le_of_ble_eq_true rfl)).trans rfl⟩, ?_⟩ | refine ⟨_, _, _, ⟨rfl, by assumption⟩, ?_⟩ | refine ⟨_, _, _, fun _ => ⟨rfl, by assumption⟩, ?_⟩ | refine ⟨_, _, _, _, ⟨rfl, (Blk.cells (by assumption) (Nat.le_of_ble_eq_true rfl)).trans rfl⟩, ?_⟩ | refine ⟨_, _, _, _, fun _ => ⟨rfl, (Blk.cells (by assumption) (Nat.le_of_ble_eq_true rfl)).trans rfl⟩, ?_⟩ | refine ⟨_, _, _, _, ⟨rfl, by assumption⟩, ?_⟩ | refine ⟨_, _, _, _, fun _ => ⟨rfl, by assumption⟩, ?_⟩ | refine ⟨_, _, _, _, _, ⟨rfl, (Blk.cells (by assumption) (Nat.le_of_ble_eq_true rfl)).trans rfl⟩, ?_⟩ | refine ⟨_, _, _, _, _, fun _ => ⟨rfl, (Blk.cells (by assumption) (Nat.le_of_ble_eq_true rfl)).trans rfl⟩, ?_⟩ | refine ⟨_, _, _, _, _, ⟨rfl, by assumption⟩, ?_⟩ | refine ⟨_, _, _, _, _, fun _ => ⟨rfl, by assumption⟩, ?_⟩ | refine ⟨_, _, _, _, _, _, ⟨rfl, (Blk.cells (by assumption) (Nat.le_of_ble_eq_true rfl)).trans rfl⟩, ?_⟩ | refine ⟨_, _, _, _, _, _, fun _ => ⟨rfl, (Blk.cells (by assumption) (Nat.le_of_ble_eq_true rfl)).trans rfl⟩, ?_⟩ | refine ⟨_, _, _, _, _, _, ⟨rfl, by assumption⟩, ?_⟩ | refine ⟨_, _, _, _, _, _, fun _ => ⟨rfl, by assumption⟩, ?_⟩ | refine ⟨_, _, _, _, _, _, _, ⟨rfl, (Blk.cells (by assumption) (Nat.le_of_ble_eq_true rfl)).trans rfl⟩, ?_⟩ | refine ⟨_, _, _, _, _, _, _, fun _ => ⟨rfl, (Blk.cells (by assumption) (Nat.le_of_ble_eq_true rfl)).trans rfl⟩, ?_⟩ | refine ⟨_, _, _, _, _, _, _, ⟨rfl, by assumption⟩, ?_⟩ | refine ⟨_, _, _, _, _, _, _, fun _ => ⟨rfl, by assumption⟩, ?_⟩ | refine ⟨_, _, _, _, _, _, _, _, ⟨rfl, (Blk.cells (by assumption) (Nat.le_of_ble_eq_true rfl)).trans rfl⟩, ?_⟩ | refine ⟨_, _, _, _, _, _, _, _, fun _ => ⟨rfl, (Blk.cells (by assumption) (Nat.le_of_ble_eq_true rfl)).trans rfl⟩, ?_⟩ | refine ⟨_, _, _, _, _, _, _, _, ⟨rfl, by assumption⟩, ?_⟩ | refine ⟨_, _, _, _, _, _, _, _, fun _ => ⟨rfl, by assumption⟩, ?_⟩ | fail)
  refine (c59 x.dur.slT (by rw [← x.dur.2]; exact hl)).wf fun v h1 wf1 _ ⟨s', g', e, o, n, k⟩ => ⟨s'.a, s'.l, s'.c, e, ?_⟩
  have x1 := x.kept k
  have b1 := x1.blk
  refine ⟨⟨rfl, b1.one rfl⟩, rfl, rfl, rfl, ?_⟩
  obtain ⟨h2, e2, b2, k2, n2, w2⟩ := b1.store (o := 0) (vs := [.int .i64 D.bytes, s'.v]) (Nat.le_of_ble_eq_true rfl) rfl
  have nw0 : Nw h g' gs := by rcases n with n | n; exact .inr (.inl n); exact .inr (.inr n)
  refine ⟨h2, e2, rfl, g', gd, gw, ga, R, s', dd, w, a, ?_, nw0, Nw.same, Nw.same, Nw.same, fun _ h => .inl h, (k.mono wf (S' := own g0 gs gd gw ga) fun _ _ hf => hf.elim).trans wf k2 fun y _ hy => .inl hy⟩
  exact x.setSeen wf (k.mono wf fun _ _ hf => hf.elim) o nw0 k2 b2
end

/-! ### lay -/
def bcells (B : List UInt8) : List Value := B.map fun b => .int .u8 b.toNat
theorem byteCells_eq (s : ByteArray) : byteCells s = bcells s.data.toList := rfl
theorem bytesOf_bcells (B : List UInt8) : bytesOf (bcells B) = some B := by
  induction B with
  | nil => rfl
  | cons b B ih =>
    simp only [bcells, List.map_cons, bytesOf] at ih ⊢
    rw [ih]
    simp
theorem bcells_cell (B : List UInt8) : (bcells B).all isCell = true := by
  simp only [bcells, List.all_eq_true, List.mem_map]
  rintro v ⟨b, _, rfl⟩; rfl

def ofBytes (B : List UInt8) : ByteArray := ⟨B.toArray⟩
theorem ofBytes_list (s : ByteArray) : ofBytes s.data.toList = s := by simp [ofBytes]

def cut8 (B : List UInt8) (o : Nat) (V : List UInt8) : List UInt8 := B.take o ++ V ++ B.drop (o + V.length)
def bit (f : Int) (i : Nat) : Bool := neI (andW .u8 f (shlW .u8 1 (i : Int))) 0
def lay1 (k : Nat) (f : Int) (data : List UInt8) (i : Nat) (B : List UInt8) : List UInt8 := if bit f i then cut8 B (i * k) ((data.drop (i * k)).take k) else B
def layN (k : Nat) (f : Int) (data : List UInt8) : Nat → List UInt8 → List UInt8
  | 0, B => B
  | n + 1, B => lay1 k f data n (layN k f data n B)
def laySec (bytes : Int) (f : Int) (data old : ByteArray) : ByteArray := ofBytes (layN (bytes.toNat / 8) f data.data.toList 8 old.data.toList)
def layL (bytes : Int) (L : List ByteArray) (no : Int) (data : ByteArray) (f : Int) : List ByteArray :=
  if f = 0 then L else
    let L1 := stretchL bytes L (no + 1)
    L1.set no.toNat (laySec bytes f data ((L1[no.toNat]?).getD .empty))

theorem cut8_len {B : List UInt8} {o : Nat} {V : List UInt8} (h : o + V.length ≤ B.length) : (cut8 B o V).length = B.length := by
  simp only [cut8, List.length_append, List.length_take, List.length_drop]; omega
theorem lay1_len {k i : Nat} {f : Int} {data B : List UInt8} (h : i * k + k ≤ B.length) : (lay1 k f data i B).length = B.length := by
  unfold lay1
  split
  · exact cut8_len (by rw [List.length_take, List.length_drop]; omega)
  · rfl
theorem layN_len {k : Nat} {f : Int} {data B : List UInt8} : ∀ {n : Nat}, n * k ≤ B.length → (layN k f data n B).length = B.length
  | 0, _ => rfl
  | n + 1, h => by
    rw [Nat.succ_mul] at h
    have := layN_len (f := f) (data := data) (n := n) (k := k) (B := B) (by omega)
    rw [layN, lay1_len (by omega), this]

theorem bcells_splice (B : List UInt8) (o : Nat) (V : List UInt8) : splice (bcells B) o (bcells V) = bcells (cut8 B o V) := by
  simp [splice, bcells, cut8]
theorem size5 : size? Try.prog 5 = some 1 := by kernel_rfl

theorem copy_str {h : Hp} {b g o n : Nat} {sp : Option Nat} {CS : List Value} (hb : Blk h b (some g) CS) {t : ByteArray} (ht : t.size = n) (hn : 0 < n) (ho : o + n ≤ CS.length) {c : Nat} :
    ∃ h', ccopy Try.prog 95 (.slice (some ⟨b, o, sp⟩) n c) (.string t) h = some (.int .i64 n, h') ∧ Blk h' b (some g) (splice CS o (byteCells t)) ∧ Keep (· = g) h h' ∧ h'.next = h.next ∧ (Wf h → Wf h') := by
  have hlen : (byteCells t).length = n := by
    rw [byteCells_eq]; simp only [bcells, List.length_map]
    have : t.data.toList.length = t.size := Array.length_toList
    omega
  obtain ⟨h', h1, h2⟩ := hb.store (o := o) (vs := byteCells t) (by omega) (bcells_cell _)
  refine ⟨h', ?_, h2⟩
  unfold ccopy
  rw [Try.underlying95]
  dsimp only
  rw [size5]
  simp only [dataOf, if_true, ht, Nat.min_self, Nat.mul_one]
  rw [if_neg (by omega)]
  have e : (t.data.toList.map fun b => Value.int .u8 b.toNat) = byteCells t := rfl
  rw [e, List.take_of_length_le (by omega), h1]
  rfl

theorem sub_bytes (s : ByteArray) (l h : Nat) (hl : l ≤ h) (hh : h ≤ s.size) : (strSub s (l : Int) (h : Int)).data.toList = (s.data.toList.drop l).take (h - l) ∧ (strSub s (l : Int) (h : Int)).size = h - l := by
  have e : (strSub s (l : Int) (h : Int)).data = s.data.extract l h := by
    unfold strSub; rw [Int.toNat_natCast, Int.toNat_natCast, ByteArray.data_extract]
  constructor
  · rw [e]; simp [Array.toList_extract]
  · show (strSub s (l : Int) (h : Int)).data.size = _
    rw [e, Array.size_extract]
    have : s.data.size = s.size := rfl
    omega
theorem wrap_small {x : Int} (h0 : -9223372036854775808 ≤ x) (h1 : x < 9223372036854775808) : IntKind.i64.wrap x = x := by
  unfold IntKind.wrap
  simp [IntKind.bits, IntKind.signed]
  omega
theorem mulW_small {a b : Int} (h0 : -9223372036854775808 ≤ a * b) (h1 : a * b < 9223372036854775808) : mulW .i64 a b = a * b := by
  unfold mulW; exact wrap_small h0 h1

theorem quo8 {k : Nat} (hk : k ≤ 131072) : quoW .i64 ((8 * k : Nat) : Int) 8 = (k : Int) := by
  unfold quoW IntKind.wrap
  have e : (((8 * k : Nat) : Int)).tdiv 8 = (k : Int) := by
    rw [Int.tdiv_eq_ediv_of_nonneg (by omega)]; omega
  rw [e]
  simp [IntKind.bits, IntKind.signed]
  omega

theorem flatS_set (L : List ByteArray) (i : Nat) (s : ByteArray) : splice (L.flatMap encS) i [.string s] = (L.set i s).flatMap encS ∨ L.length ≤ i := by
  by_cases hi : i < L.length
  · left
    have e : ∀ (M : List ByteArray), M.flatMap encS = M.map Value.string := fun M => by
      induction M with
      | nil => rfl
      | cons x M ih => rw [List.flatMap_cons, ih]; rfl
    rw [e, e, splice_one (by simpa using hi), List.map_set]
  · right; omega

/-- plates.lay. -/
theorem c94 {h : Hp} {p o g0 k : Nat} {g : Option Nat} {CS : List Value} {no f : Int} {data : ByteArray} {s : Sv} {L : List ByteArray} (hb : Blk h p (some g0) CS) (h0 : CS[o]? = some (.int .i64 ((8 * k : Nat) : Int))) (h1 : CS[o + 1]? = some s.v)
    (ow : OwT encS 1 h g s L) (ap : Ap (some g0) g) (hk : 0 < k ∧ k ≤ 131072) (hno : 0 ≤ no ∧ no < 1048576) (hL : L.length ≤ 1048576) (hsz : ∀ x ∈ L, x.size = 8 * k) (hd : data.size = 8 * k) :
    C 94 [.pointer (some ⟨p, o, none⟩), .int .i64 no, .string data, .int .u8 f] h fun v h' => v = .tuple #[] ∧ ∃ g' s', Blk h' p (some g0) (CS.set (o + 1) s'.v) ∧ OwT encS 1 h' g' s' (layL ((8 * k : Nat) : Int) L no data f) ∧ Nw h g' g ∧ Keep (fun y => y = g0 ∨ g = some y) h h' := by
  refine SCalls_of_vw fol (pf := pf) (shp := shp94) (f := 94) (fn := Try.f94) (by kernel_rfl) (c := Try.f94.body.getD .skip) (by kernel_rfl) (by kernel_rfl) fun wf => ?_
  rw [vc94]
  have ho : o + 1 < CS.length := (List.getElem?_eq_some_iff.mp h1).1
  have hg0 := hb.glt wf
  split
  · rename_i hf
    have hf : f = 0 := eqI_iff.mp hf
    refine ⟨rfl, g, s, ?_, by rw [layL, if_pos hf]; exact ow, Nw.same, Keep.refl _ _⟩
    obtain ⟨_, hv⟩ := List.getElem?_eq_some_iff.mp h1
    rw [← hv, List.set_getElem_self]; exact hb
  · rename_i hf
    have hf : ¬ f = 0 := fun he => hf (eqI_iff.mpr he)
    rw [addW_small (by omega) (by omega)]
    refine (c91 hb h0 h1 ow ap (by omega) (by omega) hL).wf fun v h2 wf2 n02 ⟨e, g1, s1, b1, o1, nw1, k1⟩ => ⟨e, rfl, rfl, s1.a, s1.l, s1.c, ⟨rfl, b1.one (get_set_self _ ho)⟩, ?_⟩
    generalize hL1 : stretchL ((8 * k : Nat) : Int) L (no + 1) = L1 at o1
    have hlen1 : no.toNat < L1.length := by rw [← hL1, stretchL, List.length_append, List.length_replicate]; omega
    have hsz1 : ∀ x ∈ L1, x.size = 8 * k := by
      intro x hx
      rw [← hL1, stretchL] at hx
      rcases List.mem_append.mp hx with hx | hx
      · exact hsz x hx
      · rw [(List.mem_replicate.mp hx).2, zeros_size]; exact Int.toNat_natCast _
    have hold : L1[no.toNat]? = some (L1[no.toNat]) := List.getElem?_eq_getElem hlen1
    generalize hoe : L1[no.toNat] = old at hold
    have holdsz : old.size = 8 * k := hsz1 old (by rw [← hoe]; exact List.getElem_mem hlen1)
    have hin : inR no s1.l := by have := o1.2; simp only [inR]; omega
    obtain ⟨i1, i2⟩ := o1.slT.get encS_w hold (j := 0) (m := 1) (by omega)
    have hpl : ∀ (a : Option Addr), plusI (off a) no 1 = off a + no.toNat * 1 + 0 := fun _ => rfl
    refine ⟨⟨i1, hin⟩, old, ⟨rfl, by rw [hpl]; exact i2⟩, ?_⟩
    intro h3 e3
    obtain ⟨b3, k3, n3, wf3⟩ := new_blk wf2 e3
    rw [byteCells_eq] at b3
    have r0 : ∀ {hh : Hp}, Keep (· = h2.next) h3 hh → Blk hh p (some g0) (CS.set (o + 1) s1.v) := fun kk => kk.blk (Keep.blk k3 b1 fun _ _ hf => hf) fun y hy he => by simp at hy; have := k1.next; omega
    have b3p := r0 (Keep.refl _ _)
    refine ⟨rfl, rfl, ((8 * k : Nat) : Int), ⟨rfl, b3p.one (by rw [get_set_ne _ (by omega)]; exact h0)⟩, by simp [nonzero], ?_⟩
    rw [quo8 hk.2]
    have hbk : (8 * k) / 8 = k := by omega
    have hol : old.data.toList.length = 8 * k := by
      have : old.data.toList.length = old.size := Array.length_toList
      omega
    refine ⟨fun vals m hh => ∃ i : Nat, [.int .i64 i] = vals ∧ i ≤ 8 ∧ m = 8 - i ∧ Wf hh ∧ Keep (· = h2.next) h3 hh ∧ Blk hh h2.next (some h2.next) (bcells (layN k f data.data.toList i old.data.toList)), ⟨8, 0, rfl, by omega, rfl, wf3, Keep.refl _ _, b3⟩, ?_⟩
    rintro n2 m hh ⟨i, e, hi, rfl, wf4, k4, b4⟩
    simp at e; subst e
    split
    · rename_i hlt
      have hlt : i < 8 := by rw [ltI_iff] at hlt; omega
      have hik : i * k + k ≤ 8 * k := by rw [← Nat.succ_mul]; exact Nat.mul_le_mul_right k hlt
      have hll : (layN k f data.data.toList i old.data.toList).length = 8 * k := by rw [layN_len (by rw [hol]; exact Nat.mul_le_mul_right k hi), hol]
      have e1 : addW .i64 (i : Int) 1 = ((i + 1 : Nat) : Int) := by rw [addW_small (by omega) (by omega)]; rfl
      have e2 : mulW .i64 (i : Int) (k : Int) = ((i * k : Nat) : Int) := by
        have : (i : Int) * (k : Int) = ((i * k : Nat) : Int) := by simp
        rw [mulW_small (by omega) (by omega), this]
      have e3 : mulW .i64 ((i + 1 : Nat) : Int) (k : Int) = (((i + 1) * k : Nat) : Int) := by
        have h4 : ((i + 1 : Nat) : Int) * (k : Int) = (((i + 1) * k : Nat) : Int) := by simp
        have h5 : (i + 1) * k = i * k + k := Nat.succ_mul i k
        rw [mulW_small (by omega) (by omega), h4]
      refine ⟨by simp [nonneg], ?_⟩
      have hstep : layN k f data.data.toList (i + 1) old.data.toList = lay1 k f data.data.toList i (layN k f data.data.toList i old.data.toList) := rfl
      split
      · rename_i hbit
        rw [e1, e2, e3]
        have h5 : (i + 1) * k = i * k + k := Nat.succ_mul i k
        obtain ⟨t1, t2⟩ := sub_bytes data (i * k) ((i + 1) * k) (by omega) (by omega)
        have hdn : diffN (((i + 1) * k : Nat) : Int) ((i * k : Nat) : Int) = k := by simp only [diffN, Int.toNat_natCast]; omega
        rw [hdn]
        have hcut : cutE ((i * k : Nat) : Int) 1 (some ⟨h2.next, 0, some 1⟩) = some ⟨h2.next, i * k, none⟩ := by simp [cutE]
        rw [hcut]
        have hkk : (strSub data ((i * k : Nat) : Int) (((i + 1) * k : Nat) : Int)).size = k := by rw [t2]; omega
        obtain ⟨h6, e6, b6, k6, n6, w6⟩ := copy_str (sp := none) (c := k) b4 hkk hk.1 (o := i * k) (by simp only [bcells, List.length_map]; omega)
        have hsize : natI (lenS old) = ((8 * k : Nat) : Int) := by simp only [natI, lenS, holdsz]
        refine ⟨by simp only [cutOk]; rw [hsize]; omega, by simp only [subOk]; rw [hd]; omega, _, h6, e6, 8 - (i + 1), by simp only [lessN]; omega, i + 1, rfl, by omega, rfl, w6 wf4, k4.trans wf3 k6 (fun _ _ hg => hg), ?_⟩
        rw [hstep, lay1, if_pos (show bit f i = true from hbit)]
        rw [byteCells_eq, t1, bcells_splice] at b6
        have : (i + 1) * k - i * k = k := by omega
        rw [this] at b6
        exact b6
      · rename_i hbit
        rw [e1]
        refine ⟨8 - (i + 1), by simp only [lessN]; omega, i + 1, rfl, by omega, rfl, wf4, k4, ?_⟩
        rw [hstep, lay1, if_neg (show ¬ bit f i = true from hbit)]
        exact b4
    · rename_i hlt
      have hi8 : i = 8 := by rw [ltI_iff] at hlt; omega
      subst hi8
      have b5 := r0 k4
      have hll : (layN k f data.data.toList 8 old.data.toList).length = 8 * k := by rw [layN_len (by rw [hol]; exact Nat.le_refl _), hol]
      have g1lt : ∀ y, g1 = some y → y < h2.next := o1.1.glt wf2
      have o5 : OwT encS 1 hh g1 s1 L1 := (o1.keep k3 fun _ _ hf => hf).keep k4 fun y hy he => by have := g1lt y hy; omega
      refine ⟨rfl, rfl, s1.a, s1.l, s1.c, ⟨rfl, b5.one (get_set_self _ ho)⟩, ofBytes (layN k f data.data.toList 8 old.data.toList), ?_, ⟨i1, hin⟩, rfl, ?_⟩
      · refine .inr ⟨rfl, _, b4.cells (o := 0) (n := lenS old) (by simp only [bcells, List.length_map, lenS]; omega), ?_⟩
        rw [List.drop_zero, List.take_of_length_le (by simp only [bcells, List.length_map, lenS]; omega), bytesOf_bcells]
        simp [ofBytes]
      · obtain ⟨_, h7, e7, o7, k7, n7, w7⟩ := o5.1.store (i := no.toNat) (vs := [.string (ofBytes (layN k f data.data.toList 8 old.data.toList))]) (by have := o1.2; simp; omega) (by have := o1.2; omega) rfl
        have hofs : plusI (off s1.a) no 1 = off s1.a + no.toNat := by simp [plusI]
        have apg1 : Ap (some g0) g1 := nw1.ap (by simpa using hg0) ap
        refine ⟨h7, by rw [hofs]; exact e7, rfl, g1, s1, k7.blk b5 (fun y hy he => apg1 y hy he), ⟨?_, ?_⟩, nw1, ?_⟩
        · rcases flatS_set L1 no.toNat (ofBytes (layN k f data.data.toList 8 old.data.toList)) with h8 | h8
          · rw [h8] at o7
            simp only [layL, hf, if_false, hL1, hold, Option.getD_some, laySec, Int.toNat_natCast, hbk]
            exact o7
          · omega
        · simp only [layL, hf, if_false, hL1]; rw [List.length_set]; exact o1.2
        · refine (k1.trans wf ((k3.mono wf2 (S' := (· = h2.next)) fun _ _ hf => hf.elim).trans wf2 k4 fun _ _ hg => hg) fun y hy he => by omega).trans wf k7 fun y hy he => ?_
          rcases nw1 with rfl | rfl | ⟨z, rfl, hz⟩
          · exact .inr he
          · simp at he
          · simp at he; omega
end Go.Proofs.Ytfkhjbfddeahaaa.kc

/- Contracts: goes. -/
set_option linter.unusedVariables false
namespace Go.Proofs.Ytfkhjbfddeahaaa.kc
open Go Go.Cn Go.Proofs Go.Proofs.Ytfkhjbfddeahaaa.vc

section
variable {h : Hp} {d g0 : Nat} {gs gd gw ga : Option Nat} {R : Nat → Prop} {D : Dk} {s dd w a : Sv}

/-- The durable pages and the record were changed together. -/
theorem DX.setDur2 (wf : Wf h) (x : DX h d g0 gs gd gw ga R D s dd w a) {h2 : Hp} {gd' : Option Nat} {dd' : Sv} {L : List ByteArray} (k : Keep (fun y => y = g0 ∨ gd = some y) h h2) (o : OwT encS 1 h2 gd' dd' L) (n : Nw h gd' gd)
    (hb : Blk h2 d (some g0) (dcells { D with dur := L } s dd' w a)) : DX h2 d g0 gs gd' gw ga R { D with dur := L } s dd' w a := by
  obtain ⟨l0, l1, l2, l3, l4⟩ := x.lts wf
  have m : ∀ {g : Option Nat}, Ap (some g0) g → Ap gd g → ∀ y, g = some y → ¬ (y = g0 ∨ gd = some y) := by
    intro g ha hb y hy he
    rcases he with he | he
    · exact ha g0 rfl (by rw [hy, he])
    · exact hb y he hy
  have c1 := n.ap (x := some g0) (by simpa using l0) x.a2
  refine ⟨hb, x.seen.keep k (m x.a1 x.a5.symm), o, x.waits.keep k (m x.a3 x.a8), x.arms.keep k (m x.a4 x.a9), fun z hz => ?_,
    x.a1, c1, x.a3, x.a4, n.ap l1 x.a5, x.a6, x.a7, (n.ap l3 x.a8.symm).symm, (n.ap l4 x.a9.symm).symm, x.a10, fun y hy => ?_, fun y hy => Nat.lt_of_lt_of_le (x.rlt y hy) k.next⟩
  · obtain ⟨G, hG, sG⟩ := x.fates z hz
    exact ⟨G, hG, sG.keep k fun y hy he => by
      rcases he with he | he
      · exact (x.ro y (hG y hy)).1 he
      · exact (x.ro y (hG y hy)).2.2.1 he⟩
  · obtain ⟨r0, r1, r2, r3, r4⟩ := x.ro y hy
    refine ⟨r0, r1, ?_, r3, r4⟩
    rcases n with rfl | rfl | ⟨z, rfl, hz⟩
    · exact r2
    · simp
    · have := x.rlt y hy; simp; omega

theorem DX.setSeen2 (wf : Wf h) (x : DX h d g0 gs gd gw ga R D s dd w a) {h2 : Hp} {gs' : Option Nat} {s' : Sv} {L : List ByteArray} (k : Keep (fun y => y = g0 ∨ gs = some y) h h2) (o : OwT encS 1 h2 gs' s' L) (n : Nw h gs' gs)
    (hb : Blk h2 d (some g0) (dcells { D with seen := L } s' dd w a)) : DX h2 d g0 gs' gd gw ga R { D with seen := L } s' dd w a := by
  obtain ⟨l0, l1, l2, l3, l4⟩ := x.lts wf
  have m : ∀ {g : Option Nat}, Ap (some g0) g → Ap gs g → ∀ y, g = some y → ¬ (y = g0 ∨ gs = some y) := by
    intro g ha hb y hy he
    rcases he with he | he
    · exact ha g0 rfl (by rw [hy, he])
    · exact hb y he hy
  have c1 := n.ap (x := some g0) (by simpa using l0) x.a1
  refine ⟨hb, o, x.dur.keep k (m x.a2 x.a5), x.waits.keep k (m x.a3 x.a6), x.arms.keep k (m x.a4 x.a7), fun z hz => ?_,
    c1, x.a2, x.a3, x.a4, (n.ap l2 x.a5.symm).symm, (n.ap l3 x.a6.symm).symm, (n.ap l4 x.a7.symm).symm, x.a8, x.a9, x.a10, fun y hy => ?_, fun y hy => Nat.lt_of_lt_of_le (x.rlt y hy) k.next⟩
  · obtain ⟨G, hG, sG⟩ := x.fates z hz
    exact ⟨G, hG, sG.keep k fun y hy he => by
      rcases he with he | he
      · exact (x.ro y (hG y hy)).1 he
      · exact (x.ro y (hG y hy)).2.1 he⟩
  · obtain ⟨r0, r1, r2, r3, r4⟩ := x.ro y hy
    refine ⟨r0, ?_, r2, r3, r4⟩
    rcases n with rfl | rfl | ⟨z, rfl, hz⟩
    · exact r1
    · simp
    · have := x.rlt y hy; simp; omega
end

/-- What is sound about a disk: k: an eighth of a page; M: how many pages there are at most. -/
structure Dk.ok (k M : Nat) (D : Dk) : Prop where
  by_ : D.bytes = ((8 * k : Nat) : Int)
  k0 : 0 < k
  k1 : k ≤ 131072
  m1 : M ≤ 65536
  most : D.most = (M : Int)
  seenS : ∀ x ∈ D.seen, x.size = 8 * k
  durS : ∀ x ∈ D.dur, x.size = 8 * k
  seenL : D.seen.length ≤ M
  durL : D.dur.length ≤ M
  waits : ∀ x ∈ D.waits, (x.act = 1 ∧ 0 ≤ x.page ∧ x.page < M ∧ x.data.size = 8 * k) ∨ (x.act = 2 ∧ 0 ≤ x.pages ∧ x.pages ≤ M)

theorem Dk.ok.pos {k M : Nat} {D : Dk} (o : D.ok k M) : 0 < D.bytes := by rw [o.by_]; have := o.k0; omega

def goStep (bytes : Int) (F : List Int) (i : Nat) (x : Wt) (L : List ByteArray) : List ByteArray :=
  match F[i]? with
  | none => L
  | some f => if f = 0 then L else if x.act = 2 then stretchL bytes L x.pages else layL bytes L x.page x.data f
def goN (bytes : Int) (F : List Int) (ws : List Wt) (dur : List ByteArray) : Nat → List ByteArray
  | 0 => dur
  | n + 1 => match ws[n]? with
    | some x => goStep bytes F n x (goN bytes F ws dur n)
    | none => goN bytes F ws dur n
def goesD (D : Dk) (F : List Int) : Dk :=
  let L := goN D.bytes F D.waits D.dur D.waits.length
  { D with dur := L, seen := L, waits := [], arms := [], off := true, taken := addW .i64 D.taken 1 }

theorem laySec_size {k : Nat} {f : Int} {data old : ByteArray} (hk : 0 < k) (ho : old.size = 8 * k) : (laySec ((8 * k : Nat) : Int) f data old).size = 8 * k := by
  have h1 : old.data.toList.length = 8 * k := by
    have : old.data.toList.length = old.size := Array.length_toList
    omega
  unfold laySec ofBytes
  show (layN _ f data.data.toList 8 old.data.toList).toArray.size = _
  rw [List.size_toArray, layN_len, h1]
  rw [h1, Int.toNat_natCast]; have : 8 * k / 8 = k := by omega
  rw [this]; exact Nat.le_refl _

theorem stretchL_ok {k M : Nat} {L : List ByteArray} {n : Int} (hs : ∀ x ∈ L, x.size = 8 * k) (hl : L.length ≤ M) (hn : n ≤ M) : (∀ x ∈ stretchL ((8 * k : Nat) : Int) L n, x.size = 8 * k) ∧ (stretchL ((8 * k : Nat) : Int) L n).length ≤ M := by
  unfold stretchL
  refine ⟨fun x hx => ?_, by rw [List.length_append, List.length_replicate]; omega⟩
  rcases List.mem_append.mp hx with hx | hx
  · exact hs x hx
  · rw [(List.mem_replicate.mp hx).2, zeros_size]; exact Int.toNat_natCast _

theorem layL_ok {k M : Nat} {L : List ByteArray} {no f : Int} {data : ByteArray} (hk : 0 < k) (hs : ∀ x ∈ L, x.size = 8 * k) (hl : L.length ≤ M) (h0 : 0 ≤ no) (hn : no < M) :
    (∀ x ∈ layL ((8 * k : Nat) : Int) L no data f, x.size = 8 * k) ∧ (layL ((8 * k : Nat) : Int) L no data f).length ≤ M := by
  unfold layL
  split
  · exact ⟨hs, hl⟩
  · obtain ⟨s1, s2⟩ := stretchL_ok (n := no + 1) hs hl (by omega)
    have hlen : no.toNat < (stretchL ((8 * k : Nat) : Int) L (no + 1)).length := by unfold stretchL; rw [List.length_append, List.length_replicate]; omega
    refine ⟨fun x hx => ?_, by rw [List.length_set]; exact s2⟩
    rcases List.mem_or_eq_of_mem_set hx with hx | hx
    · exact s1 x hx
    · rw [hx, List.getElem?_eq_getElem hlen, Option.getD_some]
      exact laySec_size hk (s1 _ (List.getElem_mem hlen))

theorem goN_ok {k M : Nat} {D : Dk} (o : D.ok k M) (F : List Int) : ∀ n, (∀ x ∈ goN D.bytes F D.waits D.dur n, x.size = 8 * k) ∧ (goN D.bytes F D.waits D.dur n).length ≤ M
  | 0 => ⟨o.durS, o.durL⟩
  | n + 1 => by
    have ih := goN_ok o F n
    unfold goN
    split
    · rename_i x hx
      have hw := o.waits x (List.mem_of_getElem? hx)
      unfold goStep
      split
      · exact ih
      · split
        · exact ih
        · rw [o.by_] at ih ⊢
          split
          · rename_i h2
            rcases hw with ⟨h1, _⟩ | ⟨_, h3, h4⟩
            · omega
            · exact stretchL_ok ih.1 ih.2 h4
          · rename_i h2
            rcases hw with ⟨_, h3, h4, h5⟩ | ⟨h1, _⟩
            · exact layL_ok o.k0 ih.1 ih.2 h3 h4
            · omega
    · exact ih

theorem goesD_ok {k M : Nat} {D : Dk} (o : D.ok k M) (F : List Int) : (goesD D F).ok k M := by
  obtain ⟨h1, h2⟩ := goN_ok o F D.waits.length
  exact ⟨o.by_, o.k0, o.k1, o.m1, o.most, h1, h1, h2, h2, by simp [goesD]⟩

section
variable {h : Hp} {d g0 : Nat} {gs gd gw ga : Option Nat} {R : Nat → Prop} {D : Dk} {s dd w a : Sv}

/-- goes. -/
theorem c63 {k M : Nat} (x : DX h d g0 gs gd gw ga R D s dd w a) (ok : D.ok k M) {G : Option Nat} {fa : Option Addr} {fl fc : Nat} {F : List Int} (sf : SlT encF 1 h G fa fl fc F) (hG : ∀ y, G = some y → ¬ own g0 gs gd gw ga y ∧ y < h.next) (hfl : fl ≤ 8589934592) (hw : D.waits.length ≤ 8589934592) :
    C 63 [.pointer (some ⟨d, 0, none⟩), .slice fa fl fc] h fun v h' => v = .tuple #[] ∧ Nx h d g0 gs gd gw ga R (goesD D F) h' := by
  refine SCalls_of_vw fol (pf := pf) (shp := shp63) (f := 63) (fn := Try.f63) (by kernel_rfl) (c := Try.f63.body.getD .skip) (by kernel_rfl) (by kernel_rfl) fun wf => ?_
  rw [vc63]
  have b := x.blk
  refine ⟨rfl, rfl, w.a, w.l, w.c, ⟨rfl, b.one rfl⟩, ?_⟩
  refine ⟨fun vals m hh => ∃ (i : Nat) (gd' : Option Nat) (dd' : Sv), [.int .i64 i] = vals ∧ i ≤ w.l ∧ m = w.l - i ∧ Wf hh ∧ DX hh d g0 gs gd' gw ga R { D with dur := goN D.bytes F D.waits D.dur i } s dd' w a ∧ Nw h gd' gd ∧ Keep (fun y => y = g0 ∨ gd = some y) h hh,
    ⟨w.l, 0, gd, dd, rfl, Nat.zero_le _, rfl, wf, x, Nw.same, Keep.refl _ _⟩, ?_⟩
  rintro n m hh ⟨i, gd', dd', e, hi, rfl, wf1, x1, nw1, k1⟩
  simp at e; subst e
  have hwl := x.waits.2
  have hFl := sf.len
  have b1 := x1.blk
  split
  · rename_i hlt
    have hlt : i < w.l := by rw [ltI_iff] at hlt; simp only [natI] at hlt; omega
    have hz : D.waits[i]? = some (D.waits[i]'(by omega)) := List.getElem?_eq_getElem _
    generalize D.waits[i]'(by omega) = z at hz
    have hzok := ok.waits z (List.mem_of_getElem? hz)
    obtain ⟨i1, i2⟩ := x1.waits.slT.get Wt.w hz (j := 0) (m := 4) (by omega)
    refine ⟨⟨i1, by simp [inR]; omega⟩, z.act, z.page, z.pages, z.data, ⟨rfl, i2.trans rfl⟩, ?_⟩
    intro h2 e2
    obtain ⟨b2, k2, n2, wf2⟩ := new_blk wf1 e2
    obtain ⟨h3, e3, b3, k3, _, n3, wf3⟩ := set_blk wf2 b2 k2 wf1 (Nat.le_refl _) (vs := z.enc) rfl rfl
    have x3 := x1.kept k3
    have k03 : Keep (fun y => y = g0 ∨ gd = some y) h h3 := k1.trans wf k3 fun _ _ hf => hf.elim
    have sf3 : SlT encF 1 h3 G fa fl fc F := sf.keep k03 fun y hy he => (hG y hy).1 (by rcases he with he | he; exact .inl he; exact .inr (.inr (.inl he)))
    refine ⟨rfl, h3, e3, ?_⟩
    have next : addW .i64 (i : Int) 1 = ((i + 1 : Nat) : Int) := by rw [addW_small (by omega) (by omega)]; rfl
    have hstep : ∀ f, F[i]? = some f → goN D.bytes F D.waits D.dur (i + 1) = if f = 0 then goN D.bytes F D.waits D.dur i else if z.act = 2 then stretchL D.bytes (goN D.bytes F D.waits D.dur i) z.pages else layL D.bytes (goN D.bytes F D.waits D.dur i) z.page z.data f := by
      intro f hf
      rw [goN, hz]
      simp only [goStep, hf]
    by_cases hiF : i < F.length
    · have hf : F[i]? = some (F[i]) := List.getElem?_eq_getElem hiF
      generalize F[i] = f at hf
      obtain ⟨j1, j2⟩ := sf3.get encF_w hf (j := 0) (m := 1) (by omega)
      have hge : geI (i : Int) (natI fl) = false := by rw [Bool.eq_false_iff]; intro hx; rw [geI_iff] at hx; simp only [natI] at hx; omega
      have hin : inR (i : Int) fl := by simp only [inR]; omega
      refine ⟨fun _ => ⟨j1, hin⟩, f, fun _ => ⟨rfl, j2.trans rfl⟩, ?_⟩
      rw [hge]
      split
      · rename_i hf0
        have hf0 : f = 0 := eqI_iff.mp hf0
        refine ⟨w.l - (i + 1), by simp only [lessN]; omega, i + 1, gd', dd', by rw [next], by omega, rfl, wf3, ?_, nw1, k03⟩
        rw [hstep f hf, if_pos hf0]; exact x3
      · rename_i hf0
        have hf0 : ¬ f = 0 := fun he => hf0 (eqI_iff.mpr he)
        obtain ⟨ok1, ok2⟩ := goN_ok ok F i
        refine ⟨rfl, rfl, z.act, ⟨rfl, b3.one rfl⟩, ?_⟩
        split
        · rename_i h2
          have h2 : z.act = 2 := eqI_iff.mp h2
          have hpg : 0 ≤ z.pages ∧ z.pages ≤ M := by rcases hzok with ⟨h1, _⟩ | ⟨_, h3⟩; omega; exact h3
          refine ⟨rfl, rfl, rfl, rfl, z.pages, ⟨rfl, b3.one rfl⟩, ?_⟩
          have hM := ok.m1
          refine (c91 x3.blk (o := 2) rfl rfl x3.dur x3.a2 (by rw [ok.by_]; have := ok.k1; omega) (by omega) (by simp only; omega)).wf fun v h4 wf4 _ ⟨e4, gd2, dd2, b4, o4, nw4, k4⟩ => ⟨e4, w.l - (i + 1), by simp only [lessN]; omega, i + 1, gd2, dd2, by rw [next], by omega, rfl, wf4, ?_, nw1.trans k03.next nw4, ?_⟩
          · have x4 := x3.setDur2 wf3 k4 o4 nw4 b4
            rw [hstep f hf, if_neg hf0, if_pos h2]
            exact x4
          · refine k03.trans wf k4 fun y hy he => ?_
            rcases he with he | he
            · exact .inl he
            · rcases nw1 with rfl | rfl | ⟨q, rfl, hq⟩
              · exact .inr he
              · simp at he
              · simp at he; omega
        · rename_i h2
          have h2 : ¬ z.act = 2 := fun he => h2 (eqI_iff.mpr he)
          have hpg : 0 ≤ z.page ∧ z.page < M ∧ z.data.size = 8 * k := by rcases hzok with ⟨_, h3⟩ | ⟨h1, _⟩; exact h3; omega
          refine ⟨rfl, rfl, rfl, rfl, z.page, ⟨rfl, b3.one rfl⟩, rfl, z.data, ⟨rfl, b3.one rfl⟩, ⟨j1, hin⟩, f, ⟨rfl, j2.trans rfl⟩, ?_⟩
          have hM := ok.m1
          rw [toW_i64 (by omega) (by omega)]
          refine (c94 (k := k) x3.blk (o := 2) (by show some (Value.int .i64 D.bytes) = _; rw [ok.by_]) rfl x3.dur x3.a2 ⟨ok.k0, ok.k1⟩ (by omega) (by simp only; omega) ok1 hpg.2.2).wf fun v h4 wf4 _ ⟨e4, gd2, dd2, b4, o4, nw4, k4⟩ => ⟨e4, w.l - (i + 1), by simp only [lessN]; omega, i + 1, gd2, dd2, by rw [next], by omega, rfl, wf4, ?_, nw1.trans k03.next nw4, ?_⟩
          · have x4 := x3.setDur2 wf3 k4 o4 nw4 b4
            rw [hstep f hf, if_neg hf0, if_neg h2]
            rw [← ok.by_] at x4
            exact x4
          · refine k03.trans wf k4 fun y hy he => ?_
            rcases he with he | he
            · exact .inl he
            · rcases nw1 with rfl | rfl | ⟨q, rfl, hq⟩
              · exact .inr he
              · simp at he
              · simp at he; omega
    · have hge : geI (i : Int) (natI fl) = true := by rw [geI_iff]; simp only [natI]; omega
      refine ⟨fun hx => by rw [hge] at hx; simp [notB] at hx, 0, fun hx => by rw [hge] at hx; simp [notB] at hx, ?_⟩
      rw [if_pos (by rw [hge]; rfl)]
      refine ⟨w.l - (i + 1), by simp only [lessN]; omega, i + 1, gd', dd', by rw [next], by omega, rfl, wf3, ?_, nw1, k03⟩
      have : goN D.bytes F D.waits D.dur (i + 1) = goN D.bytes F D.waits D.dur i := by
        rw [goN, hz]
        simp only [goStep, List.getElem?_eq_none (show F.length ≤ i by omega)]
      rw [this]; exact x3
  · rename_i hlt
    have hiw : i = w.l := by rw [ltI_iff] at hlt; simp only [natI] at hlt; omega
    have hL : goN D.bytes F D.waits D.dur i = goN D.bytes F D.waits D.dur D.waits.length := by rw [hiw, hwl]
    obtain ⟨h2, e2, b2, k2, n2, w2⟩ := b1.set (o := 6) (v := .slice none 0 0) (by simp [dcells]) rfl
    obtain ⟨h3, e3, b3, k3, n3, w3⟩ := b2.set (o := 7) (v := .slice none 0 0) (by simp [dcells]) rfl
    obtain ⟨h4, e4, b4, k4, n4, w4⟩ := b3.set (o := 5) (v := .bool true) (by simp [dcells]) rfl
    obtain ⟨h5, e5, b5, k5, n5, w5⟩ := b4.set (o := 9) (v := .int .i64 (addW .i64 D.taken 1)) (by simp [dcells]) rfl
    refine ⟨rfl, rfl, rfl, h2, e2, rfl, rfl, rfl, h3, e3, rfl, rfl, rfl, h4, e4, rfl, rfl, D.taken, ⟨rfl, b4.one rfl⟩, rfl, rfl, rfl, h5, e5, ?_⟩
    have k25 : Keep (· = g0) hh h5 := ((k2.trans wf1 k3 fun _ _ he => he).trans wf1 k4 fun _ _ he => he).trans wf1 k5 fun _ _ he => he
    have m0 : ∀ {g : Option Nat}, Ap (some g0) g → ∀ y, g = some y → ¬ (y = g0) := fun ha y hy he => ha g0 rfl (by rw [hy, he])
    have x5 : DX h5 d g0 gs gd' none none R { D with dur := goN D.bytes F D.waits D.dur i, waits := [], arms := [], off := true, taken := addW .i64 D.taken 1 } s dd' ⟨none, 0, 0⟩ ⟨none, 0, 0⟩ :=
      ⟨b5, x1.seen.keep k25 (m0 x1.a1), x1.dur.keep k25 (m0 x1.a2), OwT.nil, OwT.nil, by simp, x1.a1, x1.a2, Ap.nr _, Ap.nr _, x1.a5, Ap.nr _, Ap.nr _, Ap.nr _, Ap.nr _, Ap.nr _,
        fun y hy => by obtain ⟨r0, r1, r2, r3, r4⟩ := x1.ro y hy; exact ⟨r0, r1, r2, by simp, by simp⟩, fun y hy => Nat.lt_of_lt_of_le (x1.rlt y hy) k25.next⟩
    refine (c68 x5 (by have := (goN_ok ok F i).2; have := ok.m1; simp only; omega)).wf fun v h6 wf6 _ ⟨e6, nx⟩ => ⟨e6, rfl, ?_⟩
    have hD : goesD D F = { D with dur := goN D.bytes F D.waits D.dur i, seen := goN D.bytes F D.waits D.dur i, waits := [], arms := [], off := true, taken := addW .i64 D.taken 1 } := by
      unfold goesD; rw [hL]
    rw [hD]
    refine Nx.pre wf Nw.same nw1 (.inr (.inl rfl)) (.inr (.inl rfl)) (fun y hy => .inl hy) ?_ nx
    refine (k1.mono wf (S' := own g0 gs gd gw ga) fun y _ hy => ?_).trans wf k25 fun y _ hy => .inl hy
    rcases hy with hy | hy
    · exact .inl hy
    · exact .inr (.inr (.inl hy))
end
end Go.Proofs.Ytfkhjbfddeahaaa.kc

/- Contracts: which arms are due, and that they are struck. -/
set_option linter.unusedVariables false
namespace Go.Proofs.Ytfkhjbfddeahaaa.kc
open Go Go.Cn Go.Proofs Go.Proofs.Ytfkhjbfddeahaaa.vc

def Ar.due (x : Ar) : Bool := eqI x.left 0

theorem c97 (x : Ar) (h : Hp) : C 97 [.agg x.enc.toArray] h fun v h' => v = .bool x.due ∧ Kept h h' := by
  refine SCalls_of_vw fol (pf := pf) (shp := shp97) (f := 97) (fn := Try.f97) (by kernel_rfl) (c := Try.f97.body.getD .skip) (by kernel_rfl) (by kernel_rfl) fun wf => ?_
  show vBody Try.prog C pf shp97 Try.f97 (Try.f97.body.getD .skip) [.agg #[.int .u8 x.on, .int .i64 x.nth, .bool x.pw, .slice x.fa x.fl x.fc, .int .i64 x.left]] h _
  rw [vc97]
  intro h1 e1
  obtain ⟨b1, k1, n1, wf1⟩ := new_blk wf e1
  exact ⟨rfl, x.left, ⟨rfl, b1.one rfl⟩, rfl, k1⟩

/-- The place of the first that is due. -/
def First (L : List Ar) (n : Int) : Prop :=
  (∃ (i : Nat) (x : Ar), n = (i : Int) ∧ L[i]? = some x ∧ x.due = true ∧ ∀ (j : Nat) y, j < i → L[j]? = some y → y.due = false) ∨ (n = -1 ∧ ∀ y ∈ L, y.due = false)

theorem c98 {h : Hp} {G : Option Nat} {a : Option Addr} {l c : Nat} {L : List Ar} (s : SlT Ar.enc 5 h G a l c L) (hl : l ≤ 8589934592) :
    C 98 [.slice a l c, .func (.func 97) #[] #[]] h fun v h' => (∃ n, v = .int .i64 n ∧ First L n) ∧ Kept h h' := by
  refine SCalls_of_vw fol (pf := pf) (shp := shp98) (f := 98) (fn := Try.f98) (by kernel_rfl) (c := Try.f98.body.getD .skip) (by kernel_rfl) (by kernel_rfl) fun wf => ?_
  rw [vc98]
  have hL := s.len
  refine ⟨fun vals m hh => ∃ i : Nat, [.int .i64 i] = vals ∧ i ≤ l ∧ m = l - i ∧ Wf hh ∧ Kept h hh ∧ ∀ (j : Nat) y, j < i → L[j]? = some y → y.due = false, ⟨l, 0, rfl, by omega, rfl, wf, Keep.refl _ _, by omega⟩, ?_⟩
  rintro n m hh ⟨i, e, hi, rfl, wf1, k1, hno⟩
  simp at e; subst e
  split
  · rename_i hlt
    have hlt : i < l := by rw [ltI_iff] at hlt; simp only [natI] at hlt; omega
    have hx : L[i]? = some (L[i]'(by omega)) := List.getElem?_eq_getElem _
    generalize L[i]'(by omega) = x at hx
    obtain ⟨i1, i2⟩ := (s.keep k1 fun _ _ hf => hf).get Ar.w hx (j := 0) (m := 5) (by omega)
    refine ⟨⟨i1, by simp [inR]; omega⟩, _, _, _, _, _, _, _, ⟨rfl, i2.trans rfl⟩, ?_⟩
    refine (c97 x hh).wf fun v h2 wf2 _ ⟨e, k2⟩ => ⟨_, e, ?_⟩
    have k12 := k1.trans wf k2 fun _ _ hf => hf
    split
    · rename_i hd
      exact ⟨⟨_, rfl, .inl ⟨i, x, rfl, hx, hd, hno⟩⟩, k12⟩
    · rename_i hd
      refine ⟨l - (i + 1), by simp only [lessN]; omega, i + 1, by rw [addW_small (by omega) (by omega)]; rfl, by omega, rfl, wf2, k12, fun j y hj hy => ?_⟩
      by_cases hji : j = i
      · subst hji; rw [hx] at hy; simp at hy; subst hy; simpa using hd
      · exact hno j y (by omega) hy
  · rename_i hlt
    have hil : i = l := by rw [ltI_iff] at hlt; simp only [natI] at hlt; omega
    refine ⟨⟨_, rfl, .inr ⟨rfl, fun y hy => ?_⟩⟩, k1⟩
    obtain ⟨j, hj⟩ := List.getElem?_of_mem hy
    exact hno j y (by have := (List.getElem?_eq_some_iff.mp hj).1; omega) hj

theorem zero108 : ∃ z, zero? Try.prog 108 = some z ∧ plainV 100 z = true ∧ z.cells.toList = [.int .u8 0, .int .i64 0, .bool false, .slice none 0 0, .int .i64 0] := ⟨.agg #[.int .u8 0, .int .i64 0, .bool false, .slice none 0 0, .int .i64 0], by kernel_rfl, by rfl, rfl⟩

theorem flat_set {α : Type} {enc : α → List Value} {w : Nat} (hw : ∀ x, (enc x).length = w) {L : List α} {i : Nat} (hi : i < L.length) (x : α) : splice (L.flatMap enc) (i * w) (enc x) = (L.set i x).flatMap enc := by
  induction L generalizing i with
  | nil => simp at hi
  | cons y L ih =>
    cases i with
    | zero =>
      simp only [splice, List.flatMap_cons, List.set_cons_zero, Nat.zero_mul, List.take_zero, List.nil_append, Nat.zero_add]
      rw [hw, List.drop_append, List.drop_eq_nil_of_le (by rw [hw]; exact Nat.le_refl _), hw, Nat.sub_self, List.drop_zero, List.nil_append]
    | succ i =>
      have := ih (i := i) (by simpa using hi)
      simp only [splice, List.flatMap_cons, List.set_cons_succ] at this ⊢
      rw [← this]
      have hy := hw y
      have hx := hw x
      rw [show (i + 1) * w = (enc y).length + i * w by rw [hy, Nat.succ_mul]; omega, List.take_append, List.take_of_length_le (by omega), show (enc y).length + i * w - (enc y).length = i * w by omega,
        Nat.add_assoc, List.drop_append, List.drop_eq_nil_of_le (by omega), show (enc y).length + (i * w + (enc x).length) - (enc y).length = i * w + (enc x).length by omega]
      simp [List.append_assoc]

theorem flat_take {α : Type} {enc : α → List Value} {w : Nat} (hw : ∀ x, (enc x).length = w) (L : List α) (i : Nat) : (L.flatMap enc).take (i * w) = (L.take i).flatMap enc := by
  induction L generalizing i with
  | nil => simp
  | cons y L ih =>
    cases i with
    | zero => simp
    | succ i =>
      simp only [List.flatMap_cons, List.take_succ_cons]
      rw [show (i + 1) * w = (enc y).length + i * w by rw [hw, Nat.succ_mul]; omega, List.take_append, List.take_of_length_le (by omega), show (enc y).length + i * w - (enc y).length = i * w by omega, ih]

def nd (x : Ar) : Bool := !x.due

/-- slices.DeleteFunc of the arms that are due. -/
theorem c99 {h : Hp} {ga : Option Nat} {s : Sv} {L : List Ar} (o : OwT Ar.enc 5 h ga s L) (hl : s.l ≤ 8589934592) :
    C 99 [s.v, .func (.func 97) #[] #[]] h fun v h' => ∃ s', v = Sv.v s' ∧ OwT Ar.enc 5 h' ga s' (L.filter nd) ∧ Keep (fun y => ga = some y) h h' := by
  refine SCalls_of_vw fol (pf := pf) (shp := shp99) (f := 99) (fn := Try.f99) (by kernel_rfl) (c := Try.f99.body.getD .skip) (by kernel_rfl) (by kernel_rfl) fun wf => ?_
  rw [vc99]
  have hL := o.2
  refine (c98 o.slT hl).wf fun v h1 wf1 _ ⟨⟨n, e, hF⟩, k1⟩ => ⟨_, e, ?_⟩
  have o1 := o.keep k1 fun _ _ hf => hf
  have kk1 : Keep (fun y => ga = some y) h h1 := k1.mono wf fun _ _ hf => hf.elim
  rcases hF with ⟨i0, x0, rfl, hx0, hd0, hno⟩ | ⟨rfl, hno⟩
  · have hi0 := (List.getElem?_eq_some_iff.mp hx0).1
    rw [if_neg (by rw [eqI_iff]; omega)]
    have hfirst : (L.take (i0 + 1)).filter nd = L.take i0 := by
      rw [List.take_add_one, hx0, List.filter_append]
      have e1 : (L.take i0).filter nd = L.take i0 := by
        rw [List.filter_eq_self]
        intro y hy
        obtain ⟨j, hj⟩ := List.getElem?_of_mem hy
        rw [List.getElem?_take] at hj
        split at hj
        · rename_i hji; simp [nd, hno j y hji hj]
        · simp at hj
      rw [e1]; simp [nd, hd0]
    refine ⟨fun vals m hh => ∃ (i j : Nat) (M : List Ar), [.int .i64 i, .int .i64 j] = vals ∧ j ≤ s.l ∧ m = s.l - j ∧ Wf hh ∧ Keep (fun y => ga = some y) h hh ∧ OwT Ar.enc 5 hh ga s M ∧ M.take i = (L.take j).filter nd ∧ i < j ∧
        (∀ q, j ≤ q → M[q]? = L[q]?), ⟨_, i0, i0 + 1, L, by rw [addW_small (by omega) (by omega)]; rfl, by omega, rfl, wf1, kk1, o1, hfirst.symm, by omega, fun _ _ => rfl⟩, ?_⟩
    rintro n1 n2 m hh ⟨i, j, M, e, hj, rfl, wf2, k2, o2, hM, hij, hrest⟩
    simp at e
    obtain ⟨rfl, rfl⟩ := e
    have hMl := o2.2
    split
    · rename_i hlt
      have hlt : j < s.l := by rw [ltI_iff] at hlt; simp only [natI] at hlt; omega
      have hx : L[j]? = some (L[j]'(by omega)) := List.getElem?_eq_getElem _
      generalize L[j]'(by omega) = x at hx
      have hxM : M[j]? = some x := by rw [hrest j (Nat.le_refl _)]; exact hx
      obtain ⟨i1, i2⟩ := o2.slT.get Ar.w hxM (j := 0) (m := 5) (by omega)
      refine ⟨⟨i1, by simp [inR]; omega⟩, _, _, _, _, _, _, _, ⟨rfl, i2.trans rfl⟩, ?_⟩
      intro h3 e3
      obtain ⟨b3, k3, n3, wf3⟩ := new_blk wf2 e3
      obtain ⟨h4, e4, b4, k4, _, n4, wf4⟩ := set_blk wf3 b3 k3 wf2 (Nat.le_refl _) (vs := x.enc) rfl rfl
      refine ⟨rfl, h4, e4, ?_⟩
      (repeat' first | refine ⟨rfl, ?_⟩ | refine ⟨fun _ => rfl, ?_⟩ | refine ⟨_, ⟨rfl, (Blk.cells (by assumption) (Nat.le_of_ble_eq_true rfl)).trans rfl⟩, ?_⟩ | refine ⟨_, fun _ => ⟨rfl, (Blk.cells (by assumption) (Nat.le_of_ble_eq_true rfl)).trans rfl⟩, ?_⟩ | refine ⟨_, _, ⟨rfl, (Blk.cells (by assumption) (Nat.le_of_ble_eq_true rfl)).trans rfl⟩, ?_⟩ | refine ⟨_, _, fun _ => ⟨rfl, (Blk.cells (by assumption) (Nat.le_of_ble_eq_true rfl)).trans rfl⟩, ?_⟩ | refine ⟨_, _, _, ⟨rfl, (Blk.cells (by assumption) (Nat.le_of_ble_eq_true rfl)).trans rfl⟩, ?_⟩ | refine ⟨_, _, _, fun _ => ⟨rfl, (Blk.cells (by assumption) (Nat.le_of_ble_eq_true rfl)).trans rfl⟩, ?_⟩ | refine ⟨_, _, _, _, ⟨rfl, (Blk.cells (by assumption) (Nat.le_of_ble_eq_true rfl)).trans rfl⟩, ?_⟩ | refine ⟨_, _, _, _, fun _ => ⟨rfl, (Blk.cells (by assumption) (Nat.le_of_ble_eq_true rfl)).trans rfl⟩, ?_⟩ | refine ⟨_, _, _, _, _, ⟨rfl, (Blk.cells (by assumption) (Nat.le_of_ble_eq_true rfl)).trans rfl⟩, ?_⟩ | refine ⟨_, _, _, _, _, fun _ => ⟨rfl, (Blk.cells (by assumption) (Nat.le_of_ble_eq_true rfl)).trans rfl⟩, ?_⟩ | refine ⟨_, _, _, _, _, _, ⟨rfl, (Blk.cells (by assumption) (Nat.le_of_ble_eq_true rfl)).trans rfl⟩, ?_⟩ | refine ⟨_, _, _, _, _, _, fun _ => ⟨rfl, (Blk.cells (by assumption) (Nat.le_of_ble_eq_true rfl)).trans rfl⟩, ?_⟩ | refine ⟨_, _, _, _, _, _, _, ⟨rfl, (Blk.cells (by assumption) (Nat.le_of_ble_eq_true rfl)).trans rfl⟩, ?_⟩ | refine ⟨_, _, _, _, _, _, _, fun _ => ⟨rfl, (Blk.cells (by assumption) (Nat.le_of_ble_eq_true rfl)).trans rfl⟩, ?_⟩ | refine ⟨_, _, _, _, _, _, _, _, ⟨rfl, (Blk.cells (by assumption) (Nat.le_of_ble_eq_true rfl)).trans rfl⟩, ?_⟩ | refine ⟨_, _, _, _, _, _, _, _, fun _ => ⟨rfl, (Blk.cells (by assumption) (Nat.le_of_ble_eq_true rfl)).trans rfl⟩, ?_⟩ | fail)
      refine (c97 x h4).wf fun v h5 wf5 _ ⟨e, k5⟩ => ⟨_, e, ?_⟩
      have b5 := Keep.blk k5 b4 fun _ _ hf => hf
      have k25 : Kept hh h5 := k4.trans wf2 k5 fun _ _ hf => hf
      have o5 := o2.keep k25 fun _ _ hf => hf
      have kh5 : Keep (fun y => ga = some y) h h5 := k2.trans wf k25 fun _ _ hf => hf.elim
      have ej : addW .i64 (j : Int) 1 = ((j + 1 : Nat) : Int) := by rw [addW_small (by omega) (by omega)]; rfl
      have ei : addW .i64 (i : Int) 1 = ((i + 1 : Nat) : Int) := by rw [addW_small (by omega) (by omega)]; rfl
      have htake : (L.take (j + 1)).filter nd = (L.take j).filter nd ++ (if x.due = true then [] else [x]) := by
        rw [List.take_add_one, hx, List.filter_append]
        cases hd : x.due <;> simp [nd, hd]
      split
      · rename_i hnd
        have hnd : x.due = false := notB_iff.mp hnd
        (repeat' first | refine ⟨rfl, ?_⟩ | refine ⟨fun _ => rfl, ?_⟩ | refine ⟨_, ⟨rfl, (Blk.cells (by assumption) (Nat.le_of_ble_eq_true rfl)).trans rfl⟩, ?_⟩ | refine ⟨_, fun _ => ⟨rfl, (Blk.cells (by assumption) (Nat.le_of_ble_eq_true rfl)).trans rfl⟩, ?_⟩ | refine ⟨_, _, ⟨rfl, (Blk.cells (by assumption) (Nat.le_of_ble_eq_true rfl)).trans rfl⟩, ?_⟩ | refine ⟨_, _, fun _ => ⟨rfl, (Blk.cells (by assumption) (Nat.le_of_ble_eq_true rfl)).trans rfl⟩, ?_⟩ | refine ⟨_, _, _, ⟨rfl, (Blk.cells (by assumption) (Nat.le_of_ble_eq_true rfl)).trans rfl⟩, ?_⟩ | refine ⟨_, _, _, fun _ => ⟨rfl, (Blk.cells (by assumption) (Nat.le_of_ble_eq_true rfl)).trans rfl⟩, ?_⟩ | refine ⟨_, _, _, _, ⟨rfl, (Blk.cells (by assumption) (Nat.le_of_ble_eq_true rfl)).trans rfl⟩, ?_⟩ | refine ⟨_, _, _, _, fun _ => ⟨rfl, (Blk.cells (by assumption) (Nat.le_of_ble_eq_true rfl)).trans rfl⟩, ?_⟩ | refine ⟨_, _, _, _, _, ⟨rfl, (Blk.cells (by assumption) (Nat.le_of_ble_eq_true rfl)).trans rfl⟩, ?_⟩ | refine ⟨_, _, _, _, _, fun _ => ⟨rfl, (Blk.cells (by assumption) (Nat.le_of_ble_eq_true rfl)).trans rfl⟩, ?_⟩ | refine ⟨_, _, _, _, _, _, ⟨rfl, (Blk.cells (by assumption) (Nat.le_of_ble_eq_true rfl)).trans rfl⟩, ?_⟩ | refine ⟨_, _, _, _, _, _, fun _ => ⟨rfl, (Blk.cells (by assumption) (Nat.le_of_ble_eq_true rfl)).trans rfl⟩, ?_⟩ | refine ⟨_, _, _, _, _, _, _, ⟨rfl, (Blk.cells (by assumption) (Nat.le_of_ble_eq_true rfl)).trans rfl⟩, ?_⟩ | refine ⟨_, _, _, _, _, _, _, fun _ => ⟨rfl, (Blk.cells (by assumption) (Nat.le_of_ble_eq_true rfl)).trans rfl⟩, ?_⟩ | refine ⟨_, _, _, _, _, _, _, _, ⟨rfl, (Blk.cells (by assumption) (Nat.le_of_ble_eq_true rfl)).trans rfl⟩, ?_⟩ | refine ⟨_, _, _, _, _, _, _, _, fun _ => ⟨rfl, (Blk.cells (by assumption) (Nat.le_of_ble_eq_true rfl)).trans rfl⟩, ?_⟩ | fail)
        refine ⟨⟨i1, by simp [inR]; omega⟩, rfl, ?_⟩
        obtain ⟨_, h6, e6, o6, k6, n6, w6⟩ := o5.1.store (i := i * 5) (vs := x.enc) (by have := Ar.w x; omega) (by omega) rfl
        rw [flat_set Ar.w (by omega)] at o6
        refine ⟨h6, e6, s.l - (j + 1), by simp only [lessN]; omega, i + 1, j + 1, M.set i x, by rw [ej, ei], by omega, rfl, w6 wf5, kh5.trans wf k6 (fun _ _ hg => hg), ⟨o6, by rw [List.length_set]; exact hMl⟩, ?_, by omega, fun q hq => ?_⟩
        · rw [htake, ← hM, List.take_add_one, List.take_set_of_le (Nat.le_refl _)]
          simp [hnd, show i < M.length by omega]
        · rw [List.getElem?_set_ne (by omega)]; exact hrest q (by omega)
      · rename_i hnd
        have hd : x.due = true := by cases hx : x.due with | true => rfl | false => rw [hx] at hnd; simp [notB] at hnd
        refine ⟨s.l - (j + 1), by simp only [lessN]; omega, i, j + 1, M, by rw [ej], by omega, rfl, wf5, kh5, o5, by rw [htake, hM]; simp [hd], by omega, fun q hq => hrest q (by omega)⟩
    · rename_i hlt
      have hjl : j = s.l := by rw [ltI_iff] at hlt; simp only [natI] at hlt; omega
      have hfull : (L.take j).filter nd = L.filter nd := by rw [List.take_of_length_le (by omega)]
      rw [hfull] at hM
      have hle := o2.1.sl.le
      have hspot : spotOk 5 s.a := by
        have := o2.1.sl.mem
        cases hsa : s.a with
        | none => trivial
        | some q => rw [hsa] at this; exact this.1
      obtain ⟨z, z1, z2, z3⟩ := zero108
      have hzl : (zeroCells z.cells.toList (s.l - i)).length = (s.l - i) * 5 := by rw [zeroCells_len, z3]; rfl
      have hzc : (zeroCells z.cells.toList (s.l - i)).all isCell = true := by
        rw [List.all_eq_true]; intro v hv
        have := zeroCells_mem hv
        rw [z3] at this
        simp at this
        rcases this with rfl | rfl | rfl | rfl | rfl <;> rfl
      obtain ⟨i1, h6, e6, o6, k6, n6, w6⟩ := o2.1.store (i := i * 5) (vs := zeroCells z.cells.toList (s.l - i)) (by rw [hzl, ← Nat.add_mul]; exact Nat.mul_le_mul_right 5 (by omega)) (by omega) hzc
      have hclear : cclear Try.prog 99 (.slice (cutA (i : Int) 5 s.a) (diffN (natI s.l) (i : Int)) (diffN (natI s.c) (i : Int))) hh = some (.tuple #[], h6) := by
        obtain ⟨q, hq⟩ := Option.isSome_iff_exists.mp i1
        obtain ⟨qb, qo, qs⟩ := q
        rw [hq] at e6
        have e7 : diffN (natI s.l) (i : Int) = s.l - i := by simp [diffN, natI]
        rw [hq, e7]
        simp only [cutA, Option.map_some]
        unfold cclear
        rw [Try.underlying99]
        dsimp only
        rw [if_neg (by omega), z1]
        dsimp only
        rw [if_pos z2]
        have e8 : qo + (i : Int).toNat * 5 = off (some (Addr.mk qb qo qs)) + i * 5 := by simp [off]
        rw [e8]
        have e9 : hh.store qb (off (some (Addr.mk qb qo qs)) + i * 5) (zeroCells z.cells.toList (s.l - i)) = some h6 := e6
        rw [e9]; rfl
      refine ⟨⟨by simp only [cutOk, natI]; omega, hspot⟩, h6, hclear, ⟨by simp only [cutOk, natI]; omega, hspot⟩, ?_⟩
      have e9 : cutA 0 5 s.a = s.a := by cases s.a with | none => rfl | some q => simp [cutA]
      have e10 : diffN (i : Int) 0 = i := by simp [diffN]
      have e11 : diffN (natI s.c) 0 = s.c := by simp [diffN, natI]
      rw [e9, e10, e11]
      have hcut := o6.cut (k := i) (by omega)
      have hli : (L.filter nd).length = i := by rw [← hM, List.length_take]; omega
      refine ⟨⟨s.a, i, s.c⟩, rfl, ⟨?_, hli⟩, k2.trans wf k6 fun _ _ hg => hg⟩
      have e12 : (splice (M.flatMap Ar.enc) (i * 5) (zeroCells z.cells.toList (s.l - i))).take (i * 5) = (L.filter nd).flatMap Ar.enc := by
        rw [← hM, ← flat_take Ar.w]
        simp only [splice]
        rw [List.append_assoc, List.take_append_of_le_length (by rw [List.length_take, flat_len Ar.w]; omega), List.take_take, Nat.min_self]
      rw [e12] at hcut
      exact hcut
  · rw [if_pos (by rw [eqI_iff])]
    have : L.filter nd = L := by rw [List.filter_eq_self]; intro y hy; simp [nd, hno y hy]
    rw [this]
    exact ⟨s, rfl, o1, kk1⟩
end Go.Proofs.Ytfkhjbfddeahaaa.kc

/- Contracts: act. -/
set_option linter.unusedVariables false
namespace Go.Proofs.Ytfkhjbfddeahaaa.kc
open Go Go.Cn Go.Proofs Go.Proofs.Ytfkhjbfddeahaaa.vc

/-- Cells of one element are written. -/
theorem flat_set_in {α : Type} {enc : α → List Value} {w : Nat} (hw : ∀ x, (enc x).length = w) {L : List α} {i j : Nat} {x x' : α} {vs : List Value} (hx : L[i]? = some x) (hj : j + vs.length ≤ w) (he : enc x' = splice (enc x) j vs) :
    splice (L.flatMap enc) (i * w + j) vs = (L.set i x').flatMap enc := by
  induction L generalizing i with
  | nil => simp at hx
  | cons y L ih =>
    have hy := hw y
    cases i with
    | zero =>
      simp at hx; subst hx
      simp only [List.flatMap_cons, List.set_cons_zero, Nat.zero_mul, Nat.zero_add, he, splice]
      rw [List.take_append_of_le_length (by omega), List.drop_append_of_le_length (by omega)]
      simp [List.append_assoc]
    | succ i =>
      have := ih (i := i) (by simpa using hx)
      simp only [splice, List.flatMap_cons, List.set_cons_succ] at this ⊢
      rw [← this]
      rw [show (i + 1) * w + j = (enc y).length + (i * w + j) by rw [hy, Nat.succ_mul]; omega, List.take_append, List.take_of_length_le (by omega), show (enc y).length + (i * w + j) - (enc y).length = i * w + j by omega,
        Nat.add_assoc, List.drop_append, List.drop_eq_nil_of_le (by omega), show (enc y).length + ((i * w + j) + vs.length) - (enc y).length = (i * w + j) + vs.length by omega]
      simp [List.append_assoc]

def Ar.dec (kind : Int) (x : Ar) : Ar := if sel (eqI x.on 0) true (eqI x.on kind) = true then { x with left := subW .i64 x.left 1 } else x
theorem Ar.dec_fa (kind : Int) (x : Ar) : (x.dec kind).fa = x.fa ∧ (x.dec kind).fl = x.fl ∧ (x.dec kind).fc = x.fc ∧ (x.dec kind).fates = x.fates := by unfold Ar.dec; split <;> exact ⟨rfl, rfl, rfl, rfl⟩
def struck (kind : Int) (L : List Ar) (i : Nat) : List Ar := (L.take i).map (Ar.dec kind) ++ L.drop i

theorem struck_zero (kind : Int) (L : List Ar) : struck kind L 0 = L := by simp [struck]
theorem struck_all (kind : Int) (L : List Ar) : struck kind L L.length = L.map (Ar.dec kind) := by simp [struck]
theorem struck_len (kind : Int) {L : List Ar} {i : Nat} (hi : i ≤ L.length) : (struck kind L i).length = L.length := by simp [struck]; omega
theorem struck_get (kind : Int) {L : List Ar} {i : Nat} (hi : i < L.length) : (struck kind L i)[i]? = L[i]? := by
  unfold struck
  rw [List.getElem?_append_right (by simp; omega)]
  simp [List.getElem?_drop]
  congr 1; omega
theorem struck_succ (kind : Int) {L : List Ar} {i : Nat} {x : Ar} (hx : L[i]? = some x) : struck kind L (i + 1) = (struck kind L i).set i (x.dec kind) := by
  obtain ⟨hi, hv⟩ := List.getElem?_eq_some_iff.mp hx
  unfold struck
  have e1 : L.drop i = x :: L.drop (i + 1) := by rw [List.drop_eq_getElem_cons hi, hv]
  have e2 : ((L.take i).map (Ar.dec kind)).length = i := by simp; omega
  rw [e1, List.set_append_right _ _ (by omega), e2, Nat.sub_self, List.set_cons_zero, List.take_add_one, hx]
  simp

theorem First.find {L : List Ar} {n : Int} (f : First L n) : (∃ (i : Nat) (x : Ar), n = (i : Int) ∧ L[i]? = some x ∧ L.find? Ar.due = some x) ∨ (n = -1 ∧ L.find? Ar.due = none) := by
  rcases f with ⟨i, x, rfl, hx, hd, hno⟩ | ⟨rfl, hno⟩
  · refine .inl ⟨i, x, rfl, hx, ?_⟩
    obtain ⟨hi, hv⟩ := List.getElem?_eq_some_iff.mp hx
    rw [List.find?_eq_some_iff_getElem]
    refine ⟨hd, i, hi, hv, fun j hj => ?_⟩
    have := hno j (L[j]'(by omega)) hj (List.getElem?_eq_getElem _)
    rw [this]; rfl
  · refine .inr ⟨rfl, ?_⟩
    rw [List.find?_eq_none]
    intro y hy; rw [hno y hy]; simp

theorem Nw.up {h h1 : Hp} {g' g : Option Nat} (n : Nw h1 g' g) (hn : h.next ≤ h1.next) : Nw h g' g := Nw.trans hn Nw.same n

def Wt.good (k M : Nat) (x : Wt) : Prop := (x.act = 1 ∧ 0 ≤ x.page ∧ x.page < M ∧ x.data.size = 8 * k) ∨ (x.act = 2 ∧ 0 ≤ x.pages ∧ x.pages ≤ M)

/-- What act does. -/
def actD (D : Dk) (kind refused : Int) (adds : List Wt) : Dk × Int :=
  match (D.arms.map (Ar.dec kind)).find? Ar.due with
  | none => ({ D with arms := D.arms.map (Ar.dec kind), waits := D.waits ++ adds }, 0)
  | some z => if z.pw = true then (goesD { D with arms := (D.arms.map (Ar.dec kind)).filter nd, waits := D.waits ++ adds } z.fates, 7) else ({ D with arms := (D.arms.map (Ar.dec kind)).filter nd }, refused)

section
variable {h : Hp} {d g0 : Nat} {gs gd gw ga : Option Nat} {R : Nat → Prop} {D : Dk} {s dd w a : Sv}

/-- What waits grows. -/
theorem waits_app (wf : Wf h) (x : DX h d g0 gs gd gw ga R D s dd w a) {G : Option Nat} {aa : Option Addr} {al ac : Nat} {adds : List Wt} (sa : SlT Wt.enc 4 h G aa al ac adds) (hW : D.waits.length + adds.length ≤ 8589934592) :
    ∃ a' m n h1 h2, cappend Try.prog 98 98 (.slice w.a w.l w.c) (.slice aa al ac) h = some (.slice a' m n, h1) ∧ h1.store d 6 [.slice a' m n] = some h2 ∧
      ∃ gw' w', DX h2 d g0 gs gd gw' ga R { D with waits := D.waits ++ adds } s dd w' a ∧ Nw h gw' gw ∧ Keep (fun y => y = g0 ∨ gw = some y) h h2 ∧ Wf h2 := by
  have hcell : (adds.flatMap Wt.enc).all isCell = true := by
    simp only [List.all_eq_true, List.mem_flatMap]
    rintro v ⟨x, _, hv⟩
    exact List.all_eq_true.mp (Wt.c x) v hv
  have hl := sa.len
  have hwl := x.waits.2
  obtain ⟨a', c', gw', h1, e1, o1, nw1, k1, wf1⟩ := Ow.append wf app98 x.waits.1 (dataOf_sl sa.sl) sa.sl.len hcell (room (by omega) (by omega))
  have b1 : Blk h1 d (some g0) (dcells D s dd w a) := k1.blk x.blk fun y hy he => x.a3 y hy he
  obtain ⟨h2, e2, b2, k2, n2, w2⟩ := b1.set (o := 6) (v := .slice a' (w.l + al) c') (by simp [dcells]) rfl
  refine ⟨a', _, c', h1, h2, e1, e2, gw', ⟨a', w.l + al, c'⟩, ?_, Nw.of nw1, ?_, w2 wf1⟩
  · exact x.setWaits wf k1 ⟨by rw [List.flatMap_append]; exact o1, by simp [hl, hwl]⟩ (Nw.of nw1) k2 b2
  · exact (k1.mono wf fun y _ hy => .inr hy).trans wf k2 fun y _ hy => .inl hy

theorem c73 {k M : Nat} (x : DX h d g0 gs gd gw ga R D s dd w a) (ok : D.ok k M) {kind refused : Int} {G : Option Nat} {aa : Option Addr} {al ac : Nat} {adds : List Wt} (sa : SlT Wt.enc 4 h G aa al ac adds) (hG : ∀ y, G = some y → ¬ own g0 gs gd gw ga y ∧ y < h.next)
    (hA : D.arms.length ≤ 64) (hF : ∀ z ∈ D.arms, z.fates.length ≤ 8589934592) (hW : D.waits.length + adds.length ≤ 8589934592) (okA : ∀ x ∈ adds, x.good k M) :
    C 73 [.pointer (some ⟨d, 0, none⟩), .int .u8 kind, .int .i64 refused, .slice aa al ac] h fun v h' => v = .int .i64 (actD D kind refused adds).2 ∧ Nx h d g0 gs gd gw ga R (actD D kind refused adds).1 h' := by
  refine SCalls_of_vw fol (pf := pf) (shp := shp73) (f := 73) (fn := Try.f73) (by kernel_rfl) (c := Try.f73.body.getD .skip) (by kernel_rfl) (by kernel_rfl) fun wf => ?_
  rw [vc73]
  have b := x.blk
  obtain ⟨l0, l1, l2, l3, l4⟩ := x.lts wf
  have hal := x.arms.2
  refine ⟨rfl, rfl, a.a, a.l, a.c, ⟨rfl, b.one rfl⟩, ?_⟩
  refine ⟨fun vals m hh => ∃ i : Nat, [.int .i64 i] = vals ∧ i ≤ a.l ∧ m = a.l - i ∧ Wf hh ∧ Keep (fun y => ga = some y) h hh ∧ OwT Ar.enc 5 hh ga a (struck kind D.arms i), ⟨a.l, 0, rfl, Nat.zero_le _, rfl, wf, Keep.refl _ _, by rw [struck_zero]; exact x.arms⟩, ?_⟩
  rintro n m hh ⟨i, e, hi, rfl, wf1, k1, o1⟩
  simp at e; subst e
  have b1 : Blk hh d (some g0) (dcells D s dd w a) := k1.blk b fun y hy he => x.a4 y hy he
  split
  · rename_i hlt
    have hlt : i < a.l := by rw [ltI_iff] at hlt; simp only [natI] at hlt; omega
    have hz : D.arms[i]? = some (D.arms[i]'(by omega)) := List.getElem?_eq_getElem _
    generalize D.arms[i]'(by omega) = z at hz
    have hzs : (struck kind D.arms i)[i]? = some z := by rw [struck_get kind (by omega)]; exact hz
    obtain ⟨i1, i2⟩ := o1.slT.get Ar.w hzs (j := 0) (m := 1) (by omega)
    obtain ⟨_, i3⟩ := o1.slT.get Ar.w hzs (j := 4) (m := 1) (by omega)
    have hin : inR (i : Int) a.l := by simp only [inR]; omega
    have next : addW .i64 (i : Int) 1 = ((i + 1 : Nat) : Int) := by rw [addW_small (by omega) (by omega)]; rfl
    have hsl : (struck kind D.arms (i + 1)).length = a.l := by rw [struck_len kind (by omega)]; exact hal
    refine ⟨rfl, rfl, a.a, a.l, a.c, ⟨rfl, b1.one rfl⟩, ⟨i1, hin⟩, rfl, rfl, z.on, ⟨rfl, i2.trans rfl⟩, fun _ => rfl, fun _ => rfl, a.a, a.l, a.c, fun _ => ⟨rfl, b1.one rfl⟩, fun _ => ⟨i1, hin⟩, fun _ => rfl, fun _ => rfl, z.on, fun _ => ⟨rfl, i2.trans rfl⟩, ?_⟩
    split
    · rename_i hd
      have hofs : plusN (plusI (off a.a) (i : Int) 5) 4 = off a.a + (i * 5 + 4) := by simp [plusN, plusI]; omega
      have hlen : (struck kind D.arms i).length = a.l := o1.2
      obtain ⟨_, h4, e4, o4, k4, n4, w4⟩ := o1.1.store (i := i * 5 + 4) (vs := [.int .i64 (subW .i64 z.left 1)]) (by simp; omega) (by omega) rfl
      rw [flat_set_in Ar.w (x' := z.dec kind) hzs (Nat.le_refl _) (by unfold Ar.dec; rw [if_pos hd]; rfl), ← struck_succ kind hz] at o4
      refine ⟨rfl, rfl, a.a, a.l, a.c, ⟨rfl, b1.one rfl⟩, ⟨i1, hin⟩, rfl, z.left, ⟨rfl, i3.trans rfl⟩, ⟨i1, hin⟩, rfl, rfl, h4, by rw [hofs]; exact e4, a.l - (i + 1), by simp only [lessN]; omega, i + 1, by rw [next], by omega, rfl, w4 wf1, k1.trans wf k4 (fun _ _ hg => hg), ⟨o4, hsl⟩⟩
    · rename_i hd
      refine ⟨a.l - (i + 1), by simp only [lessN]; omega, i + 1, by rw [next], by omega, rfl, wf1, k1, ?_⟩
      rw [struck_succ kind hz]
      have : z.dec kind = z := by unfold Ar.dec; rw [if_neg hd]
      rw [this]
      obtain ⟨hi', hv⟩ := List.getElem?_eq_some_iff.mp hzs
      rw [← hv, List.set_getElem_self]
      exact o1
  · rename_i hlt
    have hil : i = a.l := by rw [ltI_iff] at hlt; simp only [natI] at hlt; omega
    have hst : struck kind D.arms i = D.arms.map (Ar.dec kind) := by rw [hil, ← hal, struck_all]
    rw [hst] at o1
    have x1 : DX hh d g0 gs gd gw ga R { D with arms := D.arms.map (Ar.dec kind) } s dd w a := x.setArms wf k1 o1 Nw.same (Keep.refl _ _) b1 (R' := R) (fun y hy => ⟨.inl hy, Nat.lt_of_lt_of_le (x.rlt y hy) k1.next, (x.ro y hy).2.2.2.2⟩) (fun z hz => by
      obtain ⟨z0, hz0, rfl⟩ := List.mem_map.mp hz
      obtain ⟨f1, f2, f3, f4⟩ := z0.dec_fa kind
      rw [f1, f2, f3, f4]
      obtain ⟨G, hG, sG⟩ := x.fates z0 hz0
      exact ⟨G, hG, sG.keep k1 fun y hy he => (x.ro y (hG y hy)).2.2.2.2 he⟩)
    refine ⟨rfl, rfl, a.a, a.l, a.c, ⟨rfl, b1.one rfl⟩, ?_⟩
    refine (c98 o1.slT (by omega)).wf fun v h2 wf2 _ ⟨⟨n, e, hF1⟩, k2⟩ => ⟨n, e, ?_⟩
    have x2 := x1.kept k2
    have k02 : Keep (own g0 gs gd gw ga) h h2 := (k1.mono wf (S' := own g0 gs gd gw ga) fun y _ hy => .inr (.inr (.inr (.inr hy)))).trans wf k2 fun _ _ hf => hf.elim
    have sa2 : SlT Wt.enc 4 h2 G aa al ac adds := sa.keep k02 fun y hy => (hG y hy).1
    rcases hF1.find with ⟨i0, z, rfl, hz, hfd⟩ | ⟨rfl, hfd⟩
    · have hneg : ¬ ltI (i0 : Int) 0 = true := by rw [ltI_iff]; omega
      rw [if_neg hneg]
      have hi0 := (List.getElem?_eq_some_iff.mp hz).1
      have hml : (D.arms.map (Ar.dec kind)).length = a.l := x2.arms.2
      obtain ⟨i1, i2⟩ := x2.arms.slT.get Ar.w hz (j := 0) (m := 5) (by omega)
      have hin : inR (i0 : Int) a.l := by simp only [inR]; omega
      refine ⟨rfl, rfl, a.a, a.l, a.c, ⟨rfl, x2.blk.one rfl⟩, ⟨i1, hin⟩, z.on, z.nth, z.pw, z.fa, z.fl, z.fc, z.left, ⟨rfl, i2.trans rfl⟩, ?_⟩
      intro h3 e3
      obtain ⟨b3, k3, n3, wf3⟩ := new_blk wf2 e3
      obtain ⟨h4, e4, b4, k4, _, n4, wf4⟩ := set_blk wf3 b3 k3 wf2 (Nat.le_refl _) (vs := z.enc) rfl rfl
      have x4 := x2.kept k4
      refine ⟨rfl, h4, e4, rfl, rfl, a.a, a.l, a.c, ⟨rfl, x4.blk.one rfl⟩, ?_⟩
      refine (c99 x4.arms (by omega)).wf fun v h5 wf5 _ ⟨s5, e, o5, k5⟩ => ⟨s5.a, s5.l, s5.c, e, rfl, rfl, rfl, ?_⟩
      have b5 : Blk h5 d (some g0) (dcells { D with arms := D.arms.map (Ar.dec kind) } s dd w a) := k5.blk x4.blk fun y hy he => x.a4 y hy he
      obtain ⟨h6, e6, b6, k6, n6, w6⟩ := b5.set (o := 7) (v := s5.v) (by simp [dcells]) rfl
      have x6 : DX h6 d g0 gs gd gw ga R { D with arms := (D.arms.map (Ar.dec kind)).filter nd } s dd w s5 := x4.setArms wf4 k5 o5 Nw.same k6 b6 (R' := R) (fun y hy => ⟨.inl hy, Nat.lt_of_lt_of_le (x4.rlt y hy) k5.next, (x.ro y hy).2.2.2.2⟩) (fun z hz => by
        obtain ⟨G, hG, sG⟩ := x4.fates z (List.mem_filter.mp hz).1
        exact ⟨G, hG, sG.keep k5 fun y hy he => (x.ro y (hG y hy)).2.2.2.2 he⟩)
      have l24 : ∀ y, ga = some y → y < h2.next := fun y hy => Nat.lt_of_lt_of_le (l4 y hy) k02.next
      have l20 : g0 < h2.next := Nat.lt_of_lt_of_le l0 k02.next
      have bl6 : Blk h6 h2.next (some h2.next) z.enc := k6.blk (k5.blk b4 fun y hy he => by simp at hy; have := l24 y he; omega) fun y hy he => by simp at hy; omega
      have k06 : Keep (own g0 gs gd gw ga) h h6 := ((k02.trans wf k4 fun _ _ hf => hf.elim).trans wf k5 fun y _ hy => .inr (.inr (.inr (.inr hy)))).trans wf k6 fun y _ hy => .inl hy
      refine ⟨h6, e6, rfl, rfl, z.pw, ⟨rfl, bl6.one rfl⟩, ?_⟩
      split
      · rename_i hp
        have hp : z.pw = false := notB_iff.mp hp
        have hact : actD D kind refused adds = ({ D with arms := (D.arms.map (Ar.dec kind)).filter nd }, refused) := by unfold actD; rw [hfd]; simp [hp]
        rw [hact]
        exact ⟨rfl, gs, gd, gw, ga, R, s, dd, w, s5, x6, Nw.same, Nw.same, Nw.same, Nw.same, fun _ hy => .inl hy, k06⟩
      · rename_i hp
        have hp : z.pw = true := by cases hq : z.pw with | true => rfl | false => rw [hq] at hp; simp [notB] at hp
        have hact : actD D kind refused adds = (goesD { D with arms := (D.arms.map (Ar.dec kind)).filter nd, waits := D.waits ++ adds } z.fates, 7) := by unfold actD; rw [hfd]; simp [hp]
        rw [hact]
        have sa6 : SlT Wt.enc 4 h6 G aa al ac adds := sa.keep k06 fun y hy => (hG y hy).1
        obtain ⟨a7, m7, n7, h7, h8, e7, e8, gw8, w8, x8, nw8, k8, wf8⟩ := waits_app (w6 wf5) x6 sa6 hW
        have bl8 : Blk h8 h2.next (some h2.next) z.enc := k8.blk bl6 fun y hy he => by
          simp at hy
          rcases he with he | he
          · omega
          · have := l3 y he; have := k02.next; omega
        refine ⟨rfl, rfl, w.a, w.l, w.c, ⟨rfl, x6.blk.one rfl⟩, a7, m7, n7, h7, e7, rfl, rfl, rfl, h8, e8, rfl, rfl, z.fa, z.fl, z.fc, ⟨rfl, bl8.one rfl⟩, ?_⟩
        have hzm := List.mem_of_getElem? hz
        obtain ⟨z0, hz0, hzz⟩ := List.mem_map.mp hzm
        obtain ⟨f1, f2, f3, f4⟩ := z0.dec_fa kind
        obtain ⟨Gf, hGf, sGf⟩ := x.fates z0 hz0
        have k08 : Keep (own g0 gs gd gw ga) h h8 := k06.trans wf k8 fun y _ hy => by rcases hy with hy | hy; exact .inl hy; exact .inr (.inr (.inr (.inl hy)))
        have sf8 : SlT encF 1 h8 Gf z.fa z.fl z.fc z.fates := by
          rw [← hzz, f1, f2, f3, f4]
          exact sGf.keep k08 fun y hy ho => by
            obtain ⟨r0, r1, r2, r3, r4⟩ := x.ro y (hGf y hy)
            rcases ho with ho | ho | ho | ho | ho
            · exact r0 ho
            · exact r1 ho
            · exact r2 ho
            · exact r3 ho
            · exact r4 ho
        have ok8 : Dk.ok k M { D with arms := (D.arms.map (Ar.dec kind)).filter nd, waits := D.waits ++ adds } := ⟨ok.by_, ok.k0, ok.k1, ok.m1, ok.most, ok.seenS, ok.durS, ok.seenL, ok.durL, fun y hy => by
          rcases List.mem_append.mp hy with hy | hy
          · exact ok.waits y hy
          · exact okA y hy⟩
        have hfl : z.fl ≤ 8589934592 := by rw [← sf8.len, ← hzz, f4]; exact hF z0 hz0
        refine (c63 x8 ok8 sf8 (fun y hy => ?_) hfl (by simp only [List.length_append]; exact hW)).wf fun v h9 wf9 _ ⟨e9, nx⟩ => ⟨e9, rfl, ?_⟩
        · obtain ⟨r0, r1, r2, r3, r4⟩ := x8.ro y (hGf y hy)
          refine ⟨fun ho => ?_, x8.rlt y (hGf y hy)⟩
          rcases ho with ho | ho | ho | ho | ho
          · exact r0 ho
          · exact r1 ho
          · exact r2 ho
          · exact r3 ho
          · exact r4 ho
        · exact Nx.pre wf Nw.same Nw.same (nw8.up k06.next) Nw.same (fun y hy => .inl hy) k08 nx
    · rw [if_pos (by rfl)]
      have hact : actD D kind refused adds = ({ D with arms := D.arms.map (Ar.dec kind), waits := D.waits ++ adds }, 0) := by unfold actD; rw [hfd]
      rw [hact]
      obtain ⟨a7, m7, n7, h7, h8, e7, e8, gw8, w8, x8, nw8, k8, wf8⟩ := waits_app wf2 x2 sa2 hW
      refine ⟨rfl, rfl, w.a, w.l, w.c, ⟨rfl, x2.blk.one rfl⟩, a7, m7, n7, h7, e7, rfl, rfl, rfl, h8, e8, rfl, gs, gd, gw8, ga, R, s, dd, w8, a, x8, Nw.same, Nw.same, nw8.up k02.next, Nw.same, fun _ hy => .inl hy, ?_⟩
      exact k02.trans wf k8 fun y _ hy => by rcases hy with hy | hy; exact .inl hy; exact .inr (.inr (.inr (.inl hy)))
end
end Go.Proofs.Ytfkhjbfddeahaaa.kc

/- Contracts: Write, Grow, Sync, Crash, Wake, Read, Take and the numbers. -/
set_option linter.unusedVariables false
namespace Go.Proofs.Ytfkhjbfddeahaaa.kc
open Go Go.Cn Go.Proofs Go.Proofs.Ytfkhjbfddeahaaa.vc

/-- All that is sound about a disk; N: how many may wait. -/
structure Dk.fit (k M N : Nat) (D : Dk) : Prop where
  ok : D.ok k M
  arms : D.arms.length ≤ 64
  fates : ∀ z ∈ D.arms, z.fates.length ≤ 8589934592
  waits : D.waits.length ≤ N

theorem new_one {α : Type} {enc : α → List Value} {w : Nat} (hw : ∀ x, (enc x).length = w) {h : Hp} {b : Nat} {g : Option Nat} {x : α} (hb : Blk h b g (enc x)) : SlT enc w h g (some ⟨b, 0, none⟩) 1 1 [x] :=
  ⟨⟨Nat.le_refl _, by simp [hw], .inl rfl, fun _ => ⟨_, hb, by rw [hw]; omega, by simp [← hw x]⟩⟩, rfl⟩

theorem actD_zero {D : Dk} {kind refused : Int} {adds : List Wt} (hr : refused ≠ 0) (h : (actD D kind refused adds).2 = 0) : (actD D kind refused adds).1 = { D with arms := D.arms.map (Ar.dec kind), waits := D.waits ++ adds } := by
  unfold actD at h ⊢
  split at h
  · rfl
  · split at h
    · simp at h
    · exact absurd h hr

theorem map_dec_fates (kind : Int) {L : List Ar} (h : ∀ z ∈ L, z.fates.length ≤ 8589934592) : ∀ z ∈ L.map (Ar.dec kind), z.fates.length ≤ 8589934592 := by
  intro z hz
  obtain ⟨z0, h0, rfl⟩ := List.mem_map.mp hz
  rw [(z0.dec_fa kind).2.2.2]; exact h z0 h0

theorem goesD_fit {k M N N' : Nat} {D : Dk} (o : D.fit k M N) (F : List Int) : (goesD D F).fit k M N' :=
  ⟨goesD_ok o.ok F, by simp [goesD], by simp [goesD], by simp [goesD]⟩

theorem Dk.fit.mono {k M N N' : Nat} {D : Dk} (o : D.fit k M N) (h : N ≤ N') : D.fit k M N' := ⟨o.ok, o.arms, o.fates, Nat.le_trans o.waits h⟩

theorem Dk.fit.re {k M N N' : Nat} {D : Dk} (o : D.fit k M N) {A : List Ar} {W : List Wt} (hA : A.length ≤ 64) (hF : ∀ z ∈ A, z.fates.length ≤ 8589934592) (hW : W.length ≤ N') (hg : ∀ x ∈ W, x.good k M) : Dk.fit k M N' { D with arms := A, waits := W } :=
  ⟨⟨o.ok.by_, o.ok.k0, o.ok.k1, o.ok.m1, o.ok.most, o.ok.seenS, o.ok.durS, o.ok.seenL, o.ok.durL, hg⟩, hA, hF, hW⟩

theorem actD_fit {k M N : Nat} {D : Dk} (o : D.fit k M N) {kind refused : Int} {adds : List Wt} (ha : ∀ x ∈ adds, x.good k M) : (actD D kind refused adds).1.fit k M (N + adds.length) := by
  have hml : (D.arms.map (Ar.dec kind)).length ≤ 64 := by rw [List.length_map]; exact o.arms
  have hmf := map_dec_fates kind o.fates
  have hW : (D.waits ++ adds).length ≤ N + adds.length := by rw [List.length_append]; have := o.waits; omega
  have hg : ∀ x ∈ D.waits ++ adds, x.good k M := fun y hy => by
    rcases List.mem_append.mp hy with hy | hy
    · exact o.ok.waits y hy
    · exact ha y hy
  have hfl : ((D.arms.map (Ar.dec kind)).filter nd).length ≤ 64 := Nat.le_trans (List.length_filter_le _ _) hml
  have hff : ∀ z ∈ (D.arms.map (Ar.dec kind)).filter nd, z.fates.length ≤ 8589934592 := fun z hz => hmf z (List.mem_filter.mp hz).1
  unfold actD
  split
  · exact o.re hml hmf hW hg
  · split
    · exact goesD_fit (o.re hfl hff hW hg) _
    · exact o.re hfl hff (by have := o.waits; omega) o.ok.waits

section
variable {h : Hp} {d g0 : Nat} {gs gd gw ga : Option Nat} {R : Nat → Prop} {D : Dk} {s dd w a : Sv}

/-- One cell of the record is written. -/
theorem DX.put (wf : Wf h) (x : DX h d g0 gs gd gw ga R D s dd w a) {o : Nat} {v : Value} (ho : o < 13) (hv : isCell v = true) {D' : Dk} (hc : (dcells D s dd w a).set o v = dcells D' s dd w a) (e1 : D'.seen = D.seen) (e2 : D'.dur = D.dur) (e3 : D'.waits = D.waits) (e4 : D'.arms = D.arms) :
    ∃ h', h.store d o [v] = some h' ∧ DX h' d g0 gs gd gw ga R D' s dd w a ∧ Keep (own g0 gs gd gw ga) h h' ∧ Wf h' := by
  obtain ⟨h', h1, h2, h3, h4, h5⟩ := x.blk.set (o := o) (v := v) (by simp [dcells]; omega) hv
  rw [hc] at h2
  exact ⟨h', h1, x.base h3 h2 e1 e2 e3 e4, h3.mono wf fun y _ hy => .inl hy, h5 wf⟩

/-- One page that is seen is written. -/
theorem DX.putSeen (wf : Wf h) (x : DX h d g0 gs gd gw ga R D s dd w a) {i : Nat} (hi : i < D.seen.length) (data : ByteArray) :
    s.a.isSome = true ∧ ∃ h', h.store (Go.Cn.blk s.a) (off s.a + i) [.string data] = some h' ∧ DX h' d g0 gs gd gw ga R { D with seen := D.seen.set i data } s dd w a ∧ Keep (own g0 gs gd gw ga) h h' ∧ Wf h' := by
  have hl := x.seen.2
  obtain ⟨i1, h', h1, h2, h3, h4, h5⟩ := x.seen.1.store (i := i) (vs := [.string data]) (by simp; omega) (by omega) rfl
  have b1 : Blk h' d (some g0) (dcells D s dd w a) := h3.blk x.blk fun y hy he => x.a1 y hy he
  have o1 : OwT encS 1 h' gs s (D.seen.set i data) := by
    rcases flatS_set D.seen i data with h8 | h8
    · rw [h8] at h2; exact ⟨h2, by rw [List.length_set]; exact hl⟩
    · omega
  exact ⟨i1, h', h1, x.setSeen wf h3 o1 Nw.same (Keep.refl _ _) b1, h3.mono wf fun y _ hy => .inr (.inl hy), h5 wf⟩

/-- Nx of a DX at the end of changes of its own. -/
theorem DX.nx_own (x : DX h d g0 gs gd gw ga R D s dd w a) {h' : Hp} {D' : Dk} {s' dd' w' a' : Sv} (x' : DX h' d g0 gs gd gw ga R D' s' dd' w' a') (k : Keep (own g0 gs gd gw ga) h h') : Nx h d g0 gs gd gw ga R D' h' :=
  ⟨gs, gd, gw, ga, R, s', dd', w', a', x', Nw.same, Nw.same, Nw.same, Nw.same, fun _ h => .inl h, k⟩

def liveE (D : Dk) : Int := if D.off = true then 7 else 0

/-- Write. -/
def writeD (D : Dk) (no : Int) (data : ByteArray) : Dk × Int :=
  if D.off = true then (D, 7) else
  if ¬ no < D.seen.length then (D, 41) else
  if ¬ (data.size : Int) = D.bytes then (D, 2) else
  if ¬ (actD D 1 6 [⟨1, no, 0, data⟩]).2 = 0 then actD D 1 6 [⟨1, no, 0, data⟩] else
  ({ D with arms := D.arms.map (Ar.dec 1), waits := D.waits ++ [⟨1, no, 0, data⟩], seen := D.seen.set no.toNat data, wr := addW .i64 D.wr 1 }, 0)

theorem c54 {k M N : Nat} (x : DX h d g0 gs gd gw ga R D s dd w a) (fit : D.fit k M N) (hN : N ≤ 8589934591) {no : Int} (hno : 0 ≤ no ∧ no < 4294967296) {data : ByteArray} :
    C 54 [.pointer (some ⟨d, 0, none⟩), .int .u32 no, .string data] h fun v h' => v = .int .i64 (writeD D no data).2 ∧ Nx h d g0 gs gd gw ga R (writeD D no data).1 h' := by
  refine SCalls_of_vw fol (pf := pf) (shp := shp54) (f := 54) (fn := Try.f54) (by kernel_rfl) (c := Try.f54.body.getD .skip) (by kernel_rfl) (by kernel_rfl) fun wf => ?_
  rw [vc54]
  have ok := fit.ok
  have hsl := x.seen.2
  have hm1 := ok.m1
  have hsM := ok.seenL
  refine (c62 x ok.pos).mono fun v h' ⟨e, e'⟩ => ⟨_, e, ?_⟩
  subst e'
  by_cases ho : D.off = true
  · rw [if_pos ho, if_pos (by rfl)]
    have : writeD D no data = (D, 7) := by unfold writeD; rw [if_pos ho]
    rw [this]; exact ⟨rfl, x.nx⟩
  rw [if_neg ho, if_neg (by rw [neI_iff]; simp)]
  refine ⟨rfl, rfl, (c92 x.blk (o := 0) rfl hno (by omega)).mono fun v h' ⟨e, e'⟩ => ⟨_, e, ?_⟩⟩
  subst e'
  by_cases hb : no < s.l
  rotate_left
  · rw [decide_eq_false hb, if_pos (by rfl)]
    have : writeD D no data = (D, 41) := by unfold writeD; rw [if_neg ho, if_pos (by rw [hsl]; exact hb)]
    rw [this]; exact ⟨rfl, x.nx⟩
  rw [decide_eq_true hb, if_neg (by simp [notB])]
  refine ⟨rfl, rfl, rfl, D.bytes, ⟨rfl, x.blk.one rfl⟩, ?_⟩
  by_cases hs : (data.size : Int) = D.bytes
  rotate_left
  · rw [if_pos (by rw [neI_iff]; exact hs)]
    have : writeD D no data = (D, 2) := by unfold writeD; rw [if_neg ho, if_neg (by rw [hsl]; exact not_not_intro hb), if_pos hs]
    rw [this]; exact ⟨rfl, x.nx⟩
  rw [if_neg (by rw [neI_iff]; exact not_not_intro hs)]
  intro h1 e1
  obtain ⟨b1, k1, n1, wf1⟩ := new_blk wf e1
  have x1 := x.kept k1
  obtain ⟨l0, l1, l2, l3, l4⟩ := x.lts wf
  have hgood : ∀ y ∈ [Wt.mk 1 no 0 data], y.good k M := by
    intro y hy; simp at hy; subst hy
    refine .inl ⟨rfl, hno.1, by simp only; omega, ?_⟩
    have := ok.by_; simp only; omega
  refine (c73 x1 ok (new_one Wt.w (x := ⟨1, no, 0, data⟩) b1) (fun y hy => ?_) fit.arms fit.fates (by have := fit.waits; simp; omega) hgood).wf fun v h2 wf2 _ ⟨e, nx⟩ => ⟨_, e, ?_⟩
  · simp at hy; subst hy
    refine ⟨fun ho => ?_, by omega⟩
    rcases ho with ho | ho | ho | ho | ho
    · omega
    · have := l1 _ ho; omega
    · have := l2 _ ho; omega
    · have := l3 _ ho; omega
    · have := l4 _ ho; omega
  by_cases he : (actD D 1 6 [⟨1, no, 0, data⟩]).2 = 0
  rotate_left
  · rw [if_pos (by rw [neI_iff]; exact he)]
    have : writeD D no data = actD D 1 6 [⟨1, no, 0, data⟩] := by unfold writeD; rw [if_neg ho, if_neg (by rw [hsl]; exact not_not_intro hb), if_neg (not_not_intro hs), if_pos he]
    rw [this]; exact ⟨rfl, Nx.after wf k1 nx⟩
  rw [if_neg (by rw [neI_iff]; exact not_not_intro he)]
  have hw : writeD D no data = ({ D with arms := D.arms.map (Ar.dec 1), waits := D.waits ++ [⟨1, no, 0, data⟩], seen := D.seen.set no.toNat data, wr := addW .i64 D.wr 1 }, 0) := by
    unfold writeD; rw [if_neg ho, if_neg (by rw [hsl]; exact not_not_intro hb), if_neg (not_not_intro hs), if_neg (not_not_intro he)]
  rw [hw]
  rw [actD_zero (by omega) he] at nx
  obtain ⟨gs2, gd2, gw2, ga2, R2, s2, dd2, w2, a2, x2, m1, m2, m3, m4, r2, k2⟩ := nx
  have hs2 : D.seen.length = s2.l := x2.seen.2
  obtain ⟨i1, h3, e3, x3, k3, wf3⟩ := x2.putSeen wf2 (i := no.toNat) (by simp only; omega) data
  obtain ⟨h4, e4, x4, k4, wf4⟩ := x3.put wf3 (o := 10) (v := .int .i64 (addW .i64 D.wr 1)) (D' := { D with arms := D.arms.map (Ar.dec 1), waits := D.waits ++ [⟨1, no, 0, data⟩], seen := D.seen.set no.toNat data, wr := addW .i64 D.wr 1 }) (by omega) rfl rfl rfl rfl rfl rfl
  have hofs : plusI (off s2.a) no 1 = off s2.a + no.toNat := by simp [plusI]
  refine ⟨rfl, rfl, rfl, s2.a, s2.l, s2.c, ⟨rfl, x2.blk.one rfl⟩, ⟨i1, by simp only [inR]; omega⟩, rfl, h3, by rw [hofs]; exact e3, rfl, rfl, rfl, D.wr, ⟨rfl, x3.blk.one rfl⟩, rfl, rfl, rfl, rfl, h4, e4, rfl, ?_⟩
  exact Nx.after wf k1 (Nx.pre wf1 m1 m2 m3 m4 r2 k2 (x2.nx_own x4 (k3.trans wf2 k4 fun _ _ hy => hy)))

/-- Grow. -/
def growD (D : Dk) (n : Int) : Dk × Int :=
  if D.off = true then (D, 7) else
  if n < 1 then (D, 2) else
  if n > D.most - D.seen.length then (D, 5) else
  if ¬ (actD D 2 5 [⟨2, 0, D.seen.length + n, ⟨#[]⟩⟩]).2 = 0 then actD D 2 5 [⟨2, 0, D.seen.length + n, ⟨#[]⟩⟩] else
  ({ D with arms := D.arms.map (Ar.dec 2), waits := D.waits ++ [⟨2, 0, D.seen.length + n, ⟨#[]⟩⟩], seen := stretchL D.bytes D.seen (D.seen.length + n), gr := addW .i64 D.gr 1 }, 0)

theorem c53 {k M N : Nat} (x : DX h d g0 gs gd gw ga R D s dd w a) (fit : D.fit k M N) (hN : N ≤ 8589934591) {n : Int} (hn : n < 9223372036854775808) :
    C 53 [.pointer (some ⟨d, 0, none⟩), .int .i64 n] h fun v h' => v = .int .i64 (growD D n).2 ∧ Nx h d g0 gs gd gw ga R (growD D n).1 h' := by
  refine SCalls_of_vw fol (pf := pf) (shp := shp53) (f := 53) (fn := Try.f53) (by kernel_rfl) (c := Try.f53.body.getD .skip) (by kernel_rfl) (by kernel_rfl) fun wf => ?_
  rw [vc53]
  have ok := fit.ok
  have hsl := x.seen.2
  have hm1 := ok.m1
  have hsM := ok.seenL
  have hmost := ok.most
  refine (c62 x ok.pos).mono fun v h' ⟨e, e'⟩ => ⟨_, e, ?_⟩
  subst e'
  by_cases ho : D.off = true
  · rw [if_pos ho, if_pos (by rfl)]
    have : growD D n = (D, 7) := by unfold growD; rw [if_pos ho]
    rw [this]; exact ⟨rfl, x.nx⟩
  rw [if_neg ho, if_neg (by rw [neI_iff]; simp)]
  by_cases h1 : n < 1
  · rw [if_pos (ltI_iff.mpr h1)]
    have : growD D n = (D, 2) := by unfold growD; rw [if_neg ho, if_pos h1]
    rw [this]; exact ⟨rfl, x.nx⟩
  rw [if_neg (by rw [ltI_iff]; exact h1)]
  refine ⟨rfl, rfl, D.most, ⟨rfl, x.blk.one rfl⟩, (c57 x ok.pos).mono fun v h' ⟨e, e'⟩ => ⟨_, e, ⟨rfl, by subst e'; exact x.blk.one rfl⟩, ?_⟩⟩
  subst e'
  rw [subW_small (by simp only [natI]; omega) (by simp only [natI]; omega), natI_eq]
  by_cases h2 : n > D.most - D.seen.length
  · rw [if_pos (gtI_iff.mpr h2)]
    have : growD D n = (D, 5) := by unfold growD; rw [if_neg ho, if_neg h1, if_pos h2]
    rw [this]; exact ⟨rfl, x.nx⟩
  rw [if_neg (by rw [gtI_iff]; exact h2)]
  refine (c57 x ok.pos).mono fun v h' ⟨e, e'⟩ => ⟨_, e, ?_⟩
  subst e'
  rw [addW_small (by simp only [natI]; omega) (by simp only [natI]; omega), natI_eq]
  intro h1' e1
  obtain ⟨b1, k1, n1, wf1⟩ := new_blk wf e1
  have x1 := x.kept k1
  obtain ⟨l0, l1, l2, l3, l4⟩ := x.lts wf
  have hgood : ∀ y ∈ [Wt.mk 2 0 (D.seen.length + n) ⟨#[]⟩], y.good k M := by
    intro y hy; simp at hy; subst hy
    exact .inr ⟨rfl, by simp only; omega, by simp only; omega⟩
  refine (c73 x1 ok (new_one Wt.w (x := ⟨2, 0, D.seen.length + n, ⟨#[]⟩⟩) b1) (fun y hy => ?_) fit.arms fit.fates (by have := fit.waits; simp; omega) hgood).wf fun v h2 wf2 _ ⟨e, nx⟩ => ⟨_, e, ?_⟩
  · simp at hy; subst hy
    refine ⟨fun ho => ?_, by omega⟩
    rcases ho with ho | ho | ho | ho | ho
    · omega
    · have := l1 _ ho; omega
    · have := l2 _ ho; omega
    · have := l3 _ ho; omega
    · have := l4 _ ho; omega
  by_cases he : (actD D 2 5 [⟨2, 0, D.seen.length + n, ⟨#[]⟩⟩]).2 = 0
  rotate_left
  · rw [if_pos (by rw [neI_iff]; exact he)]
    have : growD D n = actD D 2 5 [⟨2, 0, D.seen.length + n, ⟨#[]⟩⟩] := by unfold growD; rw [if_neg ho, if_neg h1, if_neg (by omega), if_pos he]
    rw [this]; exact ⟨rfl, Nx.after wf k1 nx⟩
  rw [if_neg (by rw [neI_iff]; exact not_not_intro he)]
  have hw : growD D n = ({ D with arms := D.arms.map (Ar.dec 2), waits := D.waits ++ [⟨2, 0, D.seen.length + n, ⟨#[]⟩⟩], seen := stretchL D.bytes D.seen (D.seen.length + n), gr := addW .i64 D.gr 1 }, 0) := by
    unfold growD; rw [if_neg ho, if_neg h1, if_neg (by omega), if_neg (not_not_intro he)]
  rw [hw]
  rw [actD_zero (by omega) he] at nx
  obtain ⟨gs2, gd2, gw2, ga2, R2, s2, dd2, w2, a2, x2, m1, m2, m3, m4, r2, k2⟩ := nx
  have hby := ok.by_
  have hk1 := ok.k1
  refine ⟨rfl, rfl, (c91 x2.blk (o := 0) rfl rfl x2.seen x2.a1 (by simp only; omega) (by omega) (by simp only; omega)).wf fun v h3 wf3 _ ⟨e, gs3, s3, b3, o3, nw3, k3⟩ => ⟨e, ?_⟩⟩
  have x3 := x2.setSeen2 wf2 k3 o3 nw3 b3
  have k3' : Keep (own g0 gs2 gd2 gw2 ga2) h2 h3 := k3.mono wf2 fun y _ hy => by rcases hy with hy | hy; exact .inl hy; exact .inr (.inl hy)
  obtain ⟨h4, e4, x4, k4, wf4⟩ := x3.put wf3 (o := 11) (v := .int .i64 (addW .i64 D.gr 1)) (D' := { D with arms := D.arms.map (Ar.dec 2), waits := D.waits ++ [⟨2, 0, D.seen.length + n, ⟨#[]⟩⟩], seen := stretchL D.bytes D.seen (D.seen.length + n), gr := addW .i64 D.gr 1 }) (by omega) rfl rfl rfl rfl rfl rfl
  refine ⟨rfl, rfl, rfl, D.gr, ⟨rfl, x3.blk.one rfl⟩, rfl, rfl, rfl, rfl, h4, e4, rfl, ?_⟩
  refine Nx.after wf k1 (Nx.pre wf1 m1 m2 m3 m4 r2 k2 ?_)
  exact Nx.pre wf2 nw3 Nw.same Nw.same Nw.same (fun y hy => .inl hy) k3' (x3.nx_own x4 k4)

/-- Sync. -/
def syncD (D : Dk) : Dk × Int :=
  if D.off = true then (D, 7) else
  if ¬ (actD D 3 6 []).2 = 0 then actD D 3 6 [] else
  ({ D with arms := D.arms.map (Ar.dec 3), waits := [], dur := D.seen, sy := addW .i64 D.sy 1 }, 0)

theorem c46 {k M N : Nat} (x : DX h d g0 gs gd gw ga R D s dd w a) (fit : D.fit k M N) (hN : N ≤ 8589934591) :
    C 46 [.pointer (some ⟨d, 0, none⟩)] h fun v h' => v = .int .i64 (syncD D).2 ∧ Nx h d g0 gs gd gw ga R (syncD D).1 h' := by
  refine SCalls_of_vw fol (pf := pf) (shp := shp46) (f := 46) (fn := Try.f46) (by kernel_rfl) (c := Try.f46.body.getD .skip) (by kernel_rfl) (by kernel_rfl) fun wf => ?_
  rw [vc46]
  have ok := fit.ok
  have hm1 := ok.m1
  have hsM := ok.seenL
  refine (c62 x ok.pos).mono fun v h' ⟨e, e'⟩ => ⟨_, e, ?_⟩
  subst e'
  by_cases ho : D.off = true
  · rw [if_pos ho, if_pos (by rfl)]
    have : syncD D = (D, 7) := by unfold syncD; rw [if_pos ho]
    rw [this]; exact ⟨rfl, x.nx⟩
  rw [if_neg ho, if_neg (by rw [neI_iff]; simp)]
  refine (c73 x ok (SlT.nil h' none) (fun y hy => by simp at hy) fit.arms fit.fates (by have := fit.waits; simp; omega) (by simp)).wf fun v h2 wf2 _ ⟨e, nx⟩ => ⟨_, e, ?_⟩
  by_cases he : (actD D 3 6 []).2 = 0
  rotate_left
  · rw [if_pos (by rw [neI_iff]; exact he)]
    have : syncD D = actD D 3 6 [] := by unfold syncD; rw [if_neg ho, if_pos he]
    rw [this]; exact ⟨rfl, nx⟩
  rw [if_neg (by rw [neI_iff]; exact not_not_intro he)]
  have hw : syncD D = ({ D with arms := D.arms.map (Ar.dec 3), waits := [], dur := D.seen, sy := addW .i64 D.sy 1 }, 0) := by
    unfold syncD; rw [if_neg ho, if_neg (not_not_intro he)]
  rw [hw]
  rw [actD_zero (by omega) he] at nx
  obtain ⟨gs2, gd2, gw2, ga2, R2, s2, dd2, w2, a2, x2, m1, m2, m3, m4, r2, k2⟩ := nx
  have hs2 : D.seen.length = s2.l := x2.seen.2
  refine ⟨rfl, rfl, rfl, s2.a, s2.l, s2.c, ⟨rfl, x2.blk.one rfl⟩, (c59 x2.seen.slT (by omega)).wf fun v h3 wf3 _ ⟨s3, g3, e, o3, n3, k3⟩ => ⟨s3.a, s3.l, s3.c, e, ?_⟩⟩
  have x3 := x2.kept k3
  obtain ⟨h4, e4, b4, k4, n4, w4⟩ := x3.blk.set (o := 3) (v := s3.v) (by simp [dcells]) rfl
  have wf4 := w4 wf3
  have nw3 : Nw h2 g3 gd2 := by rcases n3 with n | n; exact .inr (.inl n); exact .inr (.inr n)
  have x4 := x2.setDur wf2 (k3.mono wf2 fun _ _ hf => hf.elim) o3 nw3 k4 b4
  obtain ⟨h5, e5, b5, k5, n5, w5⟩ := x4.blk.set (o := 6) (v := .slice none 0 0) (by simp [dcells]) rfl
  have wf5 := w5 wf4
  have x5 := x4.setWaits wf4 (Keep.refl _ _) (OwT.nil (enc := Wt.enc) (w := 4)) (.inr (.inl rfl)) k5 b5
  obtain ⟨h6, e6, x6, k6, wf6⟩ := x5.put wf5 (o := 12) (v := .int .i64 (addW .i64 D.sy 1)) (D' := { D with arms := D.arms.map (Ar.dec 3), waits := [], dur := D.seen, sy := addW .i64 D.sy 1 }) (by omega) rfl rfl rfl rfl rfl rfl
  refine ⟨rfl, rfl, rfl, rfl, h4, e4, rfl, rfl, rfl, h5, e5, rfl, rfl, rfl, D.sy, ⟨rfl, x5.blk.one rfl⟩, rfl, rfl, rfl, rfl, h6, e6, rfl, ?_⟩
  refine Nx.pre wf m1 m2 m3 m4 r2 k2 ?_
  have k24 : Keep (own g0 gs2 gd2 gw2 ga2) h2 h4 := (k3.mono wf2 (S' := own g0 gs2 gd2 gw2 ga2) fun _ _ hf => hf.elim).trans wf2 k4 fun y _ hy => .inl hy
  refine Nx.pre wf2 Nw.same nw3 Nw.same Nw.same (fun y hy => .inl hy) k24 ?_
  have k45 : Keep (own g0 gs2 g3 gw2 ga2) h4 h5 := k5.mono wf4 fun y _ hy => .inl hy
  exact Nx.pre wf4 Nw.same Nw.same (.inr (.inl rfl)) Nw.same (fun y hy => .inl hy) k45 (x5.nx_own x6 k6)
end
end Go.Proofs.Ytfkhjbfddeahaaa.kc
