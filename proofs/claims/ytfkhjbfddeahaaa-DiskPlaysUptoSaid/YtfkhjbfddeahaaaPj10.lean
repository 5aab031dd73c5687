/- Joined: DiskV, DiskW, DiskAV. -/
import Derived.Test.YtfkhjbfddeahaaaPj09
import Derived.Test.YtfkhjbfddeahaaaProg
import Derived.KernelRfl
/- The conditions of the symbolic runs of functions of the program (printed by a program of ours, vcgen.py; checked by the kernel). -/
set_option linter.unusedVariables false
namespace Go.Proofs.Ytfkhjbfddeahaaa.vc
open Go Go.Cn Go.Proofs
def pf : FuncId → Bool := fun f => f == 92 || f == 97

def shp57 : Nat → List (Tmp × TypeId) := fun i => []
theorem vc57 (C : FuncId → List Value → Hp → (Value → Hp → Prop) → Prop) (d : Nat) (h : Hp) (K : Value → Hp → Prop) : vBody Try.prog C pf shp57 Try.f57 (Try.f57.body.getD .skip) [.pointer (some ⟨d, 0, none⟩)] h K = (
 C 58 [Value.pointer (some (Addr.mk d 0 none))] h fun (v : Value) (h' : Hp) =>
 ∃ (b : Bool), v = Value.bool b ∧ if notB b = true then K (Value.int IntKind.i64 0) h' else (some (Addr.mk d 0 none)).isSome = true ∧ plainA (some (Addr.mk d 0 none)) = true ∧ C 93 [Value.pointer (some (Addr.mk d 0 none))] h' fun (v : Value) (h' : Hp) => ∃ (n : Int), v = Value.int IntKind.i64 n ∧ K (Value.int IntKind.i64 n) h') := by kernel_rfl

def shp58 : Nat → List (Tmp × TypeId) := fun i => []
theorem vc58 (C : FuncId → List Value → Hp → (Value → Hp → Prop) → Prop) (d : Nat) (h : Hp) (K : Value → Hp → Prop) : vBody Try.prog C pf shp58 Try.f58 (Try.f58.body.getD .skip) [.pointer (some ⟨d, 0, none⟩)] h K = (
 (notB (isN (some (Addr.mk d 0 none))) = true → (some (Addr.mk d 0 none)).isSome = true) ∧
 (notB (isN (some (Addr.mk d 0 none))) = true → plainA (some (Addr.mk d 0 none)) = true) ∧
 (notB (isN (some (Addr.mk d 0 none))) = true → plainA (some (Addr.mk d 2 none)) = true) ∧ ∃ (n : Int), (notB (isN (some (Addr.mk d 0 none))) = true → plainA (some (Addr.mk d 2 none)) = true ∧ h.cellsAt d 2 1 = some [Value.int IntKind.i64 n]) ∧ K (Value.bool (sel (notB (isN (some (Addr.mk d 0 none)))) (gtI n 0) false)) h) := by kernel_rfl

def shp62 : Nat → List (Tmp × TypeId) := fun i => []
theorem vc62 (C : FuncId → List Value → Hp → (Value → Hp → Prop) → Prop) (d : Nat) (h : Hp) (K : Value → Hp → Prop) : vBody Try.prog C pf shp62 Try.f62 (Try.f62.body.getD .skip) [.pointer (some ⟨d, 0, none⟩)] h K = (
 C 58 [Value.pointer (some (Addr.mk d 0 none))] h fun (v : Value) (h' : Hp) =>
 ∃ (b : Bool), v = Value.bool b ∧ if notB b = true then K (Value.int IntKind.i64 1) h' else (some (Addr.mk d 0 none)).isSome = true ∧ plainA (some (Addr.mk d 0 none)) = true ∧ ∃ (b : Bool), (plainA (some (Addr.mk d 5 none)) = true ∧ h'.cellsAt d 5 1 = some [Value.bool b]) ∧ if b = true then K (Value.int IntKind.i64 7) h' else K (Value.int IntKind.i64 0) h') := by kernel_rfl

def shp69 : Nat → List (Tmp × TypeId) := fun i => []
theorem vc69 (C : FuncId → List Value → Hp → (Value → Hp → Prop) → Prop) (d : Nat) (h : Hp) (K : Value → Hp → Prop) : vBody Try.prog C pf shp69 Try.f69 (Try.f69.body.getD .skip) [.pointer (some ⟨d, 0, none⟩)] h K = (
 C 58 [Value.pointer (some (Addr.mk d 0 none))] h fun (v : Value) (h' : Hp) =>
 ∃ (b : Bool), v = Value.bool b ∧ if notB b = true then K (Value.int IntKind.i64 0) h' else (some (Addr.mk d 0 none)).isSome = true ∧ plainA (some (Addr.mk d 0 none)) = true ∧ plainA (some (Addr.mk d 2 none)) = true ∧ ∃ (n : Int), (plainA (some (Addr.mk d 2 none)) = true ∧ h'.cellsAt d 2 1 = some [Value.int IntKind.i64 n]) ∧ K (Value.int IntKind.i64 n) h') := by kernel_rfl

def shp70 : Nat → List (Tmp × TypeId) := fun i => []
theorem vc70 (C : FuncId → List Value → Hp → (Value → Hp → Prop) → Prop) (d : Nat) (h : Hp) (K : Value → Hp → Prop) : vBody Try.prog C pf shp70 Try.f70 (Try.f70.body.getD .skip) [.pointer (some ⟨d, 0, none⟩)] h K = (
 C 58 [Value.pointer (some (Addr.mk d 0 none))] h fun (v : Value) (h' : Hp) => ∃ (b : Bool), v = Value.bool b ∧ if notB b = true then K (Value.int IntKind.i64 0) h' else (some (Addr.mk d 0 none)).isSome = true ∧ plainA (some (Addr.mk d 0 none)) = true ∧ ∃ (n : Int), (plainA (some (Addr.mk d 4 none)) = true ∧ h'.cellsAt d 4 1 = some [Value.int IntKind.i64 n]) ∧ K (Value.int IntKind.i64 n) h') := by kernel_rfl

def shp38 : Nat → List (Tmp × TypeId) := fun i => []
theorem vc38 (C : FuncId → List Value → Hp → (Value → Hp → Prop) → Prop) (d : Nat) (h : Hp) (K : Value → Hp → Prop) : vBody Try.prog C pf shp38 Try.f38 (Try.f38.body.getD .skip) [.pointer (some ⟨d, 0, none⟩)] h K = (
 C 58 [Value.pointer (some (Addr.mk d 0 none))] h fun (v : Value) (h' : Hp) => ∃ (b : Bool), v = Value.bool b ∧ (b = true → (some (Addr.mk d 0 none)).isSome = true) ∧ (b = true → plainA (some (Addr.mk d 0 none)) = true) ∧ ∃ (b_1 : Bool), (b = true → plainA (some (Addr.mk d 5 none)) = true ∧ h'.cellsAt d 5 1 = some [Value.bool b_1]) ∧ K (Value.bool (sel b (notB b_1) false)) h') := by kernel_rfl

def shp56 : Nat → List (Tmp × TypeId) := fun i => []
theorem vc56 (C : FuncId → List Value → Hp → (Value → Hp → Prop) → Prop) (d : Nat) (h : Hp) (K : Value → Hp → Prop) : vBody Try.prog C pf shp56 Try.f56 (Try.f56.body.getD .skip) [.pointer (some ⟨d, 0, none⟩)] h K = (
 C 58 [Value.pointer (some (Addr.mk d 0 none))] h fun (v : Value) (h' : Hp) => ∃ (b : Bool), v = Value.bool b ∧ if notB b = true then K (Value.int IntKind.i64 0) h' else (some (Addr.mk d 0 none)).isSome = true ∧ plainA (some (Addr.mk d 0 none)) = true ∧ ∃ (n : Int), (plainA (some (Addr.mk d 8 none)) = true ∧ h'.cellsAt d 8 1 = some [Value.int IntKind.i64 n]) ∧ K (Value.int IntKind.i64 n) h') := by kernel_rfl

def shp39 : Nat → List (Tmp × TypeId) := fun i => []
theorem vc39 (C : FuncId → List Value → Hp → (Value → Hp → Prop) → Prop) (d : Nat) (h : Hp) (K : Value → Hp → Prop) : vBody Try.prog C pf shp39 Try.f39 (Try.f39.body.getD .skip) [.pointer (some ⟨d, 0, none⟩)] h K = (
 C 58 [Value.pointer (some (Addr.mk d 0 none))] h fun (v : Value) (h' : Hp) => ∃ (b : Bool), v = Value.bool b ∧ if notB b = true then K (Value.int IntKind.i64 0) h' else (some (Addr.mk d 0 none)).isSome = true ∧ plainA (some (Addr.mk d 0 none)) = true ∧ ∃ (n : Int), (plainA (some (Addr.mk d 9 none)) = true ∧ h'.cellsAt d 9 1 = some [Value.int IntKind.i64 n]) ∧ K (Value.int IntKind.i64 n) h') := by kernel_rfl

def shp45 : Nat → List (Tmp × TypeId) := fun i => []
theorem vc45 (C : FuncId → List Value → Hp → (Value → Hp → Prop) → Prop) (d : Nat) (h : Hp) (K : Value → Hp → Prop) : vBody Try.prog C pf shp45 Try.f45 (Try.f45.body.getD .skip) [.pointer (some ⟨d, 0, none⟩)] h K = (
 C 58 [Value.pointer (some (Addr.mk d 0 none))] h fun (v : Value) (h' : Hp) =>
 ∃ (b : Bool), v = Value.bool b ∧ if notB b = true then K (Value.int IntKind.i64 0) h' else (some (Addr.mk d 0 none)).isSome = true ∧ plainA (some (Addr.mk d 0 none)) = true ∧ ∃ (a : Option Addr), ∃ (l : Nat), ∃ (c : Nat), (plainA (some (Addr.mk d 7 none)) = true ∧ h'.cellsAt d 7 1 = some [Value.slice a l c]) ∧ K (Value.int IntKind.i64 (natI l)) h') := by kernel_rfl

def shp37 : Nat → List (Tmp × TypeId) := fun i => []
theorem vc37 (C : FuncId → List Value → Hp → (Value → Hp → Prop) → Prop) (d : Nat) (h : Hp) (K : Value → Hp → Prop) : vBody Try.prog C pf shp37 Try.f37 (Try.f37.body.getD .skip) [.pointer (some ⟨d, 0, none⟩)] h K = (
 ∀ (h' : Hp),
 h' = h.alloc [Value.int IntKind.i64 (Int.ofNat 0), Value.int IntKind.i64 (Int.ofNat 0), Value.int IntKind.i64 (Int.ofNat 0)] 65 →
 C 58 [Value.pointer (some (Addr.mk d 0 none))] h' fun (v : Value) (h' : Hp) =>
 ∃ (b : Bool),
 v = Value.bool b ∧
 if notB b = true then
 plainA (some (Addr.mk h.next 0 none)) = true ∧
 ∃ (h'_1 : Hp),
 h'.store h.next 0 [Value.int IntKind.i64 (Int.ofNat 0), Value.int IntKind.i64 (Int.ofNat 0), Value.int IntKind.i64 (Int.ofNat 0)] = some h'_1 ∧
 ∃ (n : Int), ∃ (n_1 : Int), ∃ (n_2 : Int), (plainA (some (Addr.mk h.next 0 none)) = true ∧ h'_1.cellsAt h.next 0 3 = some [Value.int IntKind.i64 n, Value.int IntKind.i64 n_1, Value.int IntKind.i64 n_2]) ∧ K (Value.agg (Array.mk [Value.int IntKind.i64 n, Value.int IntKind.i64 n_1, Value.int IntKind.i64 n_2])) h'_1
 else
 (some (Addr.mk d 0 none)).isSome = true ∧
 plainA (some (Addr.mk d 0 none)) = true ∧
 ∃ (n : Int),
 ∃ (n_1 : Int),
 ∃ (n_2 : Int),
 (plainA (some (Addr.mk d 10 none)) = true ∧ h'.cellsAt d 10 3 = some [Value.int IntKind.i64 n, Value.int IntKind.i64 n_1, Value.int IntKind.i64 n_2]) ∧
 plainA (some (Addr.mk h.next 0 none)) = true ∧
 ∃ (h'_1 : Hp),
 h'.store h.next 0 [Value.int IntKind.i64 n, Value.int IntKind.i64 n_1, Value.int IntKind.i64 n_2] = some h'_1 ∧
 ∃ (n : Int), ∃ (n_3 : Int), ∃ (n_4 : Int), (plainA (some (Addr.mk h.next 0 none)) = true ∧ h'_1.cellsAt h.next 0 3 = some [Value.int IntKind.i64 n, Value.int IntKind.i64 n_3, Value.int IntKind.i64 n_4]) ∧ K (Value.agg (Array.mk [Value.int IntKind.i64 n, Value.int IntKind.i64 n_3, Value.int IntKind.i64 n_4])) h'_1) := by kernel_rfl

def shp36 : Nat → List (Tmp × TypeId) := fun i => []
theorem vc36 (C : FuncId → List Value → Hp → (Value → Hp → Prop) → Prop) (d : Nat) (h : Hp) (K : Value → Hp → Prop) : vBody Try.prog C pf shp36 Try.f36 (Try.f36.body.getD .skip) [.pointer (some ⟨d, 0, none⟩)] h K = (
 C 58 [Value.pointer (some (Addr.mk d 0 none))] h fun (v : Value) (h' : Hp) =>
 ∃ (b : Bool),
 v = Value.bool b ∧
 if notB b = true then K (Value.int IntKind.i64 1) h'
 else
 (some (Addr.mk d 0 none)).isSome = true ∧
 plainA (some (Addr.mk d 0 none)) = true ∧
 ∃ (b : Bool),
 (plainA (some (Addr.mk d 5 none)) = true ∧ h'.cellsAt d 5 1 = some [Value.bool b]) ∧
 if notB b = true then K (Value.int IntKind.i64 40) h'
 else
 (some (Addr.mk d 0 none)).isSome = true ∧
 plainA (some (Addr.mk d 0 none)) = true ∧
 plainA (some (Addr.mk d 5 none)) = true ∧
 ∃ (h'_1 : Hp),
 h'.store d 5 [Value.bool false] = some h'_1 ∧
 (some (Addr.mk d 0 none)).isSome = true ∧
 plainA (some (Addr.mk d 0 none)) = true ∧
 ∃ (n : Int), (plainA (some (Addr.mk d 8 none)) = true ∧ h'_1.cellsAt d 8 1 = some [Value.int IntKind.i64 n]) ∧ (some (Addr.mk d 0 none)).isSome = true ∧ plainA (some (Addr.mk d 0 none)) = true ∧ plainA (some (Addr.mk d 8 none)) = true ∧ ∃ (h' : Hp), h'_1.store d 8 [Value.int IntKind.i64 (addW IntKind.i64 n 1)] = some h' ∧ K (Value.int IntKind.i64 0) h') := by kernel_rfl

def shp85 : Nat → List (Tmp × TypeId) := fun i => []
theorem vc85 (C : FuncId → List Value → Hp → (Value → Hp → Prop) → Prop) (d : Nat) (h : Hp) (K : Value → Hp → Prop) : vBody Try.prog C pf shp85 Try.f85 (Try.f85.body.getD .skip) [.pointer (some ⟨d, 0, none⟩)] h K = (
 C 62 [Value.pointer (some (Addr.mk d 0 none))] h fun (v : Value) (h' : Hp) =>
 ∃ (n : Int),
 v = Value.int IntKind.i64 n ∧
 if neI n 0 = true then K (Value.tuple (Array.mk [Value.int IntKind.i64 0, Value.int IntKind.i64 n])) h'
 else
 (some (Addr.mk d 0 none)).isSome = true ∧
 plainA (some (Addr.mk d 0 none)) = true ∧
 ∃ (n : Int),
 (plainA (some (Addr.mk d 9 none)) = true ∧ h'.cellsAt d 9 1 = some [Value.int IntKind.i64 n]) ∧
 (some (Addr.mk d 0 none)).isSome = true ∧
 plainA (some (Addr.mk d 0 none)) = true ∧
 plainA (some (Addr.mk d 9 none)) = true ∧
 ∃ (h'_1 : Hp), h'.store d 9 [Value.int IntKind.i64 (addW IntKind.i64 n 1)] = some h'_1 ∧ (some (Addr.mk d 0 none)).isSome = true ∧ plainA (some (Addr.mk d 0 none)) = true ∧ ∃ (n : Int), (plainA (some (Addr.mk d 9 none)) = true ∧ h'_1.cellsAt d 9 1 = some [Value.int IntKind.i64 n]) ∧ K (Value.tuple (Array.mk [Value.int IntKind.i64 n, Value.int IntKind.i64 0])) h'_1) := by kernel_rfl

def shp34 : Nat → List (Tmp × TypeId) := fun i => []
theorem vc34 (C : FuncId → List Value → Hp → (Value → Hp → Prop) → Prop) (d : Nat) (h : Hp) (K : Value → Hp → Prop) : vBody Try.prog C pf shp34 Try.f34 (Try.f34.body.getD .skip) [.pointer (some ⟨d, 0, none⟩)] h K = (
 C 58 [Value.pointer (some (Addr.mk d 0 none))] h fun (v : Value) (h' : Hp) =>
 ∃ (b : Bool),
 v = Value.bool b ∧
 if notB b = true then K (Value.slice none 0 0) h'
 else
 (some (Addr.mk d 0 none)).isSome = true ∧
 plainA (some (Addr.mk d 0 none)) = true ∧ plainA (some (Addr.mk d 2 none)) = true ∧ ∃ (a : Option Addr), ∃ (l : Nat), ∃ (c : Nat), (plainA (some (Addr.mk d 3 none)) = true ∧ h'.cellsAt d 3 1 = some [Value.slice a l c]) ∧ C 59 [Value.slice a l c] h' fun (v : Value) (h' : Hp) => ∃ (a : Option Addr), ∃ (l : Nat), ∃ (c : Nat), v = Value.slice a l c ∧ K (Value.slice a l c) h') := by kernel_rfl

def shp30 : Nat → List (Tmp × TypeId) := fun i => if i = 5 then [(3, 51), (14, 3)] else []
theorem vc30 (C : FuncId → List Value → Hp → (Value → Hp → Prop) → Prop) (d : Nat) (h : Hp) (K : Value → Hp → Prop) : vBody Try.prog C pf shp30 Try.f30 (Try.f30.body.getD .skip) [.pointer (some ⟨d, 0, none⟩)] h K = (
 C 58 [Value.pointer (some (Addr.mk d 0 none))] h fun (v : Value) (h' : Hp) =>
 ∃ (b : Bool),
 v = Value.bool b ∧
 if notB b = true then K (Value.slice none 0 0) h'
 else
 (some (Addr.mk d 0 none)).isSome = true ∧
 plainA (some (Addr.mk d 0 none)) = true ∧
 ∃ (a : Option Addr),
 ∃ (l : Nat),
 ∃ (c : Nat),
 (plainA (some (Addr.mk d 6 none)) = true ∧ h'.cellsAt d 6 1 = some [Value.slice a l c]) ∧
 ∃ (I : List Value → Nat → Hp → Prop),
 (∃ (m : Nat), I [Value.slice none 0 0, Value.int IntKind.i64 0] m h') ∧
 ∀ (a_1 : Option Addr) (l_1 c : Nat) (n : Int) (m : Nat) (h : Hp),
 I [Value.slice a_1 l_1 c, Value.int IntKind.i64 n] m h →
 if ltI n (natI l) = true then
 (a.isSome = true ∧ inR n l) ∧
 ∃ (n_1 : Int),
 ∃ (n_2 : Int),
 ∃ (n_3 : Int),
 ∃ (s : ByteArray),
 (plainA (some (Addr.mk (blk a) (plusI (off a) n 4) none)) = true ∧ h.cellsAt (blk a) (plusI (off a) n 4) 4 = some [Value.int IntKind.u8 n_1, Value.int IntKind.u32 n_2, Value.int IntKind.i64 n_3, Value.string s]) ∧
 ∀ (h' : Hp),
 h' = h.alloc [Value.int IntKind.u8 (Int.ofNat 0), Value.int IntKind.u32 (Int.ofNat 0), Value.int IntKind.i64 (Int.ofNat 0), Value.string (ByteArray.mk (Array.mk []))] 103 →
 plainA (some (Addr.mk h.next 0 none)) = true ∧
 ∃ (h'_1 : Hp),
 h'.store h.next 0 [Value.int IntKind.u8 n_1, Value.int IntKind.u32 n_2, Value.int IntKind.i64 n_3, Value.string s] = some h'_1 ∧
 plainA (some (Addr.mk h.next 0 none)) = true ∧
 ∃ (n_4 : Int),
 ∃ (n_5 : Int),
 ∃ (n_6 : Int),
 (plainA (some (Addr.mk h.next 0 none)) = true ∧ h'_1.cellsAt h.next 0 3 = some [Value.int IntKind.u8 n_4, Value.int IntKind.u32 n_5, Value.int IntKind.i64 n_6]) ∧
 ∀ (h' : Hp),
 h' = h'_1.alloc [Value.int IntKind.u8 n_4, Value.int IntKind.u32 n_5, Value.int IntKind.i64 n_6] 60 →
 ∃ (a : Option Addr), ∃ (m_1 : Nat), ∃ (n_7 : Nat), ∃ (h'_2 : Hp), cappend Try.prog 51 51 (Value.slice a_1 l_1 c) (Value.slice (some (Addr.mk h'_1.next 0 none)) 1 1) h' = some (Value.slice a m_1 n_7, h'_2) ∧ ∃ (m' : Nat), lessN m' m ∧ I [Value.slice a m_1 n_7, Value.int IntKind.i64 (addW IntKind.i64 n 1)] m' h'_2
 else K (Value.slice a_1 l_1 c) h) := by kernel_rfl

def shp31 : Nat → List (Tmp × TypeId) := fun i => []
theorem vc31 (C : FuncId → List Value → Hp → (Value → Hp → Prop) → Prop) (d : Nat) (h : Hp) (K : Value → Hp → Prop) : vBody Try.prog C pf shp31 Try.f31 (Try.f31.body.getD .skip) [.pointer (some ⟨d, 0, none⟩)] h K = (
 C 58 [Value.pointer (some (Addr.mk d 0 none))] h fun (v : Value) (h' : Hp) =>
 ∃ (b : Bool),
 v = Value.bool b ∧
 if notB b = true then K (Value.pointer none) h'
 else
 (some (Addr.mk d 0 none)).isSome = true ∧
 ∃ (n : Int),
 ∃ (a : Option Addr),
 ∃ (l : Nat),
 ∃ (c : Nat),
 ∃ (n_1 : Int),
 ∃ (a_1 : Option Addr),
 ∃ (l_1 : Nat),
 ∃ (c_1 : Nat),
 ∃ (n_2 : Int),
 ∃ (b : Bool),
 ∃ (a_2 : Option Addr),
 ∃ (l_2 : Nat),
 ∃ (c_2 : Nat),
 ∃ (a_3 : Option Addr),
 ∃ (l_3 : Nat),
 ∃ (c_3 : Nat),
 ∃ (n_3 : Int),
 ∃ (n_4 : Int),
 ∃ (n_5 : Int),
 ∃ (n_6 : Int),
 ∃ (n_7 : Int),
 (plainA (some (Addr.mk d 0 none)) = true ∧
 h'.cellsAt d 0 13 =
 some [Value.int IntKind.i64 n, Value.slice a l c, Value.int IntKind.i64 n_1, Value.slice a_1 l_1 c_1, Value.int IntKind.i64 n_2, Value.bool b, Value.slice a_2 l_2 c_2, Value.slice a_3 l_3 c_3, Value.int IntKind.i64 n_3, Value.int IntKind.i64 n_4, Value.int IntKind.i64 n_5, Value.int IntKind.i64 n_6, Value.int IntKind.i64 n_7]) ∧
 ∀ (h'_1 : Hp),
 h'_1 =
 h'.alloc
 [Value.int IntKind.i64 (Int.ofNat 0), Value.slice none 0 0, Value.int IntKind.i64 (Int.ofNat 0), Value.slice none 0 0, Value.int IntKind.i64 (Int.ofNat 0), Value.bool false, Value.slice none 0 0, Value.slice none 0 0, Value.int IntKind.i64 (Int.ofNat 0), Value.int IntKind.i64 (Int.ofNat 0), Value.int IntKind.i64 (Int.ofNat 0),
 Value.int IntKind.i64 (Int.ofNat 0), Value.int IntKind.i64 (Int.ofNat 0)]
 101 →
 plainA (some (Addr.mk h'.next 0 none)) = true ∧
 ∃ (h'_2 : Hp),
 h'_1.store h'.next 0
 [Value.int IntKind.i64 n, Value.slice a l c, Value.int IntKind.i64 n_1, Value.slice a_1 l_1 c_1, Value.int IntKind.i64 n_2, Value.bool b, Value.slice a_2 l_2 c_2, Value.slice a_3 l_3 c_3, Value.int IntKind.i64 n_3, Value.int IntKind.i64 n_4, Value.int IntKind.i64 n_5, Value.int IntKind.i64 n_6, Value.int IntKind.i64 n_7] =
 some h'_2 ∧
 (some (Addr.mk d 0 none)).isSome = true ∧
 plainA (some (Addr.mk d 0 none)) = true ∧
 plainA (some (Addr.mk d 0 none)) = true ∧
 ∃ (a : Option Addr),
 ∃ (l : Nat),
 ∃ (c : Nat),
 (plainA (some (Addr.mk d 1 none)) = true ∧ h'_2.cellsAt d 1 1 = some [Value.slice a l c]) ∧
 C 59 [Value.slice a l c] h'_2 fun (v : Value) (h'_3 : Hp) =>
 ∃ (a : Option Addr),
 ∃ (l : Nat),
 ∃ (c : Nat),
 v = Value.slice a l c ∧
 plainA (some (Addr.mk h'.next 0 none)) = true ∧
 plainA (some (Addr.mk h'.next 0 none)) = true ∧
 plainA (some (Addr.mk h'.next 1 none)) = true ∧
 ∃ (h'_4 : Hp),
 h'_3.store h'.next 1 [Value.slice a l c] = some h'_4 ∧
 (some (Addr.mk d 0 none)).isSome = true ∧
 plainA (some (Addr.mk d 0 none)) = true ∧
 plainA (some (Addr.mk d 2 none)) = true ∧
 ∃ (a : Option Addr),
 ∃ (l : Nat),
 ∃ (c : Nat),
 (plainA (some (Addr.mk d 3 none)) = true ∧ h'_4.cellsAt d 3 1 = some [Value.slice a l c]) ∧
 C 59 [Value.slice a l c] h'_4 fun (v : Value) (h'_5 : Hp) =>
 ∃ (a : Option Addr),
 ∃ (l : Nat),
 ∃ (c : Nat),
 v = Value.slice a l c ∧
 plainA (some (Addr.mk h'.next 0 none)) = true ∧
 plainA (some (Addr.mk h'.next 2 none)) = true ∧
 plainA (some (Addr.mk h'.next 3 none)) = true ∧
 ∃ (h'_6 : Hp),
 h'_5.store h'.next 3 [Value.slice a l c] = some h'_6 ∧
 (some (Addr.mk d 0 none)).isSome = true ∧
 plainA (some (Addr.mk d 0 none)) = true ∧
 ∃ (a : Option Addr),
 ∃ (l : Nat),
 ∃ (c : Nat),
 (plainA (some (Addr.mk d 6 none)) = true ∧ h'_6.cellsAt d 6 1 = some [Value.slice a l c]) ∧
 C 60 [Value.slice a l c] h'_6 fun (v : Value) (h'_7 : Hp) =>
 ∃ (a : Option Addr),
 ∃ (l : Nat),
 ∃ (c : Nat),
 v = Value.slice a l c ∧
 plainA (some (Addr.mk h'.next 0 none)) = true ∧
 plainA (some (Addr.mk h'.next 6 none)) = true ∧
 ∃ (h'_8 : Hp),
 h'_7.store h'.next 6 [Value.slice a l c] = some h'_8 ∧
 (some (Addr.mk d 0 none)).isSome = true ∧
 plainA (some (Addr.mk d 0 none)) = true ∧
 ∃ (a : Option Addr),
 ∃ (l : Nat),
 ∃ (c : Nat),
 (plainA (some (Addr.mk d 7 none)) = true ∧ h'_8.cellsAt d 7 1 = some [Value.slice a l c]) ∧
 C 61 [Value.slice a l c] h'_8 fun (v : Value) (h'_9 : Hp) =>
 ∃ (a : Option Addr),
 ∃ (l : Nat),
 ∃ (c : Nat),
 v = Value.slice a l c ∧
 plainA (some (Addr.mk h'.next 0 none)) = true ∧
 plainA (some (Addr.mk h'.next 7 none)) = true ∧ ∃ (h'_10 : Hp), h'_9.store h'.next 7 [Value.slice a l c] = some h'_10 ∧ K (Value.pointer (some (Addr.mk h'.next 0 none))) h'_10) := by kernel_rfl

def shp68 : Nat → List (Tmp × TypeId) := fun i => []
theorem vc68 (C : FuncId → List Value → Hp → (Value → Hp → Prop) → Prop) (d : Nat) (h : Hp) (K : Value → Hp → Prop) : vBody Try.prog C pf shp68 Try.f68 (Try.f68.body.getD .skip) [.pointer (some ⟨d, 0, none⟩)] h K = (
 (some (Addr.mk d 0 none)).isSome = true ∧
 plainA (some (Addr.mk d 0 none)) = true ∧
 plainA (some (Addr.mk d 2 none)) = true ∧
 ∃ (n : Int),
 (plainA (some (Addr.mk d 2 none)) = true ∧ h.cellsAt d 2 1 = some [Value.int IntKind.i64 n]) ∧
 (some (Addr.mk d 0 none)).isSome = true ∧
 plainA (some (Addr.mk d 0 none)) = true ∧
 plainA (some (Addr.mk d 2 none)) = true ∧
 ∃ (a : Option Addr),
 ∃ (l : Nat),
 ∃ (c : Nat),
 (plainA (some (Addr.mk d 3 none)) = true ∧ h.cellsAt d 3 1 = some [Value.slice a l c]) ∧
 C 59 [Value.slice a l c] h fun (v : Value) (h' : Hp) =>
 ∃ (a : Option Addr),
 ∃ (l : Nat),
 ∃ (c : Nat),
 v = Value.slice a l c ∧ (plainA (some (Addr.mk d 2 none)) = true ∧ h'.cellsAt d 2 1 = some [Value.int IntKind.i64 n]) ∧ (some (Addr.mk d 0 none)).isSome = true ∧ plainA (some (Addr.mk d 0 none)) = true ∧ plainA (some (Addr.mk d 0 none)) = true ∧ ∃ (h'_1 : Hp), h'.store d 0 [Value.int IntKind.i64 n, Value.slice a l c] = some h'_1 ∧ K (Value.tuple (Array.mk [])) h'_1) := by kernel_rfl

def shp55 : Nat → List (Tmp × TypeId) := fun i => []
theorem vc55 (C : FuncId → List Value → Hp → (Value → Hp → Prop) → Prop) (d : Nat) (n : Int) (h : Hp) (K : Value → Hp → Prop) : vBody Try.prog C pf shp55 Try.f55 (Try.f55.body.getD .skip) [.pointer (some ⟨d, 0, none⟩), .int .u32 n] h K = (
 C 62 [Value.pointer (some (Addr.mk d 0 none))] h fun (v : Value) (h' : Hp) =>
 ∃ (n_1 : Int),
 v = Value.int IntKind.i64 n_1 ∧
 if neI n_1 0 = true then K (Value.tuple (Array.mk [Value.string (ByteArray.mk (Array.mk [])), Value.int IntKind.i64 n_1])) h'
 else
 (some (Addr.mk d 0 none)).isSome = true ∧
 plainA (some (Addr.mk d 0 none)) = true ∧
 C 92 [Value.pointer (some (Addr.mk d 0 none)), Value.int IntKind.u32 n] h' fun (v : Value) (h' : Hp) =>
 ∃ (b : Bool),
 v = Value.bool b ∧
 if notB b = true then K (Value.tuple (Array.mk [Value.string (ByteArray.mk (Array.mk [])), Value.int IntKind.i64 41])) h'
 else
 (some (Addr.mk d 0 none)).isSome = true ∧
 plainA (some (Addr.mk d 0 none)) = true ∧
 plainA (some (Addr.mk d 0 none)) = true ∧
 ∃ (a : Option Addr),
 ∃ (l : Nat), ∃ (c : Nat), (plainA (some (Addr.mk d 1 none)) = true ∧ h'.cellsAt d 1 1 = some [Value.slice a l c]) ∧ (a.isSome = true ∧ inR n l) ∧ ∃ (s : ByteArray), (plainA (some (Addr.mk (blk a) (plusI (off a) n 1) none)) = true ∧ h'.cellsAt (blk a) (plusI (off a) n 1) 1 = some [Value.string s]) ∧ K (Value.tuple (Array.mk [Value.string s, Value.int IntKind.i64 0])) h') := by kernel_rfl

def shp93 : Nat → List (Tmp × TypeId) := fun i => []
theorem vc93 (C : FuncId → List Value → Hp → (Value → Hp → Prop) → Prop) (p o : Nat) (h : Hp) (K : Value → Hp → Prop) : vBody Try.prog C pf shp93 Try.f93 (Try.f93.body.getD .skip) [.pointer (some ⟨p, o, none⟩)] h K = (
 (some (Addr.mk p o none)).isSome = true ∧ plainA (some (Addr.mk p o none)) = true ∧ ∃ (a : Option Addr), ∃ (l : Nat), ∃ (c : Nat), (plainA (some (Addr.mk p (plusN o 1) none)) = true ∧ h.cellsAt p (plusN o 1) 1 = some [Value.slice a l c]) ∧ K (Value.int IntKind.i64 (natI l)) h) := by kernel_rfl

def shp92 : Nat → List (Tmp × TypeId) := fun i => []
theorem vc92 (C : FuncId → List Value → Hp → (Value → Hp → Prop) → Prop) (p o : Nat) (n : Int) (h : Hp) (K : Value → Hp → Prop) : vBody Try.prog C pf shp92 Try.f92 (Try.f92.body.getD .skip) [.pointer (some ⟨p, o, none⟩), .int .u32 n] h K = (
 (some (Addr.mk p o none)).isSome = true ∧ plainA (some (Addr.mk p o none)) = true ∧ ∃ (a : Option Addr), ∃ (l : Nat), ∃ (c : Nat), (plainA (some (Addr.mk p (plusN o 1) none)) = true ∧ h.cellsAt p (plusN o 1) 1 = some [Value.slice a l c]) ∧ K (Value.bool (ltI (toW IntKind.u64 n) (toW IntKind.u64 (natI l)))) h) := by kernel_rfl

def shp91 : Nat → List (Tmp × TypeId) := fun i => if i = 0 then [] else []
theorem vc91 (C : FuncId → List Value → Hp → (Value → Hp → Prop) → Prop) (p o : Nat) (n : Int) (h : Hp) (K : Value → Hp → Prop) : vBody Try.prog C pf shp91 Try.f91 (Try.f91.body.getD .skip) [.pointer (some ⟨p, o, none⟩), .int .i64 n] h K = (
 ∃ (I : List Value → Nat → Hp → Prop),
 (∃ (m : Nat), I [] m h) ∧
 ∀ (m : Nat) (h : Hp),
 I [] m h →
 (some (Addr.mk p o none)).isSome = true ∧
 plainA (some (Addr.mk p o none)) = true ∧
 ∃ (a : Option Addr),
 ∃ (l : Nat),
 ∃ (c : Nat),
 (plainA (some (Addr.mk p (plusN o 1) none)) = true ∧ h.cellsAt p (plusN o 1) 1 = some [Value.slice a l c]) ∧
 if ltI (natI l) n = true then
 (some (Addr.mk p o none)).isSome = true ∧
 plainA (some (Addr.mk p o none)) = true ∧
 ∃ (a : Option Addr),
 ∃ (l : Nat),
 ∃ (c : Nat),
 (plainA (some (Addr.mk p (plusN o 1) none)) = true ∧ h.cellsAt p (plusN o 1) 1 = some [Value.slice a l c]) ∧
 (some (Addr.mk p o none)).isSome = true ∧
 plainA (some (Addr.mk p o none)) = true ∧
 ∃ (n : Int),
 (plainA (some (Addr.mk p o none)) = true ∧ h.cellsAt p o 1 = some [Value.int IntKind.i64 n]) ∧
 ∃ (a_1 : Option Addr),
 ∃ (m_1 : Nat),
 ∃ (n_1 : Nat),
 ∃ (h' : Hp),
 cmakeSlice Try.prog 95 (Value.int IntKind.i64 n) (Value.int IntKind.i64 n) h = some (Value.slice a_1 m_1 n_1, h') ∧
 (plainA (some (Addr.mk p (plusN o 1) none)) = true ∧ h'.cellsAt p (plusN o 1) 1 = some [Value.slice a l c]) ∧
 ∃ (s : ByteArray),
 readStr a_1 m_1 h' s ∧
 ∀ (h'_1 : Hp),
 h'_1 = h'.alloc [Value.string s] 9 →
 (plainA (some (Addr.mk p (plusN o 1) none)) = true ∧ h'_1.cellsAt p (plusN o 1) 1 = some [Value.slice a l c]) ∧
 ∃ (a_3 : Option Addr),
 ∃ (m_2 : Nat),
 ∃ (n : Nat),
 ∃ (h'_2 : Hp),
 cappend Try.prog 40 40 (Value.slice a l c) (Value.slice (some (Addr.mk h'.next 0 none)) 1 1) h'_1 = some (Value.slice a_3 m_2 n, h'_2) ∧
 (some (Addr.mk p o none)).isSome = true ∧ plainA (some (Addr.mk p o none)) = true ∧ plainA (some (Addr.mk p (plusN o 1) none)) = true ∧ ∃ (h' : Hp), h'_2.store p (plusN o 1) [Value.slice a_3 m_2 n] = some h' ∧ ∃ (m' : Nat), lessN m' m ∧ I [] m' h'
 else K (Value.tuple (Array.mk [])) h) := by kernel_rfl

def shp94 : Nat → List (Tmp × TypeId) := fun i => if i = 5 then [(30, 3)] else []
theorem vc94 (C : FuncId → List Value → Hp → (Value → Hp → Prop) → Prop) (p o : Nat) (n : Int) (s : ByteArray) (f : Int) (h : Hp) (K : Value → Hp → Prop) : vBody Try.prog C pf shp94 Try.f94 (Try.f94.body.getD .skip) [.pointer (some ⟨p, o, none⟩), .int .i64 n, .string s, .int .u8 f] h K = (
 if eqI f 0 = true then K (Value.tuple (Array.mk [])) h
 else
 C 91 [Value.pointer (some (Addr.mk p o none)), Value.int IntKind.i64 (addW IntKind.i64 n 1)] h fun (v : Value) (h' : Hp) =>
 v = Value.tuple (Array.mk []) ∧
 (some (Addr.mk p o none)).isSome = true ∧
 plainA (some (Addr.mk p o none)) = true ∧
 ∃ (a : Option Addr),
 ∃ (l : Nat),
 ∃ (c : Nat),
 (plainA (some (Addr.mk p (plusN o 1) none)) = true ∧ h'.cellsAt p (plusN o 1) 1 = some [Value.slice a l c]) ∧
 (a.isSome = true ∧ inR n l) ∧
 ∃ (s_1 : ByteArray),
 (plainA (some (Addr.mk (blk a) (plusI (off a) n 1) none)) = true ∧ h'.cellsAt (blk a) (plusI (off a) n 1) 1 = some [Value.string s_1]) ∧
 ∀ (h'_1 : Hp),
 h'_1 = h'.alloc (byteCells s_1) 5 →
 (some (Addr.mk p o none)).isSome = true ∧
 plainA (some (Addr.mk p o none)) = true ∧
 ∃ (n_1 : Int),
 (plainA (some (Addr.mk p o none)) = true ∧ h'_1.cellsAt p o 1 = some [Value.int IntKind.i64 n_1]) ∧
 nonzero 8 ∧
 ∃ (I : List Value → Nat → Hp → Prop),
 (∃ (m : Nat), I [Value.int IntKind.i64 0] m h'_1) ∧
 ∀ (n_2 : Int) (m : Nat) (h : Hp),
 I [Value.int IntKind.i64 n_2] m h →
 if ltI n_2 8 = true then
 nonneg n_2 ∧
 if neI (andW IntKind.u8 f (shlW IntKind.u8 1 n_2)) 0 = true then
 cutOk (mulW IntKind.i64 n_2 (quoW IntKind.i64 n_1 8)) (mulW IntKind.i64 (addW IntKind.i64 n_2 1) (quoW IntKind.i64 n_1 8)) (mulW IntKind.i64 (addW IntKind.i64 n_2 1) (quoW IntKind.i64 n_1 8)) (natI (lenS s_1)) ∧
 subOk s (mulW IntKind.i64 n_2 (quoW IntKind.i64 n_1 8)) (mulW IntKind.i64 (addW IntKind.i64 n_2 1) (quoW IntKind.i64 n_1 8)) ∧
 ∃ (n : Int),
 ∃ (h'_2 : Hp),
 ccopy Try.prog 95
 (Value.slice (cutE (mulW IntKind.i64 n_2 (quoW IntKind.i64 n_1 8)) 1 (some (Addr.mk h'.next 0 (some 1)))) (diffN (mulW IntKind.i64 (addW IntKind.i64 n_2 1) (quoW IntKind.i64 n_1 8)) (mulW IntKind.i64 n_2 (quoW IntKind.i64 n_1 8)))
 (diffN (mulW IntKind.i64 (addW IntKind.i64 n_2 1) (quoW IntKind.i64 n_1 8)) (mulW IntKind.i64 n_2 (quoW IntKind.i64 n_1 8))))
 (Value.string (strSub s (mulW IntKind.i64 n_2 (quoW IntKind.i64 n_1 8)) (mulW IntKind.i64 (addW IntKind.i64 n_2 1) (quoW IntKind.i64 n_1 8)))) h =
 some (Value.int IntKind.i64 n, h'_2) ∧
 ∃ (m' : Nat), lessN m' m ∧ I [Value.int IntKind.i64 (addW IntKind.i64 n_2 1)] m' h'_2
 else ∃ (m' : Nat), lessN m' m ∧ I [Value.int IntKind.i64 (addW IntKind.i64 n_2 1)] m' h
 else
 (some (Addr.mk p o none)).isSome = true ∧
 plainA (some (Addr.mk p o none)) = true ∧
 ∃ (a : Option Addr),
 ∃ (l : Nat),
 ∃ (c : Nat),
 (plainA (some (Addr.mk p (plusN o 1) none)) = true ∧ h.cellsAt p (plusN o 1) 1 = some [Value.slice a l c]) ∧
 ∃ (s : ByteArray), readStr (some (Addr.mk h'.next 0 (some 1))) (lenS s_1) h s ∧ (a.isSome = true ∧ inR n l) ∧ plainA (some (Addr.mk (blk a) (plusI (off a) n 1) none)) = true ∧ ∃ (h' : Hp), h.store (blk a) (plusI (off a) n 1) [Value.string s] = some h' ∧ K (Value.tuple (Array.mk [])) h') := by kernel_rfl

def shp59 : Nat → List (Tmp × TypeId) := fun i => []
theorem vc59 (C : FuncId → List Value → Hp → (Value → Hp → Prop) → Prop) (a : Option Addr) (l c : Nat) (h : Hp) (K : Value → Hp → Prop) : vBody Try.prog C pf shp59 Try.f59 (Try.f59.body.getD .skip) [.slice a l c] h K = (
 if isN a = true then K (Value.slice none 0 0) h else ∀ (h' : Hp), h' = h.alloc [] 9 → ∃ (a_2 : Option Addr), ∃ (m : Nat), ∃ (n : Nat), ∃ (h'_1 : Hp), cappend Try.prog 40 40 (Value.slice (some (Addr.mk h.next 0 none)) 0 0) (Value.slice a l c) h' = some (Value.slice a_2 m n, h'_1) ∧ K (Value.slice a_2 m n) h'_1) := by kernel_rfl

def shp60 : Nat → List (Tmp × TypeId) := fun i => []
theorem vc60 (C : FuncId → List Value → Hp → (Value → Hp → Prop) → Prop) (a : Option Addr) (l c : Nat) (h : Hp) (K : Value → Hp → Prop) : vBody Try.prog C pf shp60 Try.f60 (Try.f60.body.getD .skip) [.slice a l c] h K = (
 if isN a = true then K (Value.slice none 0 0) h else ∀ (h' : Hp), h' = h.alloc [] 103 → ∃ (a_2 : Option Addr), ∃ (m : Nat), ∃ (n : Nat), ∃ (h'_1 : Hp), cappend Try.prog 98 98 (Value.slice (some (Addr.mk h.next 0 none)) 0 0) (Value.slice a l c) h' = some (Value.slice a_2 m n, h'_1) ∧ K (Value.slice a_2 m n) h'_1) := by kernel_rfl

def shp61 : Nat → List (Tmp × TypeId) := fun i => []
theorem vc61 (C : FuncId → List Value → Hp → (Value → Hp → Prop) → Prop) (a : Option Addr) (l c : Nat) (h : Hp) (K : Value → Hp → Prop) : vBody Try.prog C pf shp61 Try.f61 (Try.f61.body.getD .skip) [.slice a l c] h K = (
 if isN a = true then K (Value.slice none 0 0) h else ∀ (h' : Hp), h' = h.alloc [] 108 → ∃ (a_2 : Option Addr), ∃ (m : Nat), ∃ (n : Nat), ∃ (h'_1 : Hp), cappend Try.prog 99 99 (Value.slice (some (Addr.mk h.next 0 none)) 0 0) (Value.slice a l c) h' = some (Value.slice a_2 m n, h'_1) ∧ K (Value.slice a_2 m n) h'_1) := by kernel_rfl

def shp72 : Nat → List (Tmp × TypeId) := fun i => []
theorem vc72 (C : FuncId → List Value → Hp → (Value → Hp → Prop) → Prop) (a : Option Addr) (l c : Nat) (h : Hp) (K : Value → Hp → Prop) : vBody Try.prog C pf shp72 Try.f72 (Try.f72.body.getD .skip) [.slice a l c] h K = (
 if isN a = true then K (Value.slice none 0 0) h else ∀ (h' : Hp), h' = h.alloc [] 57 → ∃ (a_2 : Option Addr), ∃ (m : Nat), ∃ (n : Nat), ∃ (h'_1 : Hp), cappend Try.prog 36 36 (Value.slice (some (Addr.mk h.next 0 none)) 0 0) (Value.slice a l c) h' = some (Value.slice a_2 m n, h'_1) ∧ K (Value.slice a_2 m n) h'_1) := by kernel_rfl

def shp95 : Nat → List (Tmp × TypeId) := fun i => if i = 2 then [(8, 3)] else []
theorem vc95 (C : FuncId → List Value → Hp → (Value → Hp → Prop) → Prop) (a : Option Addr) (l c : Nat) (x : Int) (h : Hp) (K : Value → Hp → Prop) : vBody Try.prog C pf shp95 Try.f95 (Try.f95.body.getD .skip) [.slice a l c, .int .i64 x] h K = (
 ∃ (I : List Value → Nat → Hp → Prop),
 (∃ (m : Nat), I [Value.int IntKind.i64 0] m h) ∧
 ∀ (n : Int) (m : Nat) (h : Hp),
 I [Value.int IntKind.i64 n] m h →
 if ltI n (natI l) = true then (a.isSome = true ∧ inR n l) ∧ ∃ (n_1 : Int), (plainA (some (Addr.mk (blk a) (plusI (off a) n 1) none)) = true ∧ h.cellsAt (blk a) (plusI (off a) n 1) 1 = some [Value.int IntKind.i64 n_1]) ∧ if eqI x n_1 = true then K (Value.int IntKind.i64 n) h else ∃ (m' : Nat), lessN m' m ∧ I [Value.int IntKind.i64 (addW IntKind.i64 n 1)] m' h
 else K (Value.int IntKind.i64 (-1)) h) := by kernel_rfl

def shp65 : Nat → List (Tmp × TypeId) := fun i => []
theorem vc65 (C : FuncId → List Value → Hp → (Value → Hp → Prop) → Prop) (a : Option Addr) (l c : Nat) (x : Int) (h : Hp) (K : Value → Hp → Prop) : vBody Try.prog C pf shp65 Try.f65 (Try.f65.body.getD .skip) [.slice a l c, .int .i64 x] h K = (
 C 95 [Value.slice a l c, Value.int IntKind.i64 x] h fun (v : Value) (h' : Hp) => ∃ (n : Int), v = Value.int IntKind.i64 n ∧ K (Value.bool (geI n 0)) h') := by kernel_rfl

def shp67 : Nat → List (Tmp × TypeId) := fun i => []
theorem vc67 (C : FuncId → List Value → Hp → (Value → Hp → Prop) → Prop) (s : ByteArray) (p : Nat) (h : Hp) (K : Value → Hp → Prop) : vBody Try.prog C pf shp67 Try.f67 (Try.f67.body.getD .skip) [.string s, .pointer (some ⟨p, 0, none⟩)] h K = (
 ∃ (n : Int), (plainA (some (Addr.mk p 0 none)) = true ∧ h.cellsAt p 0 1 = some [Value.int IntKind.i64 n]) ∧ K (Value.bool (neI (natI (lenS s)) n)) h) := by kernel_rfl

def shp96 : Nat → List (Tmp × TypeId) := fun i => if i = 2 then [(8, 3)] else []
theorem vc96 (C : FuncId → List Value → Hp → (Value → Hp → Prop) → Prop) (a : Option Addr) (l c p : Nat) (h : Hp) (K : Value → Hp → Prop) : vBody Try.prog C pf shp96 Try.f96 (Try.f96.body.getD .skip) [.slice a l c, .func (.func 67) #[] #[.pointer (some ⟨p, 0, none⟩)]] h K = (
 ∃ (I : List Value → Nat → Hp → Prop),
 (∃ (m : Nat), I [Value.int IntKind.i64 0] m h) ∧
 ∀ (n : Int) (m : Nat) (h : Hp),
 I [Value.int IntKind.i64 n] m h →
 if ltI n (natI l) = true then
 (a.isSome = true ∧ inR n l) ∧
 ∃ (s : ByteArray),
 (plainA (some (Addr.mk (blk a) (plusI (off a) n 1) none)) = true ∧ h.cellsAt (blk a) (plusI (off a) n 1) 1 = some [Value.string s]) ∧
 C 67 [Value.string s, Value.pointer (some (Addr.mk p 0 none))] h fun (v : Value) (h' : Hp) => ∃ (b : Bool), v = Value.bool b ∧ if b = true then K (Value.int IntKind.i64 n) h' else ∃ (m' : Nat), lessN m' m ∧ I [Value.int IntKind.i64 (addW IntKind.i64 n 1)] m' h'
 else K (Value.int IntKind.i64 (-1)) h) := by kernel_rfl

def shp66 : Nat → List (Tmp × TypeId) := fun i => []
theorem vc66 (C : FuncId → List Value → Hp → (Value → Hp → Prop) → Prop) (a : Option Addr) (l c p : Nat) (h : Hp) (K : Value → Hp → Prop) : vBody Try.prog C pf shp66 Try.f66 (Try.f66.body.getD .skip) [.slice a l c, .func (.func 67) #[] #[.pointer (some ⟨p, 0, none⟩)]] h K = (
 C 96 [Value.slice a l c, Value.func (Fn.func 67) (Array.mk []) (Array.mk [Value.pointer (some (Addr.mk p 0 none))])] h fun (v : Value) (h' : Hp) => ∃ (n : Int), v = Value.int IntKind.i64 n ∧ K (Value.bool (geI n 0)) h') := by kernel_rfl

def shp97 : Nat → List (Tmp × TypeId) := fun i => []
theorem vc97 (C : FuncId → List Value → Hp → (Value → Hp → Prop) → Prop) (on nth : Int) (pw : Bool) (a : Option Addr) (l c : Nat) (left : Int) (h : Hp) (K : Value → Hp → Prop) : vBody Try.prog C pf shp97 Try.f97 (Try.f97.body.getD .skip) [.agg #[.int .u8 on, .int .i64 nth, .bool pw, .slice a l c, .int .i64 left]] h K = (
 ∀ (h' : Hp), h' = h.alloc [Value.int IntKind.u8 on, Value.int IntKind.i64 nth, Value.bool pw, Value.slice a l c, Value.int IntKind.i64 left] 108 → plainA (some (Addr.mk h.next 0 none)) = true ∧ ∃ (n : Int), (plainA (some (Addr.mk h.next 4 none)) = true ∧ h'.cellsAt h.next 4 1 = some [Value.int IntKind.i64 n]) ∧ K (Value.bool (eqI n 0)) h') := by kernel_rfl

def shp98 : Nat → List (Tmp × TypeId) := fun i => if i = 2 then [(8, 3)] else []
theorem vc98 (C : FuncId → List Value → Hp → (Value → Hp → Prop) → Prop) (a : Option Addr) (l c : Nat) (h : Hp) (K : Value → Hp → Prop) : vBody Try.prog C pf shp98 Try.f98 (Try.f98.body.getD .skip) [.slice a l c, .func (.func 97) #[] #[]] h K = (
 ∃ (I : List Value → Nat → Hp → Prop),
 (∃ (m : Nat), I [Value.int IntKind.i64 0] m h) ∧
 ∀ (n : Int) (m : Nat) (h : Hp),
 I [Value.int IntKind.i64 n] m h →
 if ltI n (natI l) = true then
 (a.isSome = true ∧ inR n l) ∧
 ∃ (n_1 : Int),
 ∃ (n_2 : Int),
 ∃ (b : Bool),
 ∃ (a_2 : Option Addr),
 ∃ (l : Nat),
 ∃ (c : Nat),
 ∃ (n_3 : Int),
 (plainA (some (Addr.mk (blk a) (plusI (off a) n 5) none)) = true ∧ h.cellsAt (blk a) (plusI (off a) n 5) 5 = some [Value.int IntKind.u8 n_1, Value.int IntKind.i64 n_2, Value.bool b, Value.slice a_2 l c, Value.int IntKind.i64 n_3]) ∧
 C 97 [Value.agg (Array.mk [Value.int IntKind.u8 n_1, Value.int IntKind.i64 n_2, Value.bool b, Value.slice a_2 l c, Value.int IntKind.i64 n_3])] h fun (v : Value) (h' : Hp) => ∃ (b : Bool), v = Value.bool b ∧ if b = true then K (Value.int IntKind.i64 n) h' else ∃ (m' : Nat), lessN m' m ∧ I [Value.int IntKind.i64 (addW IntKind.i64 n 1)] m' h'
 else K (Value.int IntKind.i64 (-1)) h) := by kernel_rfl

def shp99 : Nat → List (Tmp × TypeId) := fun i => if i = 5 then [(5, 3), (6, 3)] else []
theorem vc99 (C : FuncId → List Value → Hp → (Value → Hp → Prop) → Prop) (a : Option Addr) (l c : Nat) (h : Hp) (K : Value → Hp → Prop) : vBody Try.prog C pf shp99 Try.f99 (Try.f99.body.getD .skip) [.slice a l c, .func (.func 97) #[] #[]] h K = (
 C 98 [Value.slice a l c, Value.func (Fn.func 97) (Array.mk []) (Array.mk [])] h fun (v : Value) (h' : Hp) =>
 ∃ (n : Int),
 v = Value.int IntKind.i64 n ∧
 if eqI n (-1) = true then K (Value.slice a l c) h'
 else
 ∃ (I : List Value → Nat → Hp → Prop),
 (∃ (m : Nat), I [Value.int IntKind.i64 n, Value.int IntKind.i64 (addW IntKind.i64 n 1)] m h') ∧
 ∀ (n n_1 : Int) (m : Nat) (h : Hp),
 I [Value.int IntKind.i64 n, Value.int IntKind.i64 n_1] m h →
 if ltI n_1 (natI l) = true then
 (a.isSome = true ∧ inR n_1 l) ∧
 ∃ (n_2 : Int),
 ∃ (n_3 : Int),
 ∃ (b : Bool),
 ∃ (a_2 : Option Addr),
 ∃ (l_1 : Nat),
 ∃ (c : Nat),
 ∃ (n_4 : Int),
 (plainA (some (Addr.mk (blk a) (plusI (off a) n_1 5) none)) = true ∧ h.cellsAt (blk a) (plusI (off a) n_1 5) 5 = some [Value.int IntKind.u8 n_2, Value.int IntKind.i64 n_3, Value.bool b, Value.slice a_2 l_1 c, Value.int IntKind.i64 n_4]) ∧
 ∀ (h' : Hp),
 h' = h.alloc [Value.int IntKind.u8 (Int.ofNat 0), Value.int IntKind.i64 (Int.ofNat 0), Value.bool false, Value.slice none 0 0, Value.int IntKind.i64 (Int.ofNat 0)] 108 →
 plainA (some (Addr.mk h.next 0 none)) = true ∧
 ∃ (h'_1 : Hp),
 h'.store h.next 0 [Value.int IntKind.u8 n_2, Value.int IntKind.i64 n_3, Value.bool b, Value.slice a_2 l_1 c, Value.int IntKind.i64 n_4] = some h'_1 ∧
 ∃ (n_5 : Int),
 ∃ (n_6 : Int),
 ∃ (b : Bool),
 ∃ (a_4 : Option Addr),
 ∃ (l_2 : Nat),
 ∃ (c : Nat),
 ∃ (n_7 : Int),
 (plainA (some (Addr.mk h.next 0 none)) = true ∧ h'_1.cellsAt h.next 0 5 = some [Value.int IntKind.u8 n_5, Value.int IntKind.i64 n_6, Value.bool b, Value.slice a_4 l_2 c, Value.int IntKind.i64 n_7]) ∧
 C 97 [Value.agg (Array.mk [Value.int IntKind.u8 n_5, Value.int IntKind.i64 n_6, Value.bool b, Value.slice a_4 l_2 c, Value.int IntKind.i64 n_7])] h'_1 fun (v : Value) (h' : Hp) =>
 ∃ (b : Bool),
 v = Value.bool b ∧
 if notB b = true then
 ∃ (n_8 : Int),
 ∃ (n_9 : Int),
 ∃ (b : Bool),
 ∃ (a_5 : Option Addr),
 ∃ (l_3 : Nat),
 ∃ (c : Nat),
 ∃ (n_10 : Int),
 (plainA (some (Addr.mk h.next 0 none)) = true ∧ h'.cellsAt h.next 0 5 = some [Value.int IntKind.u8 n_8, Value.int IntKind.i64 n_9, Value.bool b, Value.slice a_5 l_3 c, Value.int IntKind.i64 n_10]) ∧
 (a.isSome = true ∧ inR n l) ∧
 plainA (some (Addr.mk (blk a) (plusI (off a) n 5) none)) = true ∧
 ∃ (h'_2 : Hp),
 h'.store (blk a) (plusI (off a) n 5) [Value.int IntKind.u8 n_8, Value.int IntKind.i64 n_9, Value.bool b, Value.slice a_5 l_3 c, Value.int IntKind.i64 n_10] = some h'_2 ∧ ∃ (m' : Nat), lessN m' m ∧ I [Value.int IntKind.i64 (addW IntKind.i64 n 1), Value.int IntKind.i64 (addW IntKind.i64 n_1 1)] m' h'_2
 else ∃ (m' : Nat), lessN m' m ∧ I [Value.int IntKind.i64 n, Value.int IntKind.i64 (addW IntKind.i64 n_1 1)] m' h'
 else (cutOk n (natI l) (natI c) (natI c) ∧ spotOk 5 a) ∧ ∃ (h' : Hp), cclear Try.prog 99 (Value.slice (cutA n 5 a) (diffN (natI l) n) (diffN (natI c) n)) h = some (Value.tuple (Array.mk []), h') ∧ (cutOk 0 n (natI c) (natI c) ∧ spotOk 5 a) ∧ K (Value.slice (cutA 0 5 a) (diffN n 0) (diffN (natI c) 0)) h') := by kernel_rfl

def shp73 : Nat → List (Tmp × TypeId) := fun i => if i = 3 then [(18, 3)] else []
theorem vc73 (C : FuncId → List Value → Hp → (Value → Hp → Prop) → Prop) (d : Nat) (kind refused : Int) (a : Option Addr) (l c : Nat) (h : Hp) (K : Value → Hp → Prop) : vBody Try.prog C pf shp73 Try.f73 (Try.f73.body.getD .skip) [.pointer (some ⟨d, 0, none⟩), .int .u8 kind, .int .i64 refused, .slice a l c] h K = (
 (some (Addr.mk d 0 none)).isSome = true ∧
 plainA (some (Addr.mk d 0 none)) = true ∧
 ∃ (a_1 : Option Addr),
 ∃ (l_1 : Nat),
 ∃ (c_1 : Nat),
 (plainA (some (Addr.mk d 7 none)) = true ∧ h.cellsAt d 7 1 = some [Value.slice a_1 l_1 c_1]) ∧
 ∃ (I : List Value → Nat → Hp → Prop),
 (∃ (m : Nat), I [Value.int IntKind.i64 0] m h) ∧
 ∀ (n : Int) (m : Nat) (h : Hp),
 I [Value.int IntKind.i64 n] m h →
 if ltI n (natI l_1) = true then
 (some (Addr.mk d 0 none)).isSome = true ∧
 plainA (some (Addr.mk d 0 none)) = true ∧
 ∃ (a : Option Addr),
 ∃ (l : Nat),
 ∃ (c : Nat),
 (plainA (some (Addr.mk d 7 none)) = true ∧ h.cellsAt d 7 1 = some [Value.slice a l c]) ∧
 (a.isSome = true ∧ inR n l) ∧
 plainA (some (Addr.mk (blk a) (plusI (off a) n 5) none)) = true ∧
 plainA (some (Addr.mk (blk a) (plusI (off a) n 5) none)) = true ∧
 ∃ (n_1 : Int),
 (plainA (some (Addr.mk (blk a) (plusI (off a) n 5) none)) = true ∧ h.cellsAt (blk a) (plusI (off a) n 5) 1 = some [Value.int IntKind.u8 n_1]) ∧
 (notB (eqI n_1 0) = true → (some (Addr.mk d 0 none)).isSome = true) ∧
 (notB (eqI n_1 0) = true → plainA (some (Addr.mk d 0 none)) = true) ∧
 ∃ (a : Option Addr),
 ∃ (l : Nat),
 ∃ (c : Nat),
 (notB (eqI n_1 0) = true → plainA (some (Addr.mk d 7 none)) = true ∧ h.cellsAt d 7 1 = some [Value.slice a l c]) ∧
 (notB (eqI n_1 0) = true → a.isSome = true ∧ inR n l) ∧
 (notB (eqI n_1 0) = true → plainA (some (Addr.mk (blk a) (plusI (off a) n 5) none)) = true) ∧
 (notB (eqI n_1 0) = true → plainA (some (Addr.mk (blk a) (plusI (off a) n 5) none)) = true) ∧
 ∃ (n_2 : Int),
 (notB (eqI n_1 0) = true → plainA (some (Addr.mk (blk a) (plusI (off a) n 5) none)) = true ∧ h.cellsAt (blk a) (plusI (off a) n 5) 1 = some [Value.int IntKind.u8 n_2]) ∧
 if sel (eqI n_1 0) true (eqI n_2 kind) = true then
 (some (Addr.mk d 0 none)).isSome = true ∧
 plainA (some (Addr.mk d 0 none)) = true ∧
 ∃ (a : Option Addr),
 ∃ (l : Nat),
 ∃ (c : Nat),
 (plainA (some (Addr.mk d 7 none)) = true ∧ h.cellsAt d 7 1 = some [Value.slice a l c]) ∧
 (a.isSome = true ∧ inR n l) ∧
 plainA (some (Addr.mk (blk a) (plusI (off a) n 5) none)) = true ∧
 ∃ (n_3 : Int),
 (plainA (some (Addr.mk (blk a) (plusN (plusI (off a) n 5) 4) none)) = true ∧ h.cellsAt (blk a) (plusN (plusI (off a) n 5) 4) 1 = some [Value.int IntKind.i64 n_3]) ∧
 (a.isSome = true ∧ inR n l) ∧
 plainA (some (Addr.mk (blk a) (plusI (off a) n 5) none)) = true ∧
 plainA (some (Addr.mk (blk a) (plusN (plusI (off a) n 5) 4) none)) = true ∧ ∃ (h' : Hp), h.store (blk a) (plusN (plusI (off a) n 5) 4) [Value.int IntKind.i64 (subW IntKind.i64 n_3 1)] = some h' ∧ ∃ (m' : Nat), lessN m' m ∧ I [Value.int IntKind.i64 (addW IntKind.i64 n 1)] m' h'
 else ∃ (m' : Nat), lessN m' m ∧ I [Value.int IntKind.i64 (addW IntKind.i64 n 1)] m' h
 else
 (some (Addr.mk d 0 none)).isSome = true ∧
 plainA (some (Addr.mk d 0 none)) = true ∧
 ∃ (a_3 : Option Addr),
 ∃ (l_2 : Nat),
 ∃ (c_2 : Nat),
 (plainA (some (Addr.mk d 7 none)) = true ∧ h.cellsAt d 7 1 = some [Value.slice a_3 l_2 c_2]) ∧
 C 98 [Value.slice a_3 l_2 c_2, Value.func (Fn.func 97) (Array.mk []) (Array.mk [])] h fun (v : Value) (h' : Hp) =>
 ∃ (n : Int),
 v = Value.int IntKind.i64 n ∧
 if ltI n 0 = true then
 (some (Addr.mk d 0 none)).isSome = true ∧
 plainA (some (Addr.mk d 0 none)) = true ∧
 ∃ (a_4 : Option Addr),
 ∃ (l_3 : Nat),
 ∃ (c_3 : Nat),
 (plainA (some (Addr.mk d 6 none)) = true ∧ h'.cellsAt d 6 1 = some [Value.slice a_4 l_3 c_3]) ∧
 ∃ (a_5 : Option Addr),
 ∃ (m : Nat),
 ∃ (n : Nat),
 ∃ (h'_1 : Hp),
 cappend Try.prog 98 98 (Value.slice a_4 l_3 c_3) (Value.slice a l c) h' = some (Value.slice a_5 m n, h'_1) ∧ (some (Addr.mk d 0 none)).isSome = true ∧ plainA (some (Addr.mk d 0 none)) = true ∧ plainA (some (Addr.mk d 6 none)) = true ∧ ∃ (h' : Hp), h'_1.store d 6 [Value.slice a_5 m n] = some h' ∧ K (Value.int IntKind.i64 0) h'
 else
 (some (Addr.mk d 0 none)).isSome = true ∧
 plainA (some (Addr.mk d 0 none)) = true ∧
 ∃ (a_4 : Option Addr),
 ∃ (l_3 : Nat),
 ∃ (c_3 : Nat),
 (plainA (some (Addr.mk d 7 none)) = true ∧ h'.cellsAt d 7 1 = some [Value.slice a_4 l_3 c_3]) ∧
 (a_4.isSome = true ∧ inR n l_3) ∧
 ∃ (n_1 : Int),
 ∃ (n_2 : Int),
 ∃ (b : Bool),
 ∃ (a_5 : Option Addr),
 ∃ (l_4 : Nat),
 ∃ (c_4 : Nat),
 ∃ (n_3 : Int),
 (plainA (some (Addr.mk (blk a_4) (plusI (off a_4) n 5) none)) = true ∧ h'.cellsAt (blk a_4) (plusI (off a_4) n 5) 5 = some [Value.int IntKind.u8 n_1, Value.int IntKind.i64 n_2, Value.bool b, Value.slice a_5 l_4 c_4, Value.int IntKind.i64 n_3]) ∧
 ∀ (h'_1 : Hp),
 h'_1 = h'.alloc [Value.int IntKind.u8 (Int.ofNat 0), Value.int IntKind.i64 (Int.ofNat 0), Value.bool false, Value.slice none 0 0, Value.int IntKind.i64 (Int.ofNat 0)] 108 →
 plainA (some (Addr.mk h'.next 0 none)) = true ∧
 ∃ (h'_2 : Hp),
 h'_1.store h'.next 0 [Value.int IntKind.u8 n_1, Value.int IntKind.i64 n_2, Value.bool b, Value.slice a_5 l_4 c_4, Value.int IntKind.i64 n_3] = some h'_2 ∧
 (some (Addr.mk d 0 none)).isSome = true ∧
 plainA (some (Addr.mk d 0 none)) = true ∧
 ∃ (a_7 : Option Addr),
 ∃ (l_5 : Nat),
 ∃ (c_5 : Nat),
 (plainA (some (Addr.mk d 7 none)) = true ∧ h'_2.cellsAt d 7 1 = some [Value.slice a_7 l_5 c_5]) ∧
 C 99 [Value.slice a_7 l_5 c_5, Value.func (Fn.func 97) (Array.mk []) (Array.mk [])] h'_2 fun (v : Value) (h'_3 : Hp) =>
 ∃ (a_8 : Option Addr),
 ∃ (l_6 : Nat),
 ∃ (c_6 : Nat),
 v = Value.slice a_8 l_6 c_6 ∧
 (some (Addr.mk d 0 none)).isSome = true ∧
 plainA (some (Addr.mk d 0 none)) = true ∧
 plainA (some (Addr.mk d 7 none)) = true ∧
 ∃ (h'_4 : Hp),
 h'_3.store d 7 [Value.slice a_8 l_6 c_6] = some h'_4 ∧
 plainA (some (Addr.mk h'.next 0 none)) = true ∧
 plainA (some (Addr.mk h'.next 0 none)) = true ∧
 ∃ (b : Bool),
 (plainA (some (Addr.mk h'.next 2 none)) = true ∧ h'_4.cellsAt h'.next 2 1 = some [Value.bool b]) ∧
 if notB b = true then K (Value.int IntKind.i64 refused) h'_4
 else
 (some (Addr.mk d 0 none)).isSome = true ∧
 plainA (some (Addr.mk d 0 none)) = true ∧
 ∃ (a_9 : Option Addr),
 ∃ (l_7 : Nat),
 ∃ (c_7 : Nat),
 (plainA (some (Addr.mk d 6 none)) = true ∧ h'_4.cellsAt d 6 1 = some [Value.slice a_9 l_7 c_7]) ∧
 ∃ (a_10 : Option Addr),
 ∃ (m : Nat),
 ∃ (n : Nat),
 ∃ (h'_5 : Hp),
 cappend Try.prog 98 98 (Value.slice a_9 l_7 c_7) (Value.slice a l c) h'_4 = some (Value.slice a_10 m n, h'_5) ∧
 (some (Addr.mk d 0 none)).isSome = true ∧
 plainA (some (Addr.mk d 0 none)) = true ∧
 plainA (some (Addr.mk d 6 none)) = true ∧
 ∃ (h'_6 : Hp),
 h'_5.store d 6 [Value.slice a_10 m n] = some h'_6 ∧
 plainA (some (Addr.mk h'.next 0 none)) = true ∧
 plainA (some (Addr.mk h'.next 0 none)) = true ∧
 ∃ (a : Option Addr),
 ∃ (l : Nat),
 ∃ (c : Nat),
 (plainA (some (Addr.mk h'.next 3 none)) = true ∧ h'_6.cellsAt h'.next 3 1 = some [Value.slice a l c]) ∧
 C 63 [Value.pointer (some (Addr.mk d 0 none)), Value.slice a l c] h'_6 fun (v : Value) (h' : Hp) => v = Value.tuple (Array.mk []) ∧ K (Value.int IntKind.i64 7) h') := by kernel_rfl

def shp63 : Nat → List (Tmp × TypeId) := fun i => if i = 1 then [(11, 3)] else []
theorem vc63 (C : FuncId → List Value → Hp → (Value → Hp → Prop) → Prop) (d : Nat) (a : Option Addr) (l c : Nat) (h : Hp) (K : Value → Hp → Prop) : vBody Try.prog C pf shp63 Try.f63 (Try.f63.body.getD .skip) [.pointer (some ⟨d, 0, none⟩), .slice a l c] h K = (
 (some (Addr.mk d 0 none)).isSome = true ∧
 plainA (some (Addr.mk d 0 none)) = true ∧
 ∃ (a_1 : Option Addr),
 ∃ (l_1 : Nat),
 ∃ (c : Nat),
 (plainA (some (Addr.mk d 6 none)) = true ∧ h.cellsAt d 6 1 = some [Value.slice a_1 l_1 c]) ∧
 ∃ (I : List Value → Nat → Hp → Prop),
 (∃ (m : Nat), I [Value.int IntKind.i64 0] m h) ∧
 ∀ (n : Int) (m : Nat) (h : Hp),
 I [Value.int IntKind.i64 n] m h →
 if ltI n (natI l_1) = true then
 (a_1.isSome = true ∧ inR n l_1) ∧
 ∃ (n_1 : Int),
 ∃ (n_2 : Int),
 ∃ (n_3 : Int),
 ∃ (s : ByteArray),
 (plainA (some (Addr.mk (blk a_1) (plusI (off a_1) n 4) none)) = true ∧ h.cellsAt (blk a_1) (plusI (off a_1) n 4) 4 = some [Value.int IntKind.u8 n_1, Value.int IntKind.u32 n_2, Value.int IntKind.i64 n_3, Value.string s]) ∧
 ∀ (h' : Hp),
 h' = h.alloc [Value.int IntKind.u8 (Int.ofNat 0), Value.int IntKind.u32 (Int.ofNat 0), Value.int IntKind.i64 (Int.ofNat 0), Value.string (ByteArray.mk (Array.mk []))] 103 →
 plainA (some (Addr.mk h.next 0 none)) = true ∧
 ∃ (h'_1 : Hp),
 h'.store h.next 0 [Value.int IntKind.u8 n_1, Value.int IntKind.u32 n_2, Value.int IntKind.i64 n_3, Value.string s] = some h'_1 ∧
 (notB (geI n (natI l)) = true → a.isSome = true ∧ inR n l) ∧
 ∃ (n_4 : Int),
 (notB (geI n (natI l)) = true → plainA (some (Addr.mk (blk a) (plusI (off a) n 1) none)) = true ∧ h'_1.cellsAt (blk a) (plusI (off a) n 1) 1 = some [Value.int IntKind.u8 n_4]) ∧
 if sel (geI n (natI l)) true (eqI n_4 0) = true then ∃ (m' : Nat), lessN m' m ∧ I [Value.int IntKind.i64 (addW IntKind.i64 n 1)] m' h'_1
 else
 plainA (some (Addr.mk h.next 0 none)) = true ∧
 plainA (some (Addr.mk h.next 0 none)) = true ∧
 ∃ (n_5 : Int),
 (plainA (some (Addr.mk h.next 0 none)) = true ∧ h'_1.cellsAt h.next 0 1 = some [Value.int IntKind.u8 n_5]) ∧
 if eqI n_5 2 = true then
 (some (Addr.mk d 0 none)).isSome = true ∧
 plainA (some (Addr.mk d 0 none)) = true ∧
 plainA (some (Addr.mk h.next 0 none)) = true ∧
 plainA (some (Addr.mk h.next 0 none)) = true ∧
 ∃ (n_6 : Int),
 (plainA (some (Addr.mk h.next 2 none)) = true ∧ h'_1.cellsAt h.next 2 1 = some [Value.int IntKind.i64 n_6]) ∧
 C 91 [Value.pointer (some (Addr.mk d 2 none)), Value.int IntKind.i64 n_6] h'_1 fun (v : Value) (h' : Hp) => v = Value.tuple (Array.mk []) ∧ ∃ (m' : Nat), lessN m' m ∧ I [Value.int IntKind.i64 (addW IntKind.i64 n 1)] m' h'
 else
 (some (Addr.mk d 0 none)).isSome = true ∧
 plainA (some (Addr.mk d 0 none)) = true ∧
 plainA (some (Addr.mk h.next 0 none)) = true ∧
 plainA (some (Addr.mk h.next 0 none)) = true ∧
 ∃ (n_6 : Int),
 (plainA (some (Addr.mk h.next 1 none)) = true ∧ h'_1.cellsAt h.next 1 1 = some [Value.int IntKind.u32 n_6]) ∧
 plainA (some (Addr.mk h.next 0 none)) = true ∧
 ∃ (s : ByteArray),
 (plainA (some (Addr.mk h.next 3 none)) = true ∧ h'_1.cellsAt h.next 3 1 = some [Value.string s]) ∧
 (a.isSome = true ∧ inR n l) ∧
 ∃ (n_7 : Int),
 (plainA (some (Addr.mk (blk a) (plusI (off a) n 1) none)) = true ∧ h'_1.cellsAt (blk a) (plusI (off a) n 1) 1 = some [Value.int IntKind.u8 n_7]) ∧
 C 94 [Value.pointer (some (Addr.mk d 2 none)), Value.int IntKind.i64 (toW IntKind.i64 n_6), Value.string s, Value.int IntKind.u8 n_7] h'_1 fun (v : Value) (h' : Hp) => v = Value.tuple (Array.mk []) ∧ ∃ (m' : Nat), lessN m' m ∧ I [Value.int IntKind.i64 (addW IntKind.i64 n 1)] m' h'
 else
 (some (Addr.mk d 0 none)).isSome = true ∧
 plainA (some (Addr.mk d 0 none)) = true ∧
 plainA (some (Addr.mk d 6 none)) = true ∧
 ∃ (h' : Hp),
 h.store d 6 [Value.slice none 0 0] = some h' ∧
 (some (Addr.mk d 0 none)).isSome = true ∧
 plainA (some (Addr.mk d 0 none)) = true ∧
 plainA (some (Addr.mk d 7 none)) = true ∧
 ∃ (h'_1 : Hp),
 h'.store d 7 [Value.slice none 0 0] = some h'_1 ∧
 (some (Addr.mk d 0 none)).isSome = true ∧
 plainA (some (Addr.mk d 0 none)) = true ∧
 plainA (some (Addr.mk d 5 none)) = true ∧
 ∃ (h' : Hp),
 h'_1.store d 5 [Value.bool true] = some h' ∧
 (some (Addr.mk d 0 none)).isSome = true ∧
 plainA (some (Addr.mk d 0 none)) = true ∧
 ∃ (n : Int),
 (plainA (some (Addr.mk d 9 none)) = true ∧ h'.cellsAt d 9 1 = some [Value.int IntKind.i64 n]) ∧
 (some (Addr.mk d 0 none)).isSome = true ∧
 plainA (some (Addr.mk d 0 none)) = true ∧ plainA (some (Addr.mk d 9 none)) = true ∧ ∃ (h'_2 : Hp), h'.store d 9 [Value.int IntKind.i64 (addW IntKind.i64 n 1)] = some h'_2 ∧ C 68 [Value.pointer (some (Addr.mk d 0 none))] h'_2 fun (v : Value) (h' : Hp) => v = Value.tuple (Array.mk []) ∧ K (Value.tuple (Array.mk [])) h') := by kernel_rfl

def shp53 : Nat → List (Tmp × TypeId) := fun i => []
theorem vc53 (C : FuncId → List Value → Hp → (Value → Hp → Prop) → Prop) (d : Nat) (n : Int) (h : Hp) (K : Value → Hp → Prop) : vBody Try.prog C pf shp53 Try.f53 (Try.f53.body.getD .skip) [.pointer (some ⟨d, 0, none⟩), .int .i64 n] h K = (
 C 62 [Value.pointer (some (Addr.mk d 0 none))] h fun (v : Value) (h' : Hp) =>
 ∃ (n_1 : Int),
 v = Value.int IntKind.i64 n_1 ∧
 if neI n_1 0 = true then K (Value.int IntKind.i64 n_1) h'
 else
 if ltI n 1 = true then K (Value.int IntKind.i64 2) h'
 else
 (some (Addr.mk d 0 none)).isSome = true ∧
 plainA (some (Addr.mk d 0 none)) = true ∧
 ∃ (n_2 : Int),
 (plainA (some (Addr.mk d 4 none)) = true ∧ h'.cellsAt d 4 1 = some [Value.int IntKind.i64 n_2]) ∧
 C 57 [Value.pointer (some (Addr.mk d 0 none))] h' fun (v : Value) (h' : Hp) =>
 ∃ (n_3 : Int),
 v = Value.int IntKind.i64 n_3 ∧
 (plainA (some (Addr.mk d 4 none)) = true ∧ h'.cellsAt d 4 1 = some [Value.int IntKind.i64 n_2]) ∧
 if gtI n (subW IntKind.i64 n_2 n_3) = true then K (Value.int IntKind.i64 5) h'
 else
 C 57 [Value.pointer (some (Addr.mk d 0 none))] h' fun (v : Value) (h' : Hp) =>
 ∃ (n_4 : Int),
 v = Value.int IntKind.i64 n_4 ∧
 ∀ (h'_1 : Hp),
 h'_1 = h'.alloc [Value.int IntKind.u8 2, Value.int IntKind.u32 (Int.ofNat 0), Value.int IntKind.i64 (addW IntKind.i64 n_4 n), Value.string (ByteArray.mk (Array.mk []))] 103 →
 C 73 [Value.pointer (some (Addr.mk d 0 none)), Value.int IntKind.u8 2, Value.int IntKind.i64 5, Value.slice (some (Addr.mk h'.next 0 none)) 1 1] h'_1 fun (v : Value) (h' : Hp) =>
 ∃ (n_5 : Int),
 v = Value.int IntKind.i64 n_5 ∧
 if neI n_5 0 = true then K (Value.int IntKind.i64 n_5) h'
 else
 (some (Addr.mk d 0 none)).isSome = true ∧
 plainA (some (Addr.mk d 0 none)) = true ∧
 C 91 [Value.pointer (some (Addr.mk d 0 none)), Value.int IntKind.i64 (addW IntKind.i64 n_4 n)] h' fun (v : Value) (h' : Hp) =>
 v = Value.tuple (Array.mk []) ∧
 (some (Addr.mk d 0 none)).isSome = true ∧
 plainA (some (Addr.mk d 0 none)) = true ∧
 plainA (some (Addr.mk d 10 none)) = true ∧
 ∃ (n : Int),
 (plainA (some (Addr.mk d 11 none)) = true ∧ h'.cellsAt d 11 1 = some [Value.int IntKind.i64 n]) ∧
 (some (Addr.mk d 0 none)).isSome = true ∧ plainA (some (Addr.mk d 0 none)) = true ∧ plainA (some (Addr.mk d 10 none)) = true ∧ plainA (some (Addr.mk d 11 none)) = true ∧ ∃ (h'_2 : Hp), h'.store d 11 [Value.int IntKind.i64 (addW IntKind.i64 n 1)] = some h'_2 ∧ K (Value.int IntKind.i64 0) h'_2) := by kernel_rfl

def shp54 : Nat → List (Tmp × TypeId) := fun i => []
theorem vc54 (C : FuncId → List Value → Hp → (Value → Hp → Prop) → Prop) (d : Nat) (n : Int) (s : ByteArray) (h : Hp) (K : Value → Hp → Prop) : vBody Try.prog C pf shp54 Try.f54 (Try.f54.body.getD .skip) [.pointer (some ⟨d, 0, none⟩), .int .u32 n, .string s] h K = (
 C 62 [Value.pointer (some (Addr.mk d 0 none))] h fun (v : Value) (h' : Hp) =>
 ∃ (n_1 : Int),
 v = Value.int IntKind.i64 n_1 ∧
 if neI n_1 0 = true then K (Value.int IntKind.i64 n_1) h'
 else
 (some (Addr.mk d 0 none)).isSome = true ∧
 plainA (some (Addr.mk d 0 none)) = true ∧
 C 92 [Value.pointer (some (Addr.mk d 0 none)), Value.int IntKind.u32 n] h' fun (v : Value) (h' : Hp) =>
 ∃ (b : Bool),
 v = Value.bool b ∧
 if notB b = true then K (Value.int IntKind.i64 41) h'
 else
 (some (Addr.mk d 0 none)).isSome = true ∧
 plainA (some (Addr.mk d 0 none)) = true ∧
 plainA (some (Addr.mk d 0 none)) = true ∧
 ∃ (n_2 : Int),
 (plainA (some (Addr.mk d 0 none)) = true ∧ h'.cellsAt d 0 1 = some [Value.int IntKind.i64 n_2]) ∧
 if neI (natI (lenS s)) n_2 = true then K (Value.int IntKind.i64 2) h'
 else
 ∀ (h'_1 : Hp),
 h'_1 = h'.alloc [Value.int IntKind.u8 1, Value.int IntKind.u32 n, Value.int IntKind.i64 (Int.ofNat 0), Value.string s] 103 →
 C 73 [Value.pointer (some (Addr.mk d 0 none)), Value.int IntKind.u8 1, Value.int IntKind.i64 6, Value.slice (some (Addr.mk h'.next 0 none)) 1 1] h'_1 fun (v : Value) (h' : Hp) =>
 ∃ (n_3 : Int),
 v = Value.int IntKind.i64 n_3 ∧
 if neI n_3 0 = true then K (Value.int IntKind.i64 n_3) h'
 else
 (some (Addr.mk d 0 none)).isSome = true ∧
 plainA (some (Addr.mk d 0 none)) = true ∧
 plainA (some (Addr.mk d 0 none)) = true ∧
 ∃ (a : Option Addr),
 ∃ (l : Nat),
 ∃ (c : Nat),
 (plainA (some (Addr.mk d 1 none)) = true ∧ h'.cellsAt d 1 1 = some [Value.slice a l c]) ∧
 (a.isSome = true ∧ inR n l) ∧
 plainA (some (Addr.mk (blk a) (plusI (off a) n 1) none)) = true ∧
 ∃ (h'_2 : Hp),
 h'.store (blk a) (plusI (off a) n 1) [Value.string s] = some h'_2 ∧
 (some (Addr.mk d 0 none)).isSome = true ∧
 plainA (some (Addr.mk d 0 none)) = true ∧
 plainA (some (Addr.mk d 10 none)) = true ∧
 ∃ (n : Int),
 (plainA (some (Addr.mk d 10 none)) = true ∧ h'_2.cellsAt d 10 1 = some [Value.int IntKind.i64 n]) ∧
 (some (Addr.mk d 0 none)).isSome = true ∧ plainA (some (Addr.mk d 0 none)) = true ∧ plainA (some (Addr.mk d 10 none)) = true ∧ plainA (some (Addr.mk d 10 none)) = true ∧ ∃ (h' : Hp), h'_2.store d 10 [Value.int IntKind.i64 (addW IntKind.i64 n 1)] = some h' ∧ K (Value.int IntKind.i64 0) h') := by kernel_rfl

def shp46 : Nat → List (Tmp × TypeId) := fun i => []
theorem vc46 (C : FuncId → List Value → Hp → (Value → Hp → Prop) → Prop) (d : Nat) (h : Hp) (K : Value → Hp → Prop) : vBody Try.prog C pf shp46 Try.f46 (Try.f46.body.getD .skip) [.pointer (some ⟨d, 0, none⟩)] h K = (
 C 62 [Value.pointer (some (Addr.mk d 0 none))] h fun (v : Value) (h' : Hp) =>
 ∃ (n : Int),
 v = Value.int IntKind.i64 n ∧
 if neI n 0 = true then K (Value.int IntKind.i64 n) h'
 else
 C 73 [Value.pointer (some (Addr.mk d 0 none)), Value.int IntKind.u8 3, Value.int IntKind.i64 6, Value.slice none 0 0] h' fun (v : Value) (h' : Hp) =>
 ∃ (n : Int),
 v = Value.int IntKind.i64 n ∧
 if neI n 0 = true then K (Value.int IntKind.i64 n) h'
 else
 (some (Addr.mk d 0 none)).isSome = true ∧
 plainA (some (Addr.mk d 0 none)) = true ∧
 plainA (some (Addr.mk d 0 none)) = true ∧
 ∃ (a : Option Addr),
 ∃ (l : Nat),
 ∃ (c : Nat),
 (plainA (some (Addr.mk d 1 none)) = true ∧ h'.cellsAt d 1 1 = some [Value.slice a l c]) ∧
 C 59 [Value.slice a l c] h' fun (v : Value) (h' : Hp) =>
 ∃ (a : Option Addr),
 ∃ (l : Nat),
 ∃ (c : Nat),
 v = Value.slice a l c ∧
 (some (Addr.mk d 0 none)).isSome = true ∧
 plainA (some (Addr.mk d 0 none)) = true ∧
 plainA (some (Addr.mk d 2 none)) = true ∧
 plainA (some (Addr.mk d 3 none)) = true ∧
 ∃ (h'_1 : Hp),
 h'.store d 3 [Value.slice a l c] = some h'_1 ∧
 (some (Addr.mk d 0 none)).isSome = true ∧
 plainA (some (Addr.mk d 0 none)) = true ∧
 plainA (some (Addr.mk d 6 none)) = true ∧
 ∃ (h' : Hp),
 h'_1.store d 6 [Value.slice none 0 0] = some h' ∧
 (some (Addr.mk d 0 none)).isSome = true ∧
 plainA (some (Addr.mk d 0 none)) = true ∧
 plainA (some (Addr.mk d 10 none)) = true ∧
 ∃ (n : Int),
 (plainA (some (Addr.mk d 12 none)) = true ∧ h'.cellsAt d 12 1 = some [Value.int IntKind.i64 n]) ∧
 (some (Addr.mk d 0 none)).isSome = true ∧ plainA (some (Addr.mk d 0 none)) = true ∧ plainA (some (Addr.mk d 10 none)) = true ∧ plainA (some (Addr.mk d 12 none)) = true ∧ ∃ (h'_2 : Hp), h'.store d 12 [Value.int IntKind.i64 (addW IntKind.i64 n 1)] = some h'_2 ∧ K (Value.int IntKind.i64 0) h'_2) := by kernel_rfl

def shp44 : Nat → List (Tmp × TypeId) := fun i => if i = 5 then [(17, 3)] else if i = 13 then [(41, 3)] else []
theorem vc44 (C : FuncId → List Value → Hp → (Value → Hp → Prop) → Prop) (d : Nat) (a : Option Addr) (l c : Nat) (h : Hp) (K : Value → Hp → Prop) : vBody Try.prog C pf shp44 Try.f44 (Try.f44.body.getD .skip) [.pointer (some ⟨d, 0, none⟩), .slice a l c] h K = (
 C 62 [Value.pointer (some (Addr.mk d 0 none))] h fun (v : Value) (h' : Hp) =>
 ∃ (n : Int),
 v = Value.int IntKind.i64 n ∧
 if neI n 0 = true then K (Value.int IntKind.i64 n) h'
 else
 ∃ (I : List Value → Nat → Hp → Prop),
 (∃ (m : Nat), I [Value.int IntKind.i64 0] m h') ∧
 ∀ (n : Int) (m : Nat) (h : Hp),
 I [Value.int IntKind.i64 n] m h →
 if ltI n (natI l) = true then
 (a.isSome = true ∧ inR n l) ∧
 ∃ (n_1 : Int),
 ∃ (n_2 : Int),
 ∃ (b : Bool),
 ∃ (a_2 : Option Addr),
 ∃ (l : Nat),
 ∃ (c : Nat),
 (plainA (some (Addr.mk (blk a) (plusI (off a) n 4) none)) = true ∧ h.cellsAt (blk a) (plusI (off a) n 4) 4 = some [Value.int IntKind.u8 n_1, Value.int IntKind.i64 n_2, Value.bool b, Value.slice a_2 l c]) ∧
 ∀ (h' : Hp),
 h' = h.alloc [Value.int IntKind.u8 (Int.ofNat 0), Value.int IntKind.i64 (Int.ofNat 0), Value.bool false, Value.slice none 0 0] 77 →
 plainA (some (Addr.mk h.next 0 none)) = true ∧
 ∃ (h'_1 : Hp),
 h'.store h.next 0 [Value.int IntKind.u8 n_1, Value.int IntKind.i64 n_2, Value.bool b, Value.slice a_2 l c] = some h'_1 ∧
 plainA (some (Addr.mk h.next 0 none)) = true ∧
 ∃ (n_3 : Int),
 (plainA (some (Addr.mk h.next 0 none)) = true ∧ h'_1.cellsAt h.next 0 1 = some [Value.int IntKind.u8 n_3]) ∧
 (notB (gtI n_3 3) = true → plainA (some (Addr.mk h.next 0 none)) = true) ∧
 ∃ (n_4 : Int), (notB (gtI n_3 3) = true → plainA (some (Addr.mk h.next 1 none)) = true ∧ h'_1.cellsAt h.next 1 1 = some [Value.int IntKind.i64 n_4]) ∧ if sel (gtI n_3 3) true (ltI n_4 1) = true then K (Value.int IntKind.i64 2) h'_1 else ∃ (m' : Nat), lessN m' m ∧ I [Value.int IntKind.i64 (addW IntKind.i64 n 1)] m' h'_1
 else
 (some (Addr.mk d 0 none)).isSome = true ∧
 plainA (some (Addr.mk d 0 none)) = true ∧
 ∃ (a_2 : Option Addr),
 ∃ (l_1 : Nat),
 ∃ (c : Nat),
 (plainA (some (Addr.mk d 7 none)) = true ∧ h.cellsAt d 7 1 = some [Value.slice a_2 l_1 c]) ∧
 if gtI (addW IntKind.i64 (natI l_1) (natI l)) 64 = true then K (Value.int IntKind.i64 4) h
 else
 ∃ (I : List Value → Nat → Hp → Prop),
 (∃ (m : Nat), I [Value.int IntKind.i64 0] m h) ∧
 ∀ (n : Int) (m : Nat) (h : Hp),
 I [Value.int IntKind.i64 n] m h →
 if ltI n (natI l) = true then
 (a.isSome = true ∧ inR n l) ∧
 ∃ (n_1 : Int),
 ∃ (n_2 : Int),
 ∃ (b : Bool),
 ∃ (a_4 : Option Addr),
 ∃ (l : Nat),
 ∃ (c : Nat),
 (plainA (some (Addr.mk (blk a) (plusI (off a) n 4) none)) = true ∧ h.cellsAt (blk a) (plusI (off a) n 4) 4 = some [Value.int IntKind.u8 n_1, Value.int IntKind.i64 n_2, Value.bool b, Value.slice a_4 l c]) ∧
 ∀ (h' : Hp),
 h' = h.alloc [Value.int IntKind.u8 (Int.ofNat 0), Value.int IntKind.i64 (Int.ofNat 0), Value.bool false, Value.slice none 0 0] 77 →
 plainA (some (Addr.mk h.next 0 none)) = true ∧
 ∃ (h'_1 : Hp),
 h'.store h.next 0 [Value.int IntKind.u8 n_1, Value.int IntKind.i64 n_2, Value.bool b, Value.slice a_4 l c] = some h'_1 ∧
 plainA (some (Addr.mk h.next 0 none)) = true ∧
 ∃ (a : Option Addr),
 ∃ (l : Nat),
 ∃ (c : Nat),
 (plainA (some (Addr.mk h.next 3 none)) = true ∧ h'_1.cellsAt h.next 3 1 = some [Value.slice a l c]) ∧
 C 72 [Value.slice a l c] h'_1 fun (v : Value) (h' : Hp) =>
 ∃ (a : Option Addr),
 ∃ (l : Nat),
 ∃ (c : Nat),
 v = Value.slice a l c ∧
 plainA (some (Addr.mk h.next 0 none)) = true ∧
 plainA (some (Addr.mk h.next 3 none)) = true ∧
 ∃ (h'_2 : Hp),
 h'.store h.next 3 [Value.slice a l c] = some h'_2 ∧
 (some (Addr.mk d 0 none)).isSome = true ∧
 plainA (some (Addr.mk d 0 none)) = true ∧
 ∃ (a : Option Addr),
 ∃ (l : Nat),
 ∃ (c : Nat),
 (plainA (some (Addr.mk d 7 none)) = true ∧ h'_2.cellsAt d 7 1 = some [Value.slice a l c]) ∧
 ∃ (n_3 : Int),
 ∃ (n_4 : Int),
 ∃ (b : Bool),
 ∃ (a_5 : Option Addr),
 ∃ (l_2 : Nat),
 ∃ (c_1 : Nat),
 (plainA (some (Addr.mk h.next 0 none)) = true ∧ h'_2.cellsAt h.next 0 4 = some [Value.int IntKind.u8 n_3, Value.int IntKind.i64 n_4, Value.bool b, Value.slice a_5 l_2 c_1]) ∧
 plainA (some (Addr.mk h.next 0 none)) = true ∧
 ∃ (n_5 : Int),
 (plainA (some (Addr.mk h.next 1 none)) = true ∧ h'_2.cellsAt h.next 1 1 = some [Value.int IntKind.i64 n_5]) ∧
 ∀ (h' : Hp),
 h' = h'_2.alloc [Value.int IntKind.u8 n_3, Value.int IntKind.i64 n_4, Value.bool b, Value.slice a_5 l_2 c_1, Value.int IntKind.i64 n_5] 108 →
 (plainA (some (Addr.mk d 7 none)) = true ∧ h'.cellsAt d 7 1 = some [Value.slice a l c]) ∧
 ∃ (a_7 : Option Addr),
 ∃ (m_1 : Nat),
 ∃ (n_6 : Nat),
 ∃ (h'_3 : Hp),
 cappend Try.prog 99 99 (Value.slice a l c) (Value.slice (some (Addr.mk h'_2.next 0 none)) 1 1) h' = some (Value.slice a_7 m_1 n_6, h'_3) ∧
 (some (Addr.mk d 0 none)).isSome = true ∧
 plainA (some (Addr.mk d 0 none)) = true ∧ plainA (some (Addr.mk d 7 none)) = true ∧ ∃ (h' : Hp), h'_3.store d 7 [Value.slice a_7 m_1 n_6] = some h' ∧ ∃ (m' : Nat), lessN m' m ∧ I [Value.int IntKind.i64 (addW IntKind.i64 n 1)] m' h'
 else K (Value.int IntKind.i64 0) h) := by kernel_rfl

def shp32 : Nat → List (Tmp × TypeId) := fun i => []
theorem vc32 (C : FuncId → List Value → Hp → (Value → Hp → Prop) → Prop) (d : Nat) (a : Option Addr) (l c : Nat) (h : Hp) (K : Value → Hp → Prop) : vBody Try.prog C pf shp32 Try.f32 (Try.f32.body.getD .skip) [.pointer (some ⟨d, 0, none⟩), .slice a l c] h K = (
 C 62 [Value.pointer (some (Addr.mk d 0 none))] h fun (v : Value) (h' : Hp) => ∃ (n : Int), v = Value.int IntKind.i64 n ∧ if neI n 0 = true then K (Value.int IntKind.i64 n) h' else C 63 [Value.pointer (some (Addr.mk d 0 none)), Value.slice a l c] h' fun (v : Value) (h' : Hp) => v = Value.tuple (Array.mk []) ∧ K (Value.int IntKind.i64 0) h') := by kernel_rfl

def shp41 : Nat → List (Tmp × TypeId) := fun i => []
theorem vc41 (C : FuncId → List Value → Hp → (Value → Hp → Prop) → Prop) (page most : Int) (a : Option Addr) (l c : Nat) (h : Hp) (K : Value → Hp → Prop) : vBody Try.prog C pf shp41 Try.f41 (Try.f41.body.getD .skip) [.int .i64 page, .int .i64 most, .slice a l c] h K = (
 ∀ (h' : Hp),
 h' = h.alloc [Value.int IntKind.i64 page] 3 →
 ∀ (h'_1 : Hp),
 h'_1 = h'.alloc [Value.int IntKind.i64 1024, Value.int IntKind.i64 2048, Value.int IntKind.i64 4096, Value.int IntKind.i64 8192] 3 →
 ∃ (n : Int),
 (plainA (some (Addr.mk h.next 0 none)) = true ∧ h'_1.cellsAt h.next 0 1 = some [Value.int IntKind.i64 n]) ∧
 C 65 [Value.slice (some (Addr.mk h'.next 0 none)) 4 4, Value.int IntKind.i64 n] h'_1 fun (v : Value) (h' : Hp) =>
 ∃ (b : Bool),
 v = Value.bool b ∧
 if sel (sel (notB b) true (ltI most 1)) true (gtI most 65536) = true then K (Value.tuple (Array.mk [Value.pointer none, Value.int IntKind.i64 2])) h'
 else
 ∃ (Q : Value → Hp → Prop),
 (notB (gtI (natI l) most) = true → C 66 [Value.slice a l c, Value.func (Fn.func 67) (Array.mk []) (Array.mk [Value.pointer (some (Addr.mk h.next 0 none))])] h' fun (v : Value) (h' : Hp) => ∃ (b : Bool), v = Value.bool b ∧ Q (Value.bool b) h') ∧
 (notB (gtI (natI l) most) = false → ∃ (b : Bool), Q (Value.bool b) h') ∧
 ∀ (b : Bool) (h' : Hp),
 Q (Value.bool b) h' →
 if sel (gtI (natI l) most) true b = true then K (Value.tuple (Array.mk [Value.pointer none, Value.int IntKind.i64 42])) h'
 else
 ∃ (n : Int),
 (plainA (some (Addr.mk h.next 0 none)) = true ∧ h'.cellsAt h.next 0 1 = some [Value.int IntKind.i64 n]) ∧
 C 59 [Value.slice a l c] h' fun (v : Value) (h' : Hp) =>
 ∃ (a : Option Addr),
 ∃ (l : Nat),
 ∃ (c : Nat),
 v = Value.slice a l c ∧
 (plainA (some (Addr.mk h.next 0 none)) = true ∧ h'.cellsAt h.next 0 1 = some [Value.int IntKind.i64 n]) ∧
 ∀ (h'_2 : Hp),
 h'_2 =
 h'.alloc
 [Value.int IntKind.i64 (Int.ofNat 0), Value.slice none 0 0, Value.int IntKind.i64 n, Value.slice a l c, Value.int IntKind.i64 most, Value.bool false, Value.slice none 0 0, Value.slice none 0 0, Value.int IntKind.i64 (Int.ofNat 0), Value.int IntKind.i64 (Int.ofNat 0), Value.int IntKind.i64 (Int.ofNat 0), Value.int IntKind.i64 (Int.ofNat 0),
 Value.int IntKind.i64 (Int.ofNat 0)]
 101 →
 C 68 [Value.pointer (some (Addr.mk h'.next 0 none))] h'_2 fun (v : Value) (h'_3 : Hp) => v = Value.tuple (Array.mk []) ∧ K (Value.tuple (Array.mk [Value.pointer (some (Addr.mk h'.next 0 none)), Value.int IntKind.i64 0])) h'_3) := by kernel_rfl

def shp26 : Nat → List (Tmp × TypeId) := fun i => []
theorem vc26 (C : FuncId → List Value → Hp → (Value → Hp → Prop) → Prop) (page most : Int) (h : Hp) (K : Value → Hp → Prop) : vBody Try.prog C pf shp26 Try.f26 (Try.f26.body.getD .skip) [.int .i64 page, .int .i64 most] h K = (
 C 41 [Value.int IntKind.i64 page, Value.int IntKind.i64 most, Value.slice none 0 0] h fun (v : Value) (h' : Hp) => ∃ (a : Option Addr), ∃ (n : Int), v = Value.tuple (Array.mk [Value.pointer a, Value.int IntKind.i64 n]) ∧ K (Value.tuple (Array.mk [Value.pointer a, Value.int IntKind.i64 n])) h') := by kernel_rfl

def shp29 : Nat → List (Tmp × TypeId) := fun i => if i = 7 then [(7, 5), (8, 3)] else []
theorem vc29 (C : FuncId → List Value → Hp → (Value → Hp → Prop) → Prop) (n x y p : Int) (h : Hp) (K : Value → Hp → Prop) : vBody Try.prog C pf shp29 Try.f29 (Try.f29.body.getD .skip) [.agg #[.int .i64 n, .int .u8 x, .int .u8 y], .int .i64 p] h K = (
 ∀ (h' : Hp),
 h' = h.alloc [Value.int IntKind.i64 n, Value.int IntKind.u8 x, Value.int IntKind.u8 y] 44 →
 plainA (some (Addr.mk h.next 0 none)) = true ∧
 ∃ (n : Int),
 (plainA (some (Addr.mk h.next 0 none)) = true ∧ h'.cellsAt h.next 0 1 = some [Value.int IntKind.i64 n]) ∧
 if sel (ltI n 0) true (gtI n 10000) = true then
 ∃ (a : Option Addr),
 ∃ (m : Nat),
 ∃ (n : Nat),
 ∃ (h'_1 : Hp),
 cmakeSlice Try.prog 95 (Value.int IntKind.i64 p) (Value.int IntKind.i64 p) h' = some (Value.slice a m n, h'_1) ∧
 plainA (some (Addr.mk h.next 0 none)) = true ∧
 ∃ (n : Int),
 (plainA (some (Addr.mk h.next 1 none)) = true ∧ h'_1.cellsAt h.next 1 1 = some [Value.int IntKind.u8 n]) ∧
 ∃ (I : List Value → Nat → Hp → Prop),
 (∃ (m : Nat), I [Value.int IntKind.u8 n, Value.int IntKind.i64 0] m h'_1) ∧
 ∀ (n n_1 : Int) (m_1 : Nat) (h_1 : Hp),
 I [Value.int IntKind.u8 n, Value.int IntKind.i64 n_1] m_1 h_1 →
 if ltI n_1 p = true then
 (a.isSome = true ∧ inR n_1 m) ∧
 plainA (some (Addr.mk (blk a) (plusI (off a) n_1 1) none)) = true ∧
 ∃ (h' : Hp),
 h_1.store (blk a) (plusI (off a) n_1 1) [Value.int IntKind.u8 n] = some h' ∧
 plainA (some (Addr.mk h.next 0 none)) = true ∧ ∃ (n_2 : Int), (plainA (some (Addr.mk h.next 2 none)) = true ∧ h'.cellsAt h.next 2 1 = some [Value.int IntKind.u8 n_2]) ∧ ∃ (m' : Nat), lessN m' m_1 ∧ I [Value.int IntKind.u8 (addW IntKind.u8 n n_2), Value.int IntKind.i64 (addW IntKind.i64 n_1 1)] m' h'
 else ∃ (s : ByteArray), readStr a m h_1 s ∧ K (Value.string s) h_1
 else
 ∃ (a : Option Addr),
 ∃ (m : Nat),
 ∃ (n_1 : Nat),
 ∃ (h'_1 : Hp),
 cmakeSlice Try.prog 95 (Value.int IntKind.i64 n) (Value.int IntKind.i64 n) h' = some (Value.slice a m n_1, h'_1) ∧
 plainA (some (Addr.mk h.next 0 none)) = true ∧
 ∃ (n_2 : Int),
 (plainA (some (Addr.mk h.next 1 none)) = true ∧ h'_1.cellsAt h.next 1 1 = some [Value.int IntKind.u8 n_2]) ∧
 ∃ (I : List Value → Nat → Hp → Prop),
 (∃ (m : Nat), I [Value.int IntKind.u8 n_2, Value.int IntKind.i64 0] m h'_1) ∧
 ∀ (n_3 n_4 : Int) (m_1 : Nat) (h_1 : Hp),
 I [Value.int IntKind.u8 n_3, Value.int IntKind.i64 n_4] m_1 h_1 →
 if ltI n_4 n = true then
 (a.isSome = true ∧ inR n_4 m) ∧
 plainA (some (Addr.mk (blk a) (plusI (off a) n_4 1) none)) = true ∧
 ∃ (h' : Hp),
 h_1.store (blk a) (plusI (off a) n_4 1) [Value.int IntKind.u8 n_3] = some h' ∧
 plainA (some (Addr.mk h.next 0 none)) = true ∧ ∃ (n : Int), (plainA (some (Addr.mk h.next 2 none)) = true ∧ h'.cellsAt h.next 2 1 = some [Value.int IntKind.u8 n]) ∧ ∃ (m' : Nat), lessN m' m_1 ∧ I [Value.int IntKind.u8 (addW IntKind.u8 n_3 n), Value.int IntKind.i64 (addW IntKind.i64 n_4 1)] m' h'
 else ∃ (s : ByteArray), readStr a m h_1 s ∧ K (Value.string s) h_1) := by kernel_rfl

def shp28 : Nat → List (Tmp × TypeId) := fun i => if i = 4 then [(3, 40), (5, 3)] else []
theorem vc28 (C : FuncId → List Value → Hp → (Value → Hp → Prop) → Prop) (d : Nat) (h : Hp) (K : Value → Hp → Prop) : vBody Try.prog C pf shp28 Try.f28 (Try.f28.body.getD .skip) [.pointer (some ⟨d, 0, none⟩)] h K = (
 C 57 [Value.pointer (some (Addr.mk d 0 none))] h fun (v : Value) (h' : Hp) =>
 ∃ (n : Int),
 v = Value.int IntKind.i64 n ∧
 ∃ (I : List Value → Nat → Hp → Prop),
 (∃ (m : Nat), I [Value.slice none 0 0, Value.int IntKind.i64 0] m h') ∧
 ∀ (a : Option Addr) (l c : Nat) (n_1 : Int) (m : Nat) (h : Hp),
 I [Value.slice a l c, Value.int IntKind.i64 n_1] m h →
 if ltI n_1 n = true then
 C 55 [Value.pointer (some (Addr.mk d 0 none)), Value.int IntKind.u32 (toW IntKind.u32 n_1)] h fun (v : Value) (h' : Hp) =>
 ∃ (s : ByteArray),
 ∃ (n : Int),
 v = Value.tuple (Array.mk [Value.string s, Value.int IntKind.i64 n]) ∧
 if neI n 0 = true then K (Value.slice none 0 0) h'
 else ∀ (h'_1 : Hp), h'_1 = h'.alloc [Value.string s] 9 → ∃ (a_3 : Option Addr), ∃ (m_1 : Nat), ∃ (n : Nat), ∃ (h'_2 : Hp), cappend Try.prog 40 40 (Value.slice a l c) (Value.slice (some (Addr.mk h'.next 0 none)) 1 1) h'_1 = some (Value.slice a_3 m_1 n, h'_2) ∧ ∃ (m' : Nat), lessN m' m ∧ I [Value.slice a_3 m_1 n, Value.int IntKind.i64 (addW IntKind.i64 n_1 1)] m' h'_2
 else K (Value.slice a l c) h) := by kernel_rfl

def shp33 : Nat → List (Tmp × TypeId) := fun i => if i = 4 then [(5, 3)] else []
theorem vc33 (C : FuncId → List Value → Hp → (Value → Hp → Prop) → Prop) (a b : Option Addr) (l c l' c' : Nat) (h : Hp) (K : Value → Hp → Prop) : vBody Try.prog C pf shp33 Try.f33 (Try.f33.body.getD .skip) [.slice a l c, .slice b l' c'] h K = (
 if neI (natI l) (natI l') = true then K (Value.bool false) h
 else
 ∃ (I : List Value → Nat → Hp → Prop),
 (∃ (m : Nat), I [Value.int IntKind.i64 0] m h) ∧
 ∀ (n : Int) (m : Nat) (h : Hp),
 I [Value.int IntKind.i64 n] m h →
 if ltI n (natI l) = true then
 (a.isSome = true ∧ inR n l) ∧
 ∃ (s : ByteArray),
 (plainA (some (Addr.mk (blk a) (plusI (off a) n 1) none)) = true ∧ h.cellsAt (blk a) (plusI (off a) n 1) 1 = some [Value.string s]) ∧
 (b.isSome = true ∧ inR n l') ∧ ∃ (s_1 : ByteArray), (plainA (some (Addr.mk (blk b) (plusI (off b) n 1) none)) = true ∧ h.cellsAt (blk b) (plusI (off b) n 1) 1 = some [Value.string s_1]) ∧ if notB (strEq s s_1) = true then K (Value.bool false) h else ∃ (m' : Nat), lessN m' m ∧ I [Value.int IntKind.i64 (addW IntKind.i64 n 1)] m' h
 else K (Value.bool true) h) := by kernel_rfl
end Go.Proofs.Ytfkhjbfddeahaaa.vc

/- The conditions of the symbolic runs of functions of the program (printed by a program of ours, vcgen.py; checked by the kernel). -/
set_option linter.unusedVariables false
namespace Go.Proofs.Ytfkhjbfddeahaaa.vc
open Go Go.Cn Go.Proofs

def shp25 : Nat → List (Tmp × TypeId) := fun i => []
theorem vc25 (C : FuncId → List Value → Hp → (Value → Hp → Prop) → Prop)  (h : Hp) (K : Value → Hp → Prop) : vBody Try.prog C pf shp25 Try.f25 (Try.f25.body.getD .skip) [] h K = (
 C 26 [Value.int IntKind.i64 1024, Value.int IntKind.i64 4] h fun (v : Value) (h' : Hp) =>
 ∃ (a : Option Addr),
 ∃ (n : Int),
 v = Value.tuple (Array.mk [Value.pointer a, Value.int IntKind.i64 n]) ∧
 ∃ (Q : Value → Hp → Prop),
 (notB (sel (neI n 0) true (isN a)) = true → C 53 [Value.pointer a, Value.int IntKind.i64 2] h' fun (v : Value) (h' : Hp) => ∃ (n : Int), v = Value.int IntKind.i64 n ∧ Q (Value.int IntKind.i64 n) h') ∧
 (notB (sel (neI n 0) true (isN a)) = false → ∃ (n : Int), Q (Value.int IntKind.i64 n) h') ∧
 ∀ (n_1 : Int) (h' : Hp),
 Q (Value.int IntKind.i64 n_1) h' →
 if sel (sel (neI n 0) true (isN a)) true (neI n_1 0) = true then K (Value.bool false) h'
 else
 C 29 [Value.agg (Array.mk [Value.int IntKind.i64 (-1), Value.int IntKind.u8 97, Value.int IntKind.u8 (Int.ofNat 0)]), Value.int IntKind.i64 1024] h' fun (v : Value) (h' : Hp) =>
 ∃ (s : ByteArray),
 v = Value.string s ∧
 C 29 [Value.agg (Array.mk [Value.int IntKind.i64 (-1), Value.int IntKind.u8 98, Value.int IntKind.u8 (Int.ofNat 0)]), Value.int IntKind.i64 1024] h' fun (v : Value) (h' : Hp) =>
 ∃ (s_1 : ByteArray),
 v = Value.string s_1 ∧
 C 54 [Value.pointer a, Value.int IntKind.u32 0, Value.string s] h' fun (v : Value) (h' : Hp) =>
 ∃ (n : Int),
 v = Value.int IntKind.i64 n ∧
 ∃ (Q : Value → Hp → Prop),
 (notB (neI n 0) = true → C 46 [Value.pointer a] h' fun (v : Value) (h' : Hp) => ∃ (n : Int), v = Value.int IntKind.i64 n ∧ Q (Value.int IntKind.i64 n) h') ∧
 (notB (neI n 0) = false → ∃ (n : Int), Q (Value.int IntKind.i64 n) h') ∧
 ∀ (n_2 : Int) (h' : Hp),
 Q (Value.int IntKind.i64 n_2) h' →
 ∃ (Q : Value → Hp → Prop),
 (notB (sel (neI n 0) true (neI n_2 0)) = true → C 54 [Value.pointer a, Value.int IntKind.u32 0, Value.string s_1] h' fun (v : Value) (h' : Hp) => ∃ (n : Int), v = Value.int IntKind.i64 n ∧ Q (Value.int IntKind.i64 n) h') ∧
 (notB (sel (neI n 0) true (neI n_2 0)) = false → ∃ (n : Int), Q (Value.int IntKind.i64 n) h') ∧
 ∀ (n_3 : Int) (h' : Hp),
 Q (Value.int IntKind.i64 n_3) h' →
 ∃ (Q : Value → Hp → Prop),
 (notB (sel (sel (neI n 0) true (neI n_2 0)) true (neI n_3 0)) = true → C 54 [Value.pointer a, Value.int IntKind.u32 1, Value.string s_1] h' fun (v : Value) (h' : Hp) => ∃ (n : Int), v = Value.int IntKind.i64 n ∧ Q (Value.int IntKind.i64 n) h') ∧
 (notB (sel (sel (neI n 0) true (neI n_2 0)) true (neI n_3 0)) = false → ∃ (n : Int), Q (Value.int IntKind.i64 n) h') ∧
 ∀ (n_4 : Int) (h' : Hp),
 Q (Value.int IntKind.i64 n_4) h' →
 if sel (sel (sel (neI n 0) true (neI n_2 0)) true (neI n_3 0)) true (neI n_4 0) = true then K (Value.bool false) h'
 else
 C 55 [Value.pointer a, Value.int IntKind.u32 0] h' fun (v : Value) (h' : Hp) =>
 ∃ (s_2 : ByteArray),
 ∃ (n : Int),
 v = Value.tuple (Array.mk [Value.string s_2, Value.int IntKind.i64 n]) ∧
 ∃ (Q : Value → Hp → Prop),
 (notB (sel (neI n 0) true (notB (strEq s_2 s_1))) = true → C 30 [Value.pointer a] h' fun (v : Value) (h' : Hp) => ∃ (a : Option Addr), ∃ (l : Nat), ∃ (c : Nat), v = Value.slice a l c ∧ Q (Value.slice a l c) h') ∧
 (notB (sel (neI n 0) true (notB (strEq s_2 s_1))) = false → ∃ (a : Option Addr), ∃ (l : Nat), ∃ (c : Nat), Q (Value.slice a l c) h') ∧
 ∀ (a_5 : Option Addr) (l c : Nat) (h' : Hp),
 Q (Value.slice a_5 l c) h' →
 ∃ (Q : Value → Hp → Prop),
 (notB (sel (sel (neI n 0) true (notB (strEq s_2 s_1))) true (neI (natI l) 2)) = true → ∀ (h'_1 : Hp), h'_1 = h'.alloc [Value.int IntKind.u8 1] 57 → ∃ (a : Option Addr), ∃ (l : Nat), ∃ (c : Nat), Value.slice (some (Addr.mk h'.next 0 none)) 1 1 = Value.slice a l c ∧ Q (Value.slice a l c) h'_1) ∧
 (notB (sel (sel (neI n 0) true (notB (strEq s_2 s_1))) true (neI (natI l) 2)) = false → ∃ (a : Option Addr), ∃ (l : Nat), ∃ (c : Nat), Q (Value.slice a l c) h') ∧
 ∀ (a_7 : Option Addr) (l_1 c : Nat) (h' : Hp),
 Q (Value.slice a_7 l_1 c) h' →
 ∃ (Q : Value → Hp → Prop),
 (notB (sel (sel (neI n 0) true (notB (strEq s_2 s_1))) true (neI (natI l) 2)) = true → C 32 [Value.pointer a, Value.slice a_7 l_1 c] h' fun (v : Value) (h' : Hp) => ∃ (n : Int), v = Value.int IntKind.i64 n ∧ Q (Value.int IntKind.i64 n) h') ∧
 (notB (sel (sel (neI n 0) true (notB (strEq s_2 s_1))) true (neI (natI l) 2)) = false → ∃ (n : Int), Q (Value.int IntKind.i64 n) h') ∧
 ∀ (n_5 : Int) (h' : Hp),
 Q (Value.int IntKind.i64 n_5) h' →
 ∃ (Q : Value → Hp → Prop),
 (notB (sel (sel (sel (neI n 0) true (notB (strEq s_2 s_1))) true (neI (natI l) 2)) true (neI n_5 0)) = true → C 38 [Value.pointer a] h' fun (v : Value) (h' : Hp) => ∃ (b : Bool), v = Value.bool b ∧ Q (Value.bool b) h') ∧
 (notB (sel (sel (sel (neI n 0) true (notB (strEq s_2 s_1))) true (neI (natI l) 2)) true (neI n_5 0)) = false → ∃ (b : Bool), Q (Value.bool b) h') ∧
 ∀ (b : Bool) (h' : Hp),
 Q (Value.bool b) h' →
 if sel (sel (sel (sel (neI n 0) true (notB (strEq s_2 s_1))) true (neI (natI l) 2)) true (neI n_5 0)) true b = true then K (Value.bool false) h'
 else
 C 34 [Value.pointer a] h' fun (v : Value) (h' : Hp) =>
 ∃ (a_11 : Option Addr),
 ∃ (l : Nat),
 ∃ (c : Nat),
 v = Value.slice a_11 l c ∧
 C 55 [Value.pointer a, Value.int IntKind.u32 0] h' fun (v : Value) (h' : Hp) =>
 ∃ (s_3 : ByteArray),
 ∃ (n : Int),
 v = Value.tuple (Array.mk [Value.string s_3, Value.int IntKind.i64 n]) ∧
 (eqI (natI l) 2 = true → a_11.isSome = true ∧ inR 0 l) ∧
 ∃ (s_4 : ByteArray),
 (eqI (natI l) 2 = true → plainA (some (Addr.mk (blk a_11) (plusI (off a_11) 0 1) none)) = true ∧ h'.cellsAt (blk a_11) (plusI (off a_11) 0 1) 1 = some [Value.string s_4]) ∧
 (eqI (natI l) 2 = true → subOk s_1 0 128) ∧
 (eqI (natI l) 2 = true → subOk s 128 (natI (lenS s))) ∧
 (eqI (natI l) 2 = true → catOk (strSub s_1 0 128) (strSub s 128 (natI (lenS s)))) ∧
 ∃ (Q : Value → Hp → Prop),
 (sel (sel (eqI (natI l) 2) (strEq s_4 (strCat (strSub s_1 0 128) (strSub s 128 (natI (lenS s))))) false) (eqI n 7) false = true →
 C 36 [Value.pointer a] h' fun (v : Value) (h' : Hp) => ∃ (n : Int), v = Value.int IntKind.i64 n ∧ Q (Value.int IntKind.i64 n) h') ∧
 (sel (sel (eqI (natI l) 2) (strEq s_4 (strCat (strSub s_1 0 128) (strSub s 128 (natI (lenS s))))) false) (eqI n 7) false = false → ∃ (n : Int), Q (Value.int IntKind.i64 n) h') ∧
 ∀ (n_6 : Int) (h' : Hp),
 Q (Value.int IntKind.i64 n_6) h' →
 ∃ (Q : Value → Hp → Prop),
 (sel (sel (sel (eqI (natI l) 2) (strEq s_4 (strCat (strSub s_1 0 128) (strSub s 128 (natI (lenS s))))) false) (eqI n 7) false) (eqI n_6 0) false = true →
 C 56 [Value.pointer a] h' fun (v : Value) (h' : Hp) => ∃ (n : Int), v = Value.int IntKind.i64 n ∧ Q (Value.int IntKind.i64 n) h') ∧
 (sel (sel (sel (eqI (natI l) 2) (strEq s_4 (strCat (strSub s_1 0 128) (strSub s 128 (natI (lenS s))))) false) (eqI n 7) false) (eqI n_6 0) false = false → ∃ (n : Int), Q (Value.int IntKind.i64 n) h') ∧
 ∀ (n_7 : Int) (h' : Hp),
 Q (Value.int IntKind.i64 n_7) h' → K (Value.bool (sel (sel (sel (sel (eqI (natI l) 2) (strEq s_4 (strCat (strSub s_1 0 128) (strSub s 128 (natI (lenS s))))) false) (eqI n 7) false) (eqI n_6 0) false) (eqI n_7 1) false)) h') := by kernel_rfl

def shp27 : Nat → List (Tmp × TypeId) := fun i => []
theorem vc27 (C : FuncId → List Value → Hp → (Value → Hp → Prop) → Prop) (d : Nat) (dO wh no n len b st : Int) (aa : Option Addr) (al ac : Nat) (fa : Option Addr) (fl fc : Nat) (h : Hp) (K : Value → Hp → Prop) : vBody Try.prog C pf shp27 Try.f27 (Try.f27.body.getD .skip) [.pointer (some ⟨d, 0, none⟩), .agg #[.int .i64 dO, .int .i64 wh, .int .u32 no, .int .i64 n, .int .i64 len, .int .u8 b, .int .u8 st, .slice aa al ac, .slice fa fl fc]] h K = (
 ∀ (h' : Hp),
 h' = h.alloc [Value.int IntKind.i64 dO, Value.int IntKind.i64 wh, Value.int IntKind.u32 no, Value.int IntKind.i64 n, Value.int IntKind.i64 len, Value.int IntKind.u8 b, Value.int IntKind.u8 st, Value.slice aa al ac, Value.slice fa fl fc] 47 →
 plainA (some (Addr.mk h.next 0 none)) = true ∧
 ∃ (n : Int),
 (plainA (some (Addr.mk h.next 0 none)) = true ∧ h'.cellsAt h.next 0 1 = some [Value.int IntKind.i64 n]) ∧
 if eqI n 1 = true then
 plainA (some (Addr.mk h.next 0 none)) = true ∧
 ∃ (n : Int),
 (plainA (some (Addr.mk h.next 2 none)) = true ∧ h'.cellsAt h.next 2 1 = some [Value.int IntKind.u32 n]) ∧
 nonzero 8 ∧
 plainA (some (Addr.mk h.next 0 none)) = true ∧
 ∃ (n_1 : Int),
 ∃ (n_2 : Int),
 ∃ (n_3 : Int),
 (plainA (some (Addr.mk h.next 4 none)) = true ∧ h'.cellsAt h.next 4 3 = some [Value.int IntKind.i64 n_1, Value.int IntKind.u8 n_2, Value.int IntKind.u8 n_3]) ∧
 C 29 [Value.agg (Array.mk [Value.int IntKind.i64 n_1, Value.int IntKind.u8 n_2, Value.int IntKind.u8 n_3]), Value.int IntKind.i64 1024] h' fun (v : Value) (h' : Hp) =>
 ∃ (s : ByteArray), v = Value.string s ∧ (plainA (some (Addr.mk h.next 2 none)) = true ∧ h'.cellsAt h.next 2 1 = some [Value.int IntKind.u32 n]) ∧ C 54 [Value.pointer (some (Addr.mk d 0 none)), Value.int IntKind.u32 (remW n 8), Value.string s] h' fun (v : Value) (h' : Hp) => ∃ (n : Int), v = Value.int IntKind.i64 n ∧ K (Value.bool (eqI n 0)) h'
 else
 if eqI n 2 = true then plainA (some (Addr.mk h.next 0 none)) = true ∧ ∃ (n : Int), (plainA (some (Addr.mk h.next 3 none)) = true ∧ h'.cellsAt h.next 3 1 = some [Value.int IntKind.i64 n]) ∧ C 53 [Value.pointer (some (Addr.mk d 0 none)), Value.int IntKind.i64 n] h' fun (v : Value) (h' : Hp) => ∃ (n : Int), v = Value.int IntKind.i64 n ∧ K (Value.bool (eqI n 0)) h'
 else if eqI n 3 = true then C 46 [Value.pointer (some (Addr.mk d 0 none))] h' fun (v : Value) (h' : Hp) => ∃ (n : Int), v = Value.int IntKind.i64 n ∧ K (Value.bool (eqI n 0)) h' else K (Value.bool true) h') := by kernel_rfl

def shp35 : Nat → List (Tmp × TypeId) := fun i => if i = 6 then [(11, 3)] else []
theorem vc35 (C : FuncId → List Value → Hp → (Value → Hp → Prop) → Prop) (n : Int) (x y : ByteArray) (a : Option Addr) (l c : Nat) (h : Hp) (K : Value → Hp → Prop) : vBody Try.prog C pf shp35 Try.f35 (Try.f35.body.getD .skip) [.int .i64 n, .string x, .string y, .slice a l c] h K = (
 nonzero 8 ∧
 subOk x (mulW IntKind.i64 n (quoW IntKind.i64 (natI (lenS x)) 8)) (addW IntKind.i64 (mulW IntKind.i64 n (quoW IntKind.i64 (natI (lenS x)) 8)) (quoW IntKind.i64 (natI (lenS x)) 8)) ∧
 subOk y (mulW IntKind.i64 n (quoW IntKind.i64 (natI (lenS x)) 8)) (addW IntKind.i64 (mulW IntKind.i64 n (quoW IntKind.i64 (natI (lenS x)) 8)) (quoW IntKind.i64 (natI (lenS x)) 8)) ∧
 if strEq (strSub x (mulW IntKind.i64 n (quoW IntKind.i64 (natI (lenS x)) 8)) (addW IntKind.i64 (mulW IntKind.i64 n (quoW IntKind.i64 (natI (lenS x)) 8)) (quoW IntKind.i64 (natI (lenS x)) 8))) (strSub y (mulW IntKind.i64 n (quoW IntKind.i64 (natI (lenS x)) 8)) (addW IntKind.i64 (mulW IntKind.i64 n (quoW IntKind.i64 (natI (lenS x)) 8)) (quoW IntKind.i64 (natI (lenS x)) 8))) = true then
 K (Value.bool true) h
 else
 ∃ (I : List Value → Nat → Hp → Prop),
 (∃ (m : Nat), I [Value.int IntKind.i64 0] m h) ∧
 ∀ (n_1 : Int) (m : Nat) (h : Hp),
 I [Value.int IntKind.i64 n_1] m h →
 if ltI n_1 (natI l) = true then
 (a.isSome = true ∧ inR n_1 l) ∧
 ∃ (s : ByteArray),
 (plainA (some (Addr.mk (blk a) (plusI (off a) n_1 1) none)) = true ∧ h.cellsAt (blk a) (plusI (off a) n_1 1) 1 = some [Value.string s]) ∧
 subOk s (mulW IntKind.i64 n (quoW IntKind.i64 (natI (lenS x)) 8)) (addW IntKind.i64 (mulW IntKind.i64 n (quoW IntKind.i64 (natI (lenS x)) 8)) (quoW IntKind.i64 (natI (lenS x)) 8)) ∧
 if
 strEq (strSub x (mulW IntKind.i64 n (quoW IntKind.i64 (natI (lenS x)) 8)) (addW IntKind.i64 (mulW IntKind.i64 n (quoW IntKind.i64 (natI (lenS x)) 8)) (quoW IntKind.i64 (natI (lenS x)) 8)))
 (strSub s (mulW IntKind.i64 n (quoW IntKind.i64 (natI (lenS x)) 8)) (addW IntKind.i64 (mulW IntKind.i64 n (quoW IntKind.i64 (natI (lenS x)) 8)) (quoW IntKind.i64 (natI (lenS x)) 8))) =
 true then
 K (Value.bool true) h
 else ∃ (m' : Nat), lessN m' m ∧ I [Value.int IntKind.i64 (addW IntKind.i64 n_1 1)] m' h
 else K (Value.bool false) h) := by kernel_rfl

def shp43 : Nat → List (Tmp × TypeId) := fun i => if i = 4 then [(5, 3)] else []
theorem vc43 (C : FuncId → List Value → Hp → (Value → Hp → Prop) → Prop) (a b : Option Addr) (l c l' c' : Nat) (h : Hp) (K : Value → Hp → Prop) : vBody Try.prog C pf shp43 Try.f43 (Try.f43.body.getD .skip) [.slice a l c, .slice b l' c'] h K = (
 if neI (natI l) (natI l') = true then K (Value.bool false) h
 else
 ∃ (I : List Value → Nat → Hp → Prop),
 (∃ (m : Nat), I [Value.int IntKind.i64 0] m h) ∧
 ∀ (n : Int) (m : Nat) (h : Hp),
 I [Value.int IntKind.i64 n] m h →
 if ltI n (natI l) = true then
 (a.isSome = true ∧ inR n l) ∧
 ∃ (s : ByteArray),
 (plainA (some (Addr.mk (blk a) (plusI (off a) n 1) none)) = true ∧ h.cellsAt (blk a) (plusI (off a) n 1) 1 = some [Value.string s]) ∧
 (b.isSome = true ∧ inR n l') ∧ ∃ (s_1 : ByteArray), (plainA (some (Addr.mk (blk b) (plusI (off b) n 1) none)) = true ∧ h.cellsAt (blk b) (plusI (off b) n 1) 1 = some [Value.string s_1]) ∧ if notB (strEq s s_1) = true then K (Value.bool false) h else ∃ (m' : Nat), lessN m' m ∧ I [Value.int IntKind.i64 (addW IntKind.i64 n 1)] m' h
 else K (Value.bool true) h) := by kernel_rfl

def shp64 : Nat → List (Tmp × TypeId) := fun i => []
theorem vc64 (C : FuncId → List Value → Hp → (Value → Hp → Prop) → Prop) (n : Int) (h : Hp) (K : Value → Hp → Prop) : vBody Try.prog C pf shp64 Try.f64 (Try.f64.body.getD .skip) [.int .i64 n] h K = (
 K (Value.bool (sel (sel (sel (eqI n 1024) true (eqI n 2048)) true (eqI n 4096)) true (eqI n 8192))) h) := by kernel_rfl

def shp71 : Nat → List (Tmp × TypeId) := fun i => if i = 3 then [(3, 3), (4, 3)] else []
theorem vc71 (C : FuncId → List Value → Hp → (Value → Hp → Prop) → Prop) (r : Nat) (h : Hp) (K : Value → Hp → Prop) : vBody Try.prog C pf shp71 Try.f71 (Try.f71.body.getD .skip) [.pointer (some ⟨r, 0, none⟩)] h K = (
 (some (Addr.mk r 0 none)).isSome = true ∧
 plainA (some (Addr.mk r 0 none)) = true ∧
 ∃ (a : Option Addr),
 ∃ (l : Nat),
 ∃ (c : Nat),
 (plainA (some (Addr.mk r 2 none)) = true ∧ h.cellsAt r 2 1 = some [Value.slice a l c]) ∧
 ∃ (I : List Value → Nat → Hp → Prop),
 (∃ (m : Nat), I [Value.int IntKind.i64 (natI l), Value.int IntKind.i64 0] m h) ∧
 ∀ (n n_1 : Int) (m : Nat) (h : Hp),
 I [Value.int IntKind.i64 n, Value.int IntKind.i64 n_1] m h →
 (some (Addr.mk r 0 none)).isSome = true ∧
 plainA (some (Addr.mk r 0 none)) = true ∧
 ∃ (a : Option Addr),
 ∃ (l : Nat),
 ∃ (c : Nat),
 (plainA (some (Addr.mk r 3 none)) = true ∧ h.cellsAt r 3 1 = some [Value.slice a l c]) ∧
 if ltI n_1 (natI l) = true then
 (some (Addr.mk r 0 none)).isSome = true ∧
 plainA (some (Addr.mk r 0 none)) = true ∧
 ∃ (a : Option Addr),
 ∃ (l : Nat),
 ∃ (c : Nat),
 (plainA (some (Addr.mk r 3 none)) = true ∧ h.cellsAt r 3 1 = some [Value.slice a l c]) ∧
 (a.isSome = true ∧ inR n_1 l) ∧
 plainA (some (Addr.mk (blk a) (plusI (off a) n_1 3) none)) = true ∧
 ∃ (b : Bool),
 (plainA (some (Addr.mk (blk a) (plusI (off a) n_1 3) none)) = true ∧ h.cellsAt (blk a) (plusI (off a) n_1 3) 1 = some [Value.bool b]) ∧
 if b = true then
 (some (Addr.mk r 0 none)).isSome = true ∧
 plainA (some (Addr.mk r 0 none)) = true ∧
 ∃ (a : Option Addr),
 ∃ (l : Nat),
 ∃ (c : Nat),
 (plainA (some (Addr.mk r 3 none)) = true ∧ h.cellsAt r 3 1 = some [Value.slice a l c]) ∧
 (a.isSome = true ∧ inR n_1 l) ∧
 plainA (some (Addr.mk (blk a) (plusI (off a) n_1 3) none)) = true ∧
 ∃ (n : Int), (plainA (some (Addr.mk (blk a) (plusN (plusI (off a) n_1 3) 1) none)) = true ∧ h.cellsAt (blk a) (plusN (plusI (off a) n_1 3) 1) 1 = some [Value.int IntKind.i64 n]) ∧ ∃ (m' : Nat), lessN m' m ∧ I [Value.int IntKind.i64 n, Value.int IntKind.i64 (addW IntKind.i64 n_1 1)] m' h
 else ∃ (m' : Nat), lessN m' m ∧ I [Value.int IntKind.i64 n, Value.int IntKind.i64 (addW IntKind.i64 n_1 1)] m' h
 else K (Value.int IntKind.i64 n) h) := by kernel_rfl

def shp40 : Nat → List (Tmp × TypeId) := fun i => if i = 7 then [(9, 3)] else []
theorem vc40 (C : FuncId → List Value → Hp → (Value → Hp → Prop) → Prop) (page most : Int) (a : Option Addr) (l c : Nat) (h : Hp) (K : Value → Hp → Prop) : vBody Try.prog C pf shp40 Try.f40 (Try.f40.body.getD .skip) [.int .i64 page, .int .i64 most, .slice a l c] h K = (
 C 64 [Value.int IntKind.i64 page] h fun (v : Value) (h' : Hp) =>
 ∃ (b : Bool),
 v = Value.bool b ∧
 if sel (sel (notB b) true (ltI most 1)) true (gtI most 65536) = true then K (Value.tuple (Array.mk [Value.pointer none, Value.int IntKind.i64 2])) h'
 else
 if gtI (natI l) most = true then K (Value.tuple (Array.mk [Value.pointer none, Value.int IntKind.i64 42])) h'
 else
 ∀ (h'_1 : Hp),
 h'_1 = h'.alloc [Value.int IntKind.i64 page, Value.int IntKind.i64 most, Value.slice none 0 0, Value.slice none 0 0, Value.slice none 0 0, Value.bool true, Value.int IntKind.i64 (Int.ofNat 0), Value.int IntKind.i64 (Int.ofNat 0), Value.int IntKind.i64 (Int.ofNat 0), Value.int IntKind.i64 (Int.ofNat 0), Value.int IntKind.i64 (Int.ofNat 0)] 114 →
 ∃ (I : List Value → Nat → Hp → Prop),
 (∃ (m : Nat), I [Value.int IntKind.i64 0] m h'_1) ∧
 ∀ (n : Int) (m : Nat) (h : Hp),
 I [Value.int IntKind.i64 n] m h →
 if ltI n (natI l) = true then
 (a.isSome = true ∧ inR n l) ∧
 ∃ (s : ByteArray),
 (plainA (some (Addr.mk (blk a) (plusI (off a) n 1) none)) = true ∧ h.cellsAt (blk a) (plusI (off a) n 1) 1 = some [Value.string s]) ∧
 if neI (natI (lenS s)) page = true then K (Value.tuple (Array.mk [Value.pointer none, Value.int IntKind.i64 42])) h
 else
 (some (Addr.mk h'.next 0 none)).isSome = true ∧
 plainA (some (Addr.mk h'.next 0 none)) = true ∧
 ∃ (a_3 : Option Addr),
 ∃ (l_1 : Nat),
 ∃ (c : Nat),
 (plainA (some (Addr.mk h'.next 2 none)) = true ∧ h.cellsAt h'.next 2 1 = some [Value.slice a_3 l_1 c]) ∧
 (a.isSome = true ∧ inR n l) ∧
 ∃ (s : ByteArray),
 (plainA (some (Addr.mk (blk a) (plusI (off a) n 1) none)) = true ∧ h.cellsAt (blk a) (plusI (off a) n 1) 1 = some [Value.string s]) ∧
 ∀ (h'_2 : Hp),
 h'_2 = h.alloc [Value.string s] 9 →
 (plainA (some (Addr.mk h'.next 2 none)) = true ∧ h'_2.cellsAt h'.next 2 1 = some [Value.slice a_3 l_1 c]) ∧
 ∃ (a : Option Addr),
 ∃ (m_1 : Nat),
 ∃ (n_1 : Nat),
 ∃ (h'_3 : Hp),
 cappend Try.prog 40 40 (Value.slice a_3 l_1 c) (Value.slice (some (Addr.mk h.next 0 none)) 1 1) h'_2 = some (Value.slice a m_1 n_1, h'_3) ∧
 (some (Addr.mk h'.next 0 none)).isSome = true ∧ plainA (some (Addr.mk h'.next 0 none)) = true ∧ plainA (some (Addr.mk h'.next 2 none)) = true ∧ ∃ (h'_4 : Hp), h'_3.store h'.next 2 [Value.slice a m_1 n_1] = some h'_4 ∧ ∃ (m' : Nat), lessN m' m ∧ I [Value.int IntKind.i64 (addW IntKind.i64 n 1)] m' h'_4
 else K (Value.tuple (Array.mk [Value.pointer (some (Addr.mk h'.next 0 none)), Value.int IntKind.i64 0])) h) := by kernel_rfl

def shp42 : Nat → List (Tmp × TypeId) := fun i => []
theorem vc42 (C : FuncId → List Value → Hp → (Value → Hp → Prop) → Prop) (d r : Nat) (h : Hp) (K : Value → Hp → Prop) : vBody Try.prog C pf shp42 Try.f42 (Try.f42.body.getD .skip) [.pointer (some ⟨d, 0, none⟩), .pointer (some ⟨r, 0, none⟩)] h K = (
 (some (Addr.mk r 0 none)).isSome = true ∧
 plainA (some (Addr.mk r 0 none)) = true ∧
 ∃ (n : Int),
 (plainA (some (Addr.mk r 0 none)) = true ∧ h.cellsAt r 0 1 = some [Value.int IntKind.i64 n]) ∧
 C 69 [Value.pointer (some (Addr.mk d 0 none))] h fun (v : Value) (h' : Hp) =>
 ∃ (n_1 : Int),
 v = Value.int IntKind.i64 n_1 ∧
 (plainA (some (Addr.mk r 0 none)) = true ∧ h'.cellsAt r 0 1 = some [Value.int IntKind.i64 n]) ∧
 (eqI n_1 n = true → (some (Addr.mk r 0 none)).isSome = true) ∧
 (eqI n_1 n = true → plainA (some (Addr.mk r 0 none)) = true) ∧
 ∃ (n_2 : Int),
 (eqI n_1 n = true → plainA (some (Addr.mk r 1 none)) = true ∧ h'.cellsAt r 1 1 = some [Value.int IntKind.i64 n_2]) ∧
 ∃ (Q : Value → Hp → Prop),
 (eqI n_1 n = true → C 70 [Value.pointer (some (Addr.mk d 0 none))] h' fun (v : Value) (h' : Hp) => ∃ (n : Int), v = Value.int IntKind.i64 n ∧ Q (Value.int IntKind.i64 n) h') ∧
 (eqI n_1 n = false → ∃ (n : Int), Q (Value.int IntKind.i64 n) h') ∧
 ∀ (n_3 : Int) (h' : Hp),
 Q (Value.int IntKind.i64 n_3) h' →
 (eqI n_1 n = true → plainA (some (Addr.mk r 1 none)) = true ∧ h'.cellsAt r 1 1 = some [Value.int IntKind.i64 n_2]) ∧
 ∃ (Q : Value → Hp → Prop),
 (sel (eqI n_1 n) (eqI n_3 n_2) false = true → C 57 [Value.pointer (some (Addr.mk d 0 none))] h' fun (v : Value) (h' : Hp) => ∃ (n : Int), v = Value.int IntKind.i64 n ∧ Q (Value.int IntKind.i64 n) h') ∧
 (sel (eqI n_1 n) (eqI n_3 n_2) false = false → ∃ (n : Int), Q (Value.int IntKind.i64 n) h') ∧
 ∀ (n_4 : Int) (h' : Hp),
 Q (Value.int IntKind.i64 n_4) h' →
 ∃ (Q : Value → Hp → Prop),
 (sel (eqI n_1 n) (eqI n_3 n_2) false = true → C 71 [Value.pointer (some (Addr.mk r 0 none))] h' fun (v : Value) (h' : Hp) => ∃ (n : Int), v = Value.int IntKind.i64 n ∧ Q (Value.int IntKind.i64 n) h') ∧
 (sel (eqI n_1 n) (eqI n_3 n_2) false = false → ∃ (n : Int), Q (Value.int IntKind.i64 n) h') ∧
 ∀ (n_5 : Int) (h' : Hp),
 Q (Value.int IntKind.i64 n_5) h' →
 (sel (sel (eqI n_1 n) (eqI n_3 n_2) false) (eqI n_4 n_5) false = true → (some (Addr.mk r 0 none)).isSome = true) ∧
 (sel (sel (eqI n_1 n) (eqI n_3 n_2) false) (eqI n_4 n_5) false = true → plainA (some (Addr.mk r 0 none)) = true) ∧
 ∃ (a : Option Addr),
 ∃ (l : Nat),
 ∃ (c : Nat),
 (sel (sel (eqI n_1 n) (eqI n_3 n_2) false) (eqI n_4 n_5) false = true → plainA (some (Addr.mk r 4 none)) = true ∧ h'.cellsAt r 4 1 = some [Value.slice a l c]) ∧
 ∃ (Q : Value → Hp → Prop),
 (sel (sel (eqI n_1 n) (eqI n_3 n_2) false) (eqI n_4 n_5) false = true → C 45 [Value.pointer (some (Addr.mk d 0 none))] h' fun (v : Value) (h' : Hp) => ∃ (n : Int), v = Value.int IntKind.i64 n ∧ Q (Value.int IntKind.i64 n) h') ∧
 (sel (sel (eqI n_1 n) (eqI n_3 n_2) false) (eqI n_4 n_5) false = false → ∃ (n : Int), Q (Value.int IntKind.i64 n) h') ∧
 ∀ (n_6 : Int) (h' : Hp),
 Q (Value.int IntKind.i64 n_6) h' →
 (sel (sel (eqI n_1 n) (eqI n_3 n_2) false) (eqI n_4 n_5) false = true → plainA (some (Addr.mk r 4 none)) = true ∧ h'.cellsAt r 4 1 = some [Value.slice a l c]) ∧
 (sel (sel (sel (eqI n_1 n) (eqI n_3 n_2) false) (eqI n_4 n_5) false) (eqI n_6 (natI l)) false = true → (some (Addr.mk r 0 none)).isSome = true) ∧
 (sel (sel (sel (eqI n_1 n) (eqI n_3 n_2) false) (eqI n_4 n_5) false) (eqI n_6 (natI l)) false = true → plainA (some (Addr.mk r 0 none)) = true) ∧
 ∃ (b : Bool),
 (sel (sel (sel (eqI n_1 n) (eqI n_3 n_2) false) (eqI n_4 n_5) false) (eqI n_6 (natI l)) false = true → plainA (some (Addr.mk r 5 none)) = true ∧ h'.cellsAt r 5 1 = some [Value.bool b]) ∧
 ∃ (Q : Value → Hp → Prop),
 (sel (sel (sel (eqI n_1 n) (eqI n_3 n_2) false) (eqI n_4 n_5) false) (eqI n_6 (natI l)) false = true → C 38 [Value.pointer (some (Addr.mk d 0 none))] h' fun (v : Value) (h' : Hp) => ∃ (b : Bool), v = Value.bool b ∧ Q (Value.bool b) h') ∧
 (sel (sel (sel (eqI n_1 n) (eqI n_3 n_2) false) (eqI n_4 n_5) false) (eqI n_6 (natI l)) false = false → ∃ (b : Bool), Q (Value.bool b) h') ∧
 ∀ (b_1 : Bool) (h' : Hp),
 Q (Value.bool b_1) h' →
 (sel (sel (sel (eqI n_1 n) (eqI n_3 n_2) false) (eqI n_4 n_5) false) (eqI n_6 (natI l)) false = true → plainA (some (Addr.mk r 5 none)) = true ∧ h'.cellsAt r 5 1 = some [Value.bool b]) ∧
 (sel (sel (sel (sel (eqI n_1 n) (eqI n_3 n_2) false) (eqI n_4 n_5) false) (eqI n_6 (natI l)) false) (eqB b_1 b) false = true → (some (Addr.mk r 0 none)).isSome = true) ∧
 (sel (sel (sel (sel (eqI n_1 n) (eqI n_3 n_2) false) (eqI n_4 n_5) false) (eqI n_6 (natI l)) false) (eqB b_1 b) false = true → plainA (some (Addr.mk r 0 none)) = true) ∧
 ∃ (n_7 : Int),
 (sel (sel (sel (sel (eqI n_1 n) (eqI n_3 n_2) false) (eqI n_4 n_5) false) (eqI n_6 (natI l)) false) (eqB b_1 b) false = true → plainA (some (Addr.mk r 6 none)) = true ∧ h'.cellsAt r 6 1 = some [Value.int IntKind.i64 n_7]) ∧
 ∃ (Q : Value → Hp → Prop),
 (sel (sel (sel (sel (eqI n_1 n) (eqI n_3 n_2) false) (eqI n_4 n_5) false) (eqI n_6 (natI l)) false) (eqB b_1 b) false = true → C 56 [Value.pointer (some (Addr.mk d 0 none))] h' fun (v : Value) (h' : Hp) => ∃ (n : Int), v = Value.int IntKind.i64 n ∧ Q (Value.int IntKind.i64 n) h') ∧
 (sel (sel (sel (sel (eqI n_1 n) (eqI n_3 n_2) false) (eqI n_4 n_5) false) (eqI n_6 (natI l)) false) (eqB b_1 b) false = false → ∃ (n : Int), Q (Value.int IntKind.i64 n) h') ∧
 ∀ (n_8 : Int) (h' : Hp),
 Q (Value.int IntKind.i64 n_8) h' →
 (sel (sel (sel (sel (eqI n_1 n) (eqI n_3 n_2) false) (eqI n_4 n_5) false) (eqI n_6 (natI l)) false) (eqB b_1 b) false = true → plainA (some (Addr.mk r 6 none)) = true ∧ h'.cellsAt r 6 1 = some [Value.int IntKind.i64 n_7]) ∧
 (sel (sel (sel (sel (sel (eqI n_1 n) (eqI n_3 n_2) false) (eqI n_4 n_5) false) (eqI n_6 (natI l)) false) (eqB b_1 b) false) (eqI n_8 n_7) false = true → (some (Addr.mk r 0 none)).isSome = true) ∧
 (sel (sel (sel (sel (sel (eqI n_1 n) (eqI n_3 n_2) false) (eqI n_4 n_5) false) (eqI n_6 (natI l)) false) (eqB b_1 b) false) (eqI n_8 n_7) false = true → plainA (some (Addr.mk r 0 none)) = true) ∧
 ∃ (n_9 : Int),
 (sel (sel (sel (sel (sel (eqI n_1 n) (eqI n_3 n_2) false) (eqI n_4 n_5) false) (eqI n_6 (natI l)) false) (eqB b_1 b) false) (eqI n_8 n_7) false = true → plainA (some (Addr.mk r 7 none)) = true ∧ h'.cellsAt r 7 1 = some [Value.int IntKind.i64 n_9]) ∧
 ∃ (Q : Value → Hp → Prop),
 (sel (sel (sel (sel (sel (eqI n_1 n) (eqI n_3 n_2) false) (eqI n_4 n_5) false) (eqI n_6 (natI l)) false) (eqB b_1 b) false) (eqI n_8 n_7) false = true →
 C 39 [Value.pointer (some (Addr.mk d 0 none))] h' fun (v : Value) (h' : Hp) => ∃ (n : Int), v = Value.int IntKind.i64 n ∧ Q (Value.int IntKind.i64 n) h') ∧
 (sel (sel (sel (sel (sel (eqI n_1 n) (eqI n_3 n_2) false) (eqI n_4 n_5) false) (eqI n_6 (natI l)) false) (eqB b_1 b) false) (eqI n_8 n_7) false = false → ∃ (n : Int), Q (Value.int IntKind.i64 n) h') ∧
 ∀ (n_10 : Int) (h' : Hp),
 Q (Value.int IntKind.i64 n_10) h' →
 (sel (sel (sel (sel (sel (eqI n_1 n) (eqI n_3 n_2) false) (eqI n_4 n_5) false) (eqI n_6 (natI l)) false) (eqB b_1 b) false) (eqI n_8 n_7) false = true → plainA (some (Addr.mk r 7 none)) = true ∧ h'.cellsAt r 7 1 = some [Value.int IntKind.i64 n_9]) ∧
 (sel (sel (sel (sel (sel (sel (eqI n_1 n) (eqI n_3 n_2) false) (eqI n_4 n_5) false) (eqI n_6 (natI l)) false) (eqB b_1 b) false) (eqI n_8 n_7) false) (eqI n_10 n_9) false = true → (some (Addr.mk r 0 none)).isSome = true) ∧
 (sel (sel (sel (sel (sel (sel (eqI n_1 n) (eqI n_3 n_2) false) (eqI n_4 n_5) false) (eqI n_6 (natI l)) false) (eqB b_1 b) false) (eqI n_8 n_7) false) (eqI n_10 n_9) false = true → plainA (some (Addr.mk r 0 none)) = true) ∧
 ∃ (n_11 : Int),
 ∃ (n_12 : Int),
 ∃ (n_13 : Int),
 (sel (sel (sel (sel (sel (sel (eqI n_1 n) (eqI n_3 n_2) false) (eqI n_4 n_5) false) (eqI n_6 (natI l)) false) (eqB b_1 b) false) (eqI n_8 n_7) false) (eqI n_10 n_9) false = true →
 plainA (some (Addr.mk r 8 none)) = true ∧ h'.cellsAt r 8 3 = some [Value.int IntKind.i64 n_11, Value.int IntKind.i64 n_12, Value.int IntKind.i64 n_13]) ∧
 ∃ (Q : Value → Hp → Prop),
 (sel (sel (sel (sel (sel (sel (eqI n_1 n) (eqI n_3 n_2) false) (eqI n_4 n_5) false) (eqI n_6 (natI l)) false) (eqB b_1 b) false) (eqI n_8 n_7) false) (eqI n_10 n_9) false = true →
 C 37 [Value.pointer (some (Addr.mk d 0 none))] h' fun (v : Value) (h' : Hp) =>
 ∃ (n : Int),
 ∃ (n_14 : Int),
 ∃ (n_15 : Int),
 v = Value.agg (Array.mk [Value.int IntKind.i64 n, Value.int IntKind.i64 n_14, Value.int IntKind.i64 n_15]) ∧ Q (Value.agg (Array.mk [Value.int IntKind.i64 n, Value.int IntKind.i64 n_14, Value.int IntKind.i64 n_15])) h') ∧
 (sel (sel (sel (sel (sel (sel (eqI n_1 n) (eqI n_3 n_2) false) (eqI n_4 n_5) false) (eqI n_6 (natI l)) false) (eqB b_1 b) false) (eqI n_8 n_7) false) (eqI n_10 n_9) false = false →
 ∃ (n : Int), ∃ (n_14 : Int), ∃ (n_15 : Int), Q (Value.agg (Array.mk [Value.int IntKind.i64 n, Value.int IntKind.i64 n_14, Value.int IntKind.i64 n_15])) h') ∧
 ∀ (n_14 n_15 n_16 : Int) (h' : Hp),
 Q (Value.agg (Array.mk [Value.int IntKind.i64 n_14, Value.int IntKind.i64 n_15, Value.int IntKind.i64 n_16])) h' →
 (sel (sel (sel (sel (sel (sel (eqI n_1 n) (eqI n_3 n_2) false) (eqI n_4 n_5) false) (eqI n_6 (natI l)) false) (eqB b_1 b) false) (eqI n_8 n_7) false) (eqI n_10 n_9) false = true →
 plainA (some (Addr.mk r 8 none)) = true ∧ h'.cellsAt r 8 3 = some [Value.int IntKind.i64 n_11, Value.int IntKind.i64 n_12, Value.int IntKind.i64 n_13]) ∧
 K
 (Value.bool
 (sel (sel (sel (sel (sel (sel (sel (eqI n_1 n) (eqI n_3 n_2) false) (eqI n_4 n_5) false) (eqI n_6 (natI l)) false) (eqB b_1 b) false) (eqI n_8 n_7) false) (eqI n_10 n_9) false)
 (andB (eqI n_14 n_11) (andB (eqI n_15 n_12) (andB (eqI n_16 n_13) true))) false))
 h') := by kernel_rfl

def shp8 : Nat → List (Tmp × TypeId) := fun i => []
theorem vc8 (C : FuncId → List Value → Hp → (Value → Hp → Prop) → Prop)  (h : Hp) (K : Value → Hp → Prop) : vBody Try.prog C pf shp8 Try.f8 (Try.f8.body.getD .skip) [] h K = (
 ∃ (Q : Value → Hp → Prop), (true = true → C 25 [] h fun (v : Value) (h' : Hp) => ∃ (b : Bool), v = Value.bool b ∧ Q (Value.bool b) h') ∧ (true = false → ∃ (b : Bool), Q (Value.bool b) h) ∧ ∀ (b : Bool) (h' : Hp), Q (Value.bool b) h' → K (Value.bool (sel true b false)) h') := by kernel_rfl

def shp10 : Nat → List (Tmp × TypeId) := fun i => if i = 5 then [(9, 3)] else if i = 12 then [(12, 3)] else if i = 17 then [(13, 3)] else []
theorem vc10 (C : FuncId → List Value → Hp → (Value → Hp → Prop) → Prop) (a : Option Addr) (l c : Nat) (a1 : Option Addr) (l1 c1 : Nat) (a2 : Option Addr) (l2 c2 : Nat) (h : Hp) (K : Value → Hp → Prop) : vBody Try.prog C pf shp10 Try.f10 (Try.f10.body.getD .skip) [.slice a l c, .slice a1 l1 c1, .slice a2 l2 c2] h K = (
 C 26 [Value.int IntKind.i64 1024, Value.int IntKind.i64 8] h fun (v : Value) (h' : Hp) =>
 ∃ (a_1 : Option Addr),
 ∃ (n : Int),
 v = Value.tuple (Array.mk [Value.pointer a_1, Value.int IntKind.i64 n]) ∧
 ∃ (Q : Value → Hp → Prop),
 (notB (sel (neI n 0) true (isN a_1)) = true → C 25 [] h' fun (v : Value) (h' : Hp) => ∃ (b : Bool), v = Value.bool b ∧ Q (Value.bool b) h') ∧
 (notB (sel (neI n 0) true (isN a_1)) = false → ∃ (b : Bool), Q (Value.bool b) h') ∧
 ∀ (b : Bool) (h' : Hp),
 Q (Value.bool b) h' →
 if sel (sel (neI n 0) true (isN a_1)) true (notB b) = true then K (Value.bool false) h'
 else
 ∃ (I : List Value → Nat → Hp → Prop),
 (∃ (m : Nat), I [Value.int IntKind.i64 0] m h') ∧
 ∀ (n : Int) (m : Nat) (h : Hp),
 I [Value.int IntKind.i64 n] m h →
 if ltI n (natI l) = true then
 (a.isSome = true ∧ inR n l) ∧
 ∃ (n_1 : Int),
 ∃ (n_2 : Int),
 ∃ (n_3 : Int),
 ∃ (n_4 : Int),
 ∃ (n_5 : Int),
 ∃ (n_6 : Int),
 ∃ (n_7 : Int),
 ∃ (a_4 : Option Addr),
 ∃ (l : Nat),
 ∃ (c : Nat),
 ∃ (a_5 : Option Addr),
 ∃ (l_1 : Nat),
 ∃ (c_1 : Nat),
 (plainA (some (Addr.mk (blk a) (plusI (off a) n 9) none)) = true ∧
 h.cellsAt (blk a) (plusI (off a) n 9) 9 = some [Value.int IntKind.i64 n_1, Value.int IntKind.i64 n_2, Value.int IntKind.u32 n_3, Value.int IntKind.i64 n_4, Value.int IntKind.i64 n_5, Value.int IntKind.u8 n_6, Value.int IntKind.u8 n_7, Value.slice a_4 l c, Value.slice a_5 l_1 c_1]) ∧
 C 27 [Value.pointer a_1, Value.agg (Array.mk [Value.int IntKind.i64 n_1, Value.int IntKind.i64 n_2, Value.int IntKind.u32 n_3, Value.int IntKind.i64 n_4, Value.int IntKind.i64 n_5, Value.int IntKind.u8 n_6, Value.int IntKind.u8 n_7, Value.slice a_4 l c, Value.slice a_5 l_1 c_1])] h fun (v : Value) (h' : Hp) =>
 ∃ (b : Bool), v = Value.bool b ∧ ∃ (m' : Nat), lessN m' m ∧ I [Value.int IntKind.i64 (addW IntKind.i64 n 1)] m' h'
 else
 C 31 [Value.pointer a_1] h fun (v : Value) (h' : Hp) =>
 ∃ (a : Option Addr),
 v = Value.pointer a ∧
 C 31 [Value.pointer a_1] h' fun (v : Value) (h' : Hp) =>
 ∃ (a_4 : Option Addr),
 v = Value.pointer a_4 ∧
 if sel (isN a) true (isN a_4) = true then K (Value.bool false) h'
 else
 ∃ (I : List Value → Nat → Hp → Prop),
 (∃ (m : Nat), I [Value.int IntKind.i64 0] m h') ∧
 ∀ (n : Int) (m : Nat) (h : Hp),
 I [Value.int IntKind.i64 n] m h →
 if ltI n (natI l1) = true then
 (a1.isSome = true ∧ inR n l1) ∧
 ∃ (n_1 : Int),
 ∃ (n_2 : Int),
 ∃ (n_3 : Int),
 ∃ (n_4 : Int),
 ∃ (n_5 : Int),
 ∃ (n_6 : Int),
 ∃ (n_7 : Int),
 ∃ (a_6 : Option Addr),
 ∃ (l : Nat),
 ∃ (c : Nat),
 ∃ (a_7 : Option Addr),
 ∃ (l_1 : Nat),
 ∃ (c_1 : Nat),
 (plainA (some (Addr.mk (blk a1) (plusI (off a1) n 9) none)) = true ∧
 h.cellsAt (blk a1) (plusI (off a1) n 9) 9 = some [Value.int IntKind.i64 n_1, Value.int IntKind.i64 n_2, Value.int IntKind.u32 n_3, Value.int IntKind.i64 n_4, Value.int IntKind.i64 n_5, Value.int IntKind.u8 n_6, Value.int IntKind.u8 n_7, Value.slice a_6 l c, Value.slice a_7 l_1 c_1]) ∧
 C 27 [Value.pointer a, Value.agg (Array.mk [Value.int IntKind.i64 n_1, Value.int IntKind.i64 n_2, Value.int IntKind.u32 n_3, Value.int IntKind.i64 n_4, Value.int IntKind.i64 n_5, Value.int IntKind.u8 n_6, Value.int IntKind.u8 n_7, Value.slice a_6 l c, Value.slice a_7 l_1 c_1])] h fun (v : Value) (h' : Hp) =>
 ∃ (b : Bool), v = Value.bool b ∧ ∃ (m' : Nat), lessN m' m ∧ I [Value.int IntKind.i64 (addW IntKind.i64 n 1)] m' h'
 else
 ∀ (h' : Hp),
 h' = h.alloc [Value.int IntKind.u8 255, Value.int IntKind.u8 255] 57 →
 C 32 [Value.pointer a, Value.slice (some (Addr.mk h.next 0 none)) 2 2] h' fun (v : Value) (h' : Hp) =>
 ∃ (n : Int),
 v = Value.int IntKind.i64 n ∧
 ∃ (I : List Value → Nat → Hp → Prop),
 (∃ (m : Nat), I [Value.int IntKind.i64 0] m h') ∧
 ∀ (n : Int) (m : Nat) (h : Hp),
 I [Value.int IntKind.i64 n] m h →
 if ltI n (natI l2) = true then
 (a2.isSome = true ∧ inR n l2) ∧
 ∃ (n_1 : Int),
 ∃ (n_2 : Int),
 ∃ (n_3 : Int),
 ∃ (n_4 : Int),
 ∃ (n_5 : Int),
 ∃ (n_6 : Int),
 ∃ (n_7 : Int),
 ∃ (a : Option Addr),
 ∃ (l : Nat),
 ∃ (c : Nat),
 ∃ (a_8 : Option Addr),
 ∃ (l_1 : Nat),
 ∃ (c_1 : Nat),
 (plainA (some (Addr.mk (blk a2) (plusI (off a2) n 9) none)) = true ∧
 h.cellsAt (blk a2) (plusI (off a2) n 9) 9 = some [Value.int IntKind.i64 n_1, Value.int IntKind.i64 n_2, Value.int IntKind.u32 n_3, Value.int IntKind.i64 n_4, Value.int IntKind.i64 n_5, Value.int IntKind.u8 n_6, Value.int IntKind.u8 n_7, Value.slice a l c, Value.slice a_8 l_1 c_1]) ∧
 (a2.isSome = true ∧ inR n l2) ∧
 ∃ (n_8 : Int),
 ∃ (n_9 : Int),
 ∃ (n_10 : Int),
 ∃ (n_11 : Int),
 ∃ (n_12 : Int),
 ∃ (n_13 : Int),
 ∃ (n_14 : Int),
 ∃ (a_9 : Option Addr),
 ∃ (l_2 : Nat),
 ∃ (c_2 : Nat),
 ∃ (a_10 : Option Addr),
 ∃ (l_3 : Nat),
 ∃ (c_3 : Nat),
 (plainA (some (Addr.mk (blk a2) (plusI (off a2) n 9) none)) = true ∧
 h.cellsAt (blk a2) (plusI (off a2) n 9) 9 =
 some [Value.int IntKind.i64 n_8, Value.int IntKind.i64 n_9, Value.int IntKind.u32 n_10, Value.int IntKind.i64 n_11, Value.int IntKind.i64 n_12, Value.int IntKind.u8 n_13, Value.int IntKind.u8 n_14, Value.slice a_9 l_2 c_2, Value.slice a_10 l_3 c_3]) ∧
 C 27
 [Value.pointer a_1,
 Value.agg (Array.mk [Value.int IntKind.i64 n_1, Value.int IntKind.i64 n_2, Value.int IntKind.u32 n_3, Value.int IntKind.i64 n_4, Value.int IntKind.i64 n_5, Value.int IntKind.u8 n_6, Value.int IntKind.u8 n_7, Value.slice a l c, Value.slice a_8 l_1 c_1])]
 h fun (v : Value) (h' : Hp) =>
 ∃ (b : Bool),
 v = Value.bool b ∧
 (plainA (some (Addr.mk (blk a2) (plusI (off a2) n 9) none)) = true ∧
 h'.cellsAt (blk a2) (plusI (off a2) n 9) 9 =
 some [Value.int IntKind.i64 n_8, Value.int IntKind.i64 n_9, Value.int IntKind.u32 n_10, Value.int IntKind.i64 n_11, Value.int IntKind.i64 n_12, Value.int IntKind.u8 n_13, Value.int IntKind.u8 n_14, Value.slice a_9 l_2 c_2, Value.slice a_10 l_3 c_3]) ∧
 C 27
 [Value.pointer a_4,
 Value.agg
 (Array.mk
 [Value.int IntKind.i64 n_8, Value.int IntKind.i64 n_9, Value.int IntKind.u32 n_10, Value.int IntKind.i64 n_11, Value.int IntKind.i64 n_12, Value.int IntKind.u8 n_13, Value.int IntKind.u8 n_14, Value.slice a_9 l_2 c_2, Value.slice a_10 l_3 c_3])]
 h' fun (v : Value) (h' : Hp) => ∃ (b_1 : Bool), v = Value.bool b_1 ∧ if notB (eqB b b_1) = true then K (Value.bool false) h' else ∃ (m' : Nat), lessN m' m ∧ I [Value.int IntKind.i64 (addW IntKind.i64 n 1)] m' h'
 else
 C 28 [Value.pointer a_1] h fun (v : Value) (h' : Hp) =>
 ∃ (a_8 : Option Addr),
 ∃ (l : Nat),
 ∃ (c : Nat),
 v = Value.slice a_8 l c ∧
 C 28 [Value.pointer a_4] h' fun (v : Value) (h' : Hp) =>
 ∃ (a_9 : Option Addr),
 ∃ (l_1 : Nat),
 ∃ (c_1 : Nat),
 v = Value.slice a_9 l_1 c_1 ∧
 C 33 [Value.slice a_8 l c, Value.slice a_9 l_1 c_1] h' fun (v : Value) (h' : Hp) =>
 ∃ (b : Bool),
 v = Value.bool b ∧
 ∃ (Q : Value → Hp → Prop),
 (b = true → C 34 [Value.pointer a_1] h' fun (v : Value) (h' : Hp) => ∃ (a : Option Addr), ∃ (l : Nat), ∃ (c : Nat), v = Value.slice a l c ∧ Q (Value.slice a l c) h') ∧
 (b = false → ∃ (a : Option Addr), ∃ (l : Nat), ∃ (c : Nat), Q (Value.slice a l c) h') ∧
 ∀ (a_10 : Option Addr) (l c : Nat) (h' : Hp),
 Q (Value.slice a_10 l c) h' →
 ∃ (Q : Value → Hp → Prop),
 (b = true → C 34 [Value.pointer a_4] h' fun (v : Value) (h' : Hp) => ∃ (a : Option Addr), ∃ (l : Nat), ∃ (c : Nat), v = Value.slice a l c ∧ Q (Value.slice a l c) h') ∧
 (b = false → ∃ (a : Option Addr), ∃ (l : Nat), ∃ (c : Nat), Q (Value.slice a l c) h') ∧
 ∀ (a_12 : Option Addr) (l_2 c_2 : Nat) (h' : Hp),
 Q (Value.slice a_12 l_2 c_2) h' →
 ∃ (Q : Value → Hp → Prop),
 (b = true → C 33 [Value.slice a_10 l c, Value.slice a_12 l_2 c_2] h' fun (v : Value) (h' : Hp) => ∃ (b : Bool), v = Value.bool b ∧ Q (Value.bool b) h') ∧
 (b = false → ∃ (b : Bool), Q (Value.bool b) h') ∧
 ∀ (b_1 : Bool) (h' : Hp),
 Q (Value.bool b_1) h' →
 ∃ (Q : Value → Hp → Prop),
 (sel b b_1 false = true →
 C 37 [Value.pointer a_1] h' fun (v : Value) (h' : Hp) =>
 ∃ (n : Int), ∃ (n_1 : Int), ∃ (n_2 : Int), v = Value.agg (Array.mk [Value.int IntKind.i64 n, Value.int IntKind.i64 n_1, Value.int IntKind.i64 n_2]) ∧ Q (Value.agg (Array.mk [Value.int IntKind.i64 n, Value.int IntKind.i64 n_1, Value.int IntKind.i64 n_2])) h') ∧
 (sel b b_1 false = false → ∃ (n : Int), ∃ (n_1 : Int), ∃ (n_2 : Int), Q (Value.agg (Array.mk [Value.int IntKind.i64 n, Value.int IntKind.i64 n_1, Value.int IntKind.i64 n_2])) h') ∧
 ∀ (n n_1 n_2 : Int) (h' : Hp),
 Q (Value.agg (Array.mk [Value.int IntKind.i64 n, Value.int IntKind.i64 n_1, Value.int IntKind.i64 n_2])) h' →
 ∃ (Q : Value → Hp → Prop),
 (sel b b_1 false = true →
 C 37 [Value.pointer a_4] h' fun (v : Value) (h' : Hp) =>
 ∃ (n : Int),
 ∃ (n_3 : Int), ∃ (n_4 : Int), v = Value.agg (Array.mk [Value.int IntKind.i64 n, Value.int IntKind.i64 n_3, Value.int IntKind.i64 n_4]) ∧ Q (Value.agg (Array.mk [Value.int IntKind.i64 n, Value.int IntKind.i64 n_3, Value.int IntKind.i64 n_4])) h') ∧
 (sel b b_1 false = false → ∃ (n : Int), ∃ (n_3 : Int), ∃ (n_4 : Int), Q (Value.agg (Array.mk [Value.int IntKind.i64 n, Value.int IntKind.i64 n_3, Value.int IntKind.i64 n_4])) h') ∧
 ∀ (n_3 n_4 n_5 : Int) (h' : Hp),
 Q (Value.agg (Array.mk [Value.int IntKind.i64 n_3, Value.int IntKind.i64 n_4, Value.int IntKind.i64 n_5])) h' →
 ∃ (Q : Value → Hp → Prop),
 (sel (sel b b_1 false) (andB (eqI n n_3) (andB (eqI n_1 n_4) (andB (eqI n_2 n_5) true))) false = true →
 C 30 [Value.pointer a_1] h' fun (v : Value) (h' : Hp) => ∃ (a : Option Addr), ∃ (l : Nat), ∃ (c : Nat), v = Value.slice a l c ∧ Q (Value.slice a l c) h') ∧
 (sel (sel b b_1 false) (andB (eqI n n_3) (andB (eqI n_1 n_4) (andB (eqI n_2 n_5) true))) false = false → ∃ (a : Option Addr), ∃ (l : Nat), ∃ (c : Nat), Q (Value.slice a l c) h') ∧
 ∀ (a_17 : Option Addr) (l c : Nat) (h' : Hp),
 Q (Value.slice a_17 l c) h' →
 ∃ (Q : Value → Hp → Prop),
 (sel (sel b b_1 false) (andB (eqI n n_3) (andB (eqI n_1 n_4) (andB (eqI n_2 n_5) true))) false = true →
 C 30 [Value.pointer a_4] h' fun (v : Value) (h' : Hp) => ∃ (a : Option Addr), ∃ (l : Nat), ∃ (c : Nat), v = Value.slice a l c ∧ Q (Value.slice a l c) h') ∧
 (sel (sel b b_1 false) (andB (eqI n n_3) (andB (eqI n_1 n_4) (andB (eqI n_2 n_5) true))) false = false → ∃ (a : Option Addr), ∃ (l : Nat), ∃ (c : Nat), Q (Value.slice a l c) h') ∧
 ∀ (a_19 : Option Addr) (l_3 c : Nat) (h' : Hp),
 Q (Value.slice a_19 l_3 c) h' →
 ∃ (Q : Value → Hp → Prop),
 (sel (sel (sel b b_1 false) (andB (eqI n n_3) (andB (eqI n_1 n_4) (andB (eqI n_2 n_5) true))) false) (eqI (natI l) (natI l_3)) false = true →
 C 38 [Value.pointer a_1] h' fun (v : Value) (h' : Hp) => ∃ (b : Bool), v = Value.bool b ∧ Q (Value.bool b) h') ∧
 (sel (sel (sel b b_1 false) (andB (eqI n n_3) (andB (eqI n_1 n_4) (andB (eqI n_2 n_5) true))) false) (eqI (natI l) (natI l_3)) false = false → ∃ (b : Bool), Q (Value.bool b) h') ∧
 ∀ (b_2 : Bool) (h' : Hp),
 Q (Value.bool b_2) h' →
 ∃ (Q : Value → Hp → Prop),
 (sel (sel (sel (sel b b_1 false) (andB (eqI n n_3) (andB (eqI n_1 n_4) (andB (eqI n_2 n_5) true))) false) (eqI (natI l) (natI l_3)) false) b_2 false = true →
 C 39 [Value.pointer a_1] h' fun (v : Value) (h' : Hp) => ∃ (n : Int), v = Value.int IntKind.i64 n ∧ Q (Value.int IntKind.i64 n) h') ∧
 (sel (sel (sel (sel b b_1 false) (andB (eqI n n_3) (andB (eqI n_1 n_4) (andB (eqI n_2 n_5) true))) false) (eqI (natI l) (natI l_3)) false) b_2 false = false → ∃ (n : Int), Q (Value.int IntKind.i64 n) h') ∧
 ∀ (n_6 : Int) (h' : Hp),
 Q (Value.int IntKind.i64 n_6) h' →
 ∃ (Q : Value → Hp → Prop),
 (sel (sel (sel (sel (sel b b_1 false) (andB (eqI n n_3) (andB (eqI n_1 n_4) (andB (eqI n_2 n_5) true))) false) (eqI (natI l) (natI l_3)) false) b_2 false) (eqI n_6 0) false = true →
 C 39 [Value.pointer a] h' fun (v : Value) (h' : Hp) => ∃ (n : Int), v = Value.int IntKind.i64 n ∧ Q (Value.int IntKind.i64 n) h') ∧
 (sel (sel (sel (sel (sel b b_1 false) (andB (eqI n n_3) (andB (eqI n_1 n_4) (andB (eqI n_2 n_5) true))) false) (eqI (natI l) (natI l_3)) false) b_2 false) (eqI n_6 0) false = false →
 ∃ (n : Int), Q (Value.int IntKind.i64 n) h') ∧
 ∀ (n_7 : Int) (h' : Hp),
 Q (Value.int IntKind.i64 n_7) h' →
 K
 (Value.bool
 (sel (sel (sel (sel (sel (sel b b_1 false) (andB (eqI n n_3) (andB (eqI n_1 n_4) (andB (eqI n_2 n_5) true))) false) (eqI (natI l) (natI l_3)) false) b_2 false) (eqI n_6 0) false) (eqI n_7 1)
 false))
 h') := by kernel_rfl

def shp11 : Nat → List (Tmp × TypeId) := fun i => []
theorem vc11 (C : FuncId → List Value → Hp → (Value → Hp → Prop) → Prop) (page most : Int) (a : Option Addr) (l c : Nat) (h : Hp) (K : Value → Hp → Prop) : vBody Try.prog C pf shp11 Try.f11 (Try.f11.body.getD .skip) [.int .i64 page, .int .i64 most, .slice a l c] h K = (
 C 40 [Value.int IntKind.i64 page, Value.int IntKind.i64 most, Value.slice a l c] h fun (v : Value) (h' : Hp) =>
 ∃ (a_1 : Option Addr),
 ∃ (n : Int),
 v = Value.tuple (Array.mk [Value.pointer a_1, Value.int IntKind.i64 n]) ∧
 C 41 [Value.int IntKind.i64 page, Value.int IntKind.i64 most, Value.slice a l c] h' fun (v : Value) (h' : Hp) =>
 ∃ (a_2 : Option Addr),
 ∃ (n_1 : Int),
 v = Value.tuple (Array.mk [Value.pointer a_2, Value.int IntKind.i64 n_1]) ∧
 C 40 [Value.int IntKind.i64 page, Value.int IntKind.i64 most, Value.slice none 0 0] h' fun (v : Value) (h' : Hp) =>
 ∃ (a_3 : Option Addr),
 ∃ (n_2 : Int),
 v = Value.tuple (Array.mk [Value.pointer a_3, Value.int IntKind.i64 n_2]) ∧
 C 26 [Value.int IntKind.i64 page, Value.int IntKind.i64 most] h' fun (v : Value) (h' : Hp) =>
 ∃ (a_4 : Option Addr),
 ∃ (n_3 : Int),
 v = Value.tuple (Array.mk [Value.pointer a_4, Value.int IntKind.i64 n_3]) ∧
 if sel (sel (sel (neI n_1 n) true (notB (eqB (isN a_2) (isN a_1)))) true (neI n_3 n_2)) true (notB (eqB (isN a_4) (neI n_2 0))) = true then K (Value.bool false) h'
 else
 ∃ (Q : Value → Hp → Prop),
 (notB (isN a_2) = true → C 42 [Value.pointer a_2, Value.pointer a_1] h' fun (v : Value) (h' : Hp) => ∃ (b : Bool), v = Value.bool b ∧ Q (Value.bool b) h') ∧
 (notB (isN a_2) = false → ∃ (b : Bool), Q (Value.bool b) h') ∧
 ∀ (b : Bool) (h' : Hp),
 Q (Value.bool b) h' →
 ∃ (Q : Value → Hp → Prop),
 (andB (notB (notB b)) (notB (isN a_2)) = true → C 34 [Value.pointer a_2] h' fun (v : Value) (h' : Hp) => ∃ (a : Option Addr), ∃ (l : Nat), ∃ (c : Nat), v = Value.slice a l c ∧ Q (Value.slice a l c) h') ∧
 (andB (notB (notB b)) (notB (isN a_2)) = false → ∃ (a : Option Addr), ∃ (l : Nat), ∃ (c : Nat), Q (Value.slice a l c) h') ∧
 ∀ (a_6 : Option Addr) (l_1 c_1 : Nat) (h' : Hp),
 Q (Value.slice a_6 l_1 c_1) h' →
 ∃ (Q : Value → Hp → Prop),
 (andB (notB (notB b)) (notB (isN a_2)) = true → C 43 [Value.slice a_6 l_1 c_1, Value.slice a l c] h' fun (v : Value) (h' : Hp) => ∃ (b : Bool), v = Value.bool b ∧ Q (Value.bool b) h') ∧
 (andB (notB (notB b)) (notB (isN a_2)) = false → ∃ (b : Bool), Q (Value.bool b) h') ∧ ∀ (b_1 : Bool) (h' : Hp), Q (Value.bool b_1) h' → if sel (notB (isN a_2)) (sel (notB b) true (notB b_1)) false = true then K (Value.bool false) h' else C 25 [] h' fun (v : Value) (h' : Hp) => ∃ (b : Bool), v = Value.bool b ∧ K (Value.bool b) h') := by kernel_rfl
end Go.Proofs.Ytfkhjbfddeahaaa.vc

/- The conditions of the symbolic runs of functions of the program (printed by a program of ours, vcgen.py; checked by the kernel). -/
set_option linter.unusedVariables false
set_option maxRecDepth 100000
namespace Go.Proofs.Ytfkhjbfddeahaaa.vc
open Go Go.Cn Go.Proofs

def shp75 : Nat → List (Tmp × TypeId) := fun i => []
theorem vc75 (C : FuncId → List Value → Hp → (Value → Hp → Prop) → Prop) (r : Nat) (no : Int) (h : Hp) (K : Value → Hp → Prop) : vBody Try.prog C pf shp75 Try.f75 (Try.f75.body.getD .skip) [.pointer (some ⟨r, 0, none⟩), .int .u32 no] h K = (
 (some (Addr.mk r 0 none)).isSome = true ∧
 plainA (some (Addr.mk r 0 none)) = true ∧
 ∃ (b : Bool),
 (plainA (some (Addr.mk r 5 none)) = true ∧ h.cellsAt r 5 1 = some [Value.bool b]) ∧
 if notB b = true then K (Value.tuple (Array.mk [Value.string (ByteArray.mk (Array.mk [])), Value.int IntKind.i64 7])) h
 else
 C 71 [Value.pointer (some (Addr.mk r 0 none))] h fun (v : Value) (h' : Hp) =>
 ∃ (n : Int),
 v = Value.int IntKind.i64 n ∧
 if geI (toW IntKind.u64 no) (toW IntKind.u64 n) = true then K (Value.tuple (Array.mk [Value.string (ByteArray.mk (Array.mk [])), Value.int IntKind.i64 41])) h'
 else C 100 [Value.pointer (some (Addr.mk r 0 none)), Value.int IntKind.i64 (toW IntKind.i64 no)] h' fun (v : Value) (h' : Hp) => ∃ (s : ByteArray), v = Value.string s ∧ K (Value.tuple (Array.mk [Value.string s, Value.int IntKind.i64 0])) h') := by kernel_rfl

def shp76 : Nat → List (Tmp × TypeId) := fun i => []
theorem vc76 (C : FuncId → List Value → Hp → (Value → Hp → Prop) → Prop) (r : Nat) (no : Int) (s : ByteArray) (h : Hp) (K : Value → Hp → Prop) : vBody Try.prog C pf shp76 Try.f76 (Try.f76.body.getD .skip) [.pointer (some ⟨r, 0, none⟩), .int .u32 no, .string s] h K = (
 (some (Addr.mk r 0 none)).isSome = true ∧
 plainA (some (Addr.mk r 0 none)) = true ∧
 ∃ (b : Bool),
 (plainA (some (Addr.mk r 5 none)) = true ∧ h.cellsAt r 5 1 = some [Value.bool b]) ∧
 if notB b = true then K (Value.int IntKind.i64 7) h
 else
 C 71 [Value.pointer (some (Addr.mk r 0 none))] h fun (v : Value) (h' : Hp) =>
 ∃ (n : Int),
 v = Value.int IntKind.i64 n ∧
 if geI (toW IntKind.u64 no) (toW IntKind.u64 n) = true then K (Value.int IntKind.i64 41) h'
 else
 (some (Addr.mk r 0 none)).isSome = true ∧
 plainA (some (Addr.mk r 0 none)) = true ∧
 ∃ (n : Int),
 (plainA (some (Addr.mk r 0 none)) = true ∧ h'.cellsAt r 0 1 = some [Value.int IntKind.i64 n]) ∧
 if neI (natI (lenS s)) n = true then K (Value.int IntKind.i64 2) h'
 else
 C 101 [Value.pointer (some (Addr.mk r 0 none)), Value.int IntKind.u8 1] h' fun (v : Value) (h' : Hp) =>
 ∃ (a : Option Addr),
 v = Value.pointer a ∧
 (notB (isN a) = true → a.isSome = true) ∧
 (notB (isN a) = true → plainA a = true) ∧
 ∃ (b : Bool),
 (notB (isN a) = true → plainA (some (Addr.mk (blk a) (plusN (off a) 2) none)) = true ∧ h'.cellsAt (blk a) (plusN (off a) 2) 1 = some [Value.bool b]) ∧
 if sel (notB (isN a)) (notB b) false = true then K (Value.int IntKind.i64 6) h'
 else
 (some (Addr.mk r 0 none)).isSome = true ∧
 plainA (some (Addr.mk r 0 none)) = true ∧
 ∃ (a_1 : Option Addr),
 ∃ (l : Nat),
 ∃ (c : Nat),
 (plainA (some (Addr.mk r 3 none)) = true ∧ h'.cellsAt r 3 1 = some [Value.slice a_1 l c]) ∧
 ∀ (h'_1 : Hp),
 h'_1 = h'.alloc [Value.bool false, Value.int IntKind.i64 (toW IntKind.i64 no), Value.string s] 144 →
 ∃ (a_3 : Option Addr),
 ∃ (m : Nat),
 ∃ (n : Nat),
 ∃ (h'_2 : Hp),
 cappend Try.prog 111 111 (Value.slice a_1 l c) (Value.slice (some (Addr.mk h'.next 0 none)) 1 1) h'_1 = some (Value.slice a_3 m n, h'_2) ∧
 (some (Addr.mk r 0 none)).isSome = true ∧
 plainA (some (Addr.mk r 0 none)) = true ∧
 plainA (some (Addr.mk r 3 none)) = true ∧
 ∃ (h' : Hp),
 h'_2.store r 3 [Value.slice a_3 m n] = some h' ∧
 if notB (isN a) = true then
 a.isSome = true ∧
 plainA a = true ∧
 ∃ (a_4 : Option Addr),
 ∃ (l : Nat),
 ∃ (c : Nat),
 (plainA (some (Addr.mk (blk a) (plusN (off a) 3) none)) = true ∧ h'.cellsAt (blk a) (plusN (off a) 3) 1 = some [Value.slice a_4 l c]) ∧ C 102 [Value.pointer (some (Addr.mk r 0 none)), Value.slice a_4 l c] h' fun (v : Value) (h' : Hp) => v = Value.tuple (Array.mk []) ∧ K (Value.int IntKind.i64 7) h'
 else
 (some (Addr.mk r 0 none)).isSome = true ∧
 plainA (some (Addr.mk r 0 none)) = true ∧
 plainA (some (Addr.mk r 8 none)) = true ∧
 ∃ (n : Int),
 (plainA (some (Addr.mk r 8 none)) = true ∧ h'.cellsAt r 8 1 = some [Value.int IntKind.i64 n]) ∧
 (some (Addr.mk r 0 none)).isSome = true ∧ plainA (some (Addr.mk r 0 none)) = true ∧ plainA (some (Addr.mk r 8 none)) = true ∧ plainA (some (Addr.mk r 8 none)) = true ∧ ∃ (h'_3 : Hp), h'.store r 8 [Value.int IntKind.i64 (addW IntKind.i64 n 1)] = some h'_3 ∧ K (Value.int IntKind.i64 0) h'_3) := by kernel_rfl

def shp77 : Nat → List (Tmp × TypeId) := fun i => []
theorem vc77 (C : FuncId → List Value → Hp → (Value → Hp → Prop) → Prop) (r : Nat) (n : Int) (h : Hp) (K : Value → Hp → Prop) : vBody Try.prog C pf shp77 Try.f77 (Try.f77.body.getD .skip) [.pointer (some ⟨r, 0, none⟩), .int .i64 n] h K = (
 (some (Addr.mk r 0 none)).isSome = true ∧
 plainA (some (Addr.mk r 0 none)) = true ∧
 ∃ (b : Bool),
 (plainA (some (Addr.mk r 5 none)) = true ∧ h.cellsAt r 5 1 = some [Value.bool b]) ∧
 if notB b = true then K (Value.int IntKind.i64 7) h
 else
 if ltI n 1 = true then K (Value.int IntKind.i64 2) h
 else
 (some (Addr.mk r 0 none)).isSome = true ∧
 plainA (some (Addr.mk r 0 none)) = true ∧
 ∃ (n_1 : Int),
 (plainA (some (Addr.mk r 1 none)) = true ∧ h.cellsAt r 1 1 = some [Value.int IntKind.i64 n_1]) ∧
 C 71 [Value.pointer (some (Addr.mk r 0 none))] h fun (v : Value) (h' : Hp) =>
 ∃ (n_2 : Int),
 v = Value.int IntKind.i64 n_2 ∧
 (plainA (some (Addr.mk r 1 none)) = true ∧ h'.cellsAt r 1 1 = some [Value.int IntKind.i64 n_1]) ∧
 if gtI n (subW IntKind.i64 n_1 n_2) = true then K (Value.int IntKind.i64 5) h'
 else
 C 101 [Value.pointer (some (Addr.mk r 0 none)), Value.int IntKind.u8 2] h' fun (v : Value) (h' : Hp) =>
 ∃ (a : Option Addr),
 v = Value.pointer a ∧
 (notB (isN a) = true → a.isSome = true) ∧
 (notB (isN a) = true → plainA a = true) ∧
 ∃ (b : Bool),
 (notB (isN a) = true → plainA (some (Addr.mk (blk a) (plusN (off a) 2) none)) = true ∧ h'.cellsAt (blk a) (plusN (off a) 2) 1 = some [Value.bool b]) ∧
 if sel (notB (isN a)) (notB b) false = true then K (Value.int IntKind.i64 5) h'
 else
 (some (Addr.mk r 0 none)).isSome = true ∧
 plainA (some (Addr.mk r 0 none)) = true ∧
 ∃ (a_1 : Option Addr),
 ∃ (l : Nat),
 ∃ (c : Nat),
 (plainA (some (Addr.mk r 3 none)) = true ∧ h'.cellsAt r 3 1 = some [Value.slice a_1 l c]) ∧
 C 71 [Value.pointer (some (Addr.mk r 0 none))] h' fun (v : Value) (h' : Hp) =>
 ∃ (n_3 : Int),
 v = Value.int IntKind.i64 n_3 ∧
 (plainA (some (Addr.mk r 3 none)) = true ∧ h'.cellsAt r 3 1 = some [Value.slice a_1 l c]) ∧
 ∀ (h'_1 : Hp),
 h'_1 = h'.alloc [Value.bool true, Value.int IntKind.i64 (addW IntKind.i64 n_3 n), Value.string (ByteArray.mk (Array.mk []))] 144 →
 (plainA (some (Addr.mk r 3 none)) = true ∧ h'_1.cellsAt r 3 1 = some [Value.slice a_1 l c]) ∧
 ∃ (a_3 : Option Addr),
 ∃ (m : Nat),
 ∃ (n : Nat),
 ∃ (h'_2 : Hp),
 cappend Try.prog 111 111 (Value.slice a_1 l c) (Value.slice (some (Addr.mk h'.next 0 none)) 1 1) h'_1 = some (Value.slice a_3 m n, h'_2) ∧
 (some (Addr.mk r 0 none)).isSome = true ∧
 plainA (some (Addr.mk r 0 none)) = true ∧
 plainA (some (Addr.mk r 3 none)) = true ∧
 ∃ (h' : Hp),
 h'_2.store r 3 [Value.slice a_3 m n] = some h' ∧
 if notB (isN a) = true then
 a.isSome = true ∧
 plainA a = true ∧
 ∃ (a_4 : Option Addr),
 ∃ (l : Nat),
 ∃ (c : Nat),
 (plainA (some (Addr.mk (blk a) (plusN (off a) 3) none)) = true ∧ h'.cellsAt (blk a) (plusN (off a) 3) 1 = some [Value.slice a_4 l c]) ∧
 C 102 [Value.pointer (some (Addr.mk r 0 none)), Value.slice a_4 l c] h' fun (v : Value) (h' : Hp) => v = Value.tuple (Array.mk []) ∧ K (Value.int IntKind.i64 7) h'
 else
 (some (Addr.mk r 0 none)).isSome = true ∧
 plainA (some (Addr.mk r 0 none)) = true ∧
 plainA (some (Addr.mk r 8 none)) = true ∧
 ∃ (n : Int),
 (plainA (some (Addr.mk r 9 none)) = true ∧ h'.cellsAt r 9 1 = some [Value.int IntKind.i64 n]) ∧
 (some (Addr.mk r 0 none)).isSome = true ∧ plainA (some (Addr.mk r 0 none)) = true ∧ plainA (some (Addr.mk r 8 none)) = true ∧ plainA (some (Addr.mk r 9 none)) = true ∧ ∃ (h'_3 : Hp), h'.store r 9 [Value.int IntKind.i64 (addW IntKind.i64 n 1)] = some h'_3 ∧ K (Value.int IntKind.i64 0) h'_3) := by kernel_rfl

def shp78 : Nat → List (Tmp × TypeId) := fun i => if i = 12 then [(4, 40), (6, 3)] else []
theorem vc78 (C : FuncId → List Value → Hp → (Value → Hp → Prop) → Prop) (r : Nat) (h : Hp) (K : Value → Hp → Prop) : vBody Try.prog C pf shp78 Try.f78 (Try.f78.body.getD .skip) [.pointer (some ⟨r, 0, none⟩)] h K = (
 (some (Addr.mk r 0 none)).isSome = true ∧
 plainA (some (Addr.mk r 0 none)) = true ∧
 ∃ (b : Bool),
 (plainA (some (Addr.mk r 5 none)) = true ∧ h.cellsAt r 5 1 = some [Value.bool b]) ∧
 if notB b = true then K (Value.int IntKind.i64 7) h
 else
 C 101 [Value.pointer (some (Addr.mk r 0 none)), Value.int IntKind.u8 3] h fun (v : Value) (h' : Hp) =>
 ∃ (a : Option Addr),
 v = Value.pointer a ∧
 (notB (isN a) = true → a.isSome = true) ∧
 (notB (isN a) = true → plainA a = true) ∧
 ∃ (b : Bool),
 (notB (isN a) = true → plainA (some (Addr.mk (blk a) (plusN (off a) 2) none)) = true ∧ h'.cellsAt (blk a) (plusN (off a) 2) 1 = some [Value.bool b]) ∧
 if sel (notB (isN a)) (notB b) false = true then K (Value.int IntKind.i64 6) h'
 else
 if notB (isN a) = true then
 a.isSome = true ∧
 plainA a = true ∧ ∃ (a_1 : Option Addr), ∃ (l : Nat), ∃ (c : Nat), (plainA (some (Addr.mk (blk a) (plusN (off a) 3) none)) = true ∧ h'.cellsAt (blk a) (plusN (off a) 3) 1 = some [Value.slice a_1 l c]) ∧ C 102 [Value.pointer (some (Addr.mk r 0 none)), Value.slice a_1 l c] h' fun (v : Value) (h' : Hp) => v = Value.tuple (Array.mk []) ∧ K (Value.int IntKind.i64 7) h'
 else
 C 71 [Value.pointer (some (Addr.mk r 0 none))] h' fun (v : Value) (h' : Hp) =>
 ∃ (n : Int),
 v = Value.int IntKind.i64 n ∧
 ∃ (I : List Value → Nat → Hp → Prop),
 (∃ (m : Nat), I [Value.slice none 0 0, Value.int IntKind.i64 0] m h') ∧
 ∀ (a : Option Addr) (l c : Nat) (n_1 : Int) (m : Nat) (h : Hp),
 I [Value.slice a l c, Value.int IntKind.i64 n_1] m h →
 if ltI n_1 n = true then
 C 100 [Value.pointer (some (Addr.mk r 0 none)), Value.int IntKind.i64 n_1] h fun (v : Value) (h' : Hp) =>
 ∃ (s : ByteArray),
 v = Value.string s ∧
 ∀ (h'_1 : Hp),
 h'_1 = h'.alloc [Value.string s] 9 → ∃ (a_3 : Option Addr), ∃ (m_1 : Nat), ∃ (n : Nat), ∃ (h'_2 : Hp), cappend Try.prog 40 40 (Value.slice a l c) (Value.slice (some (Addr.mk h'.next 0 none)) 1 1) h'_1 = some (Value.slice a_3 m_1 n, h'_2) ∧ ∃ (m' : Nat), lessN m' m ∧ I [Value.slice a_3 m_1 n, Value.int IntKind.i64 (addW IntKind.i64 n_1 1)] m' h'_2
 else
 (some (Addr.mk r 0 none)).isSome = true ∧
 plainA (some (Addr.mk r 0 none)) = true ∧
 plainA (some (Addr.mk r 2 none)) = true ∧
 ∃ (h' : Hp),
 h.store r 2 [Value.slice a l c] = some h' ∧
 (some (Addr.mk r 0 none)).isSome = true ∧
 plainA (some (Addr.mk r 0 none)) = true ∧
 plainA (some (Addr.mk r 3 none)) = true ∧
 ∃ (h'_1 : Hp),
 h'.store r 3 [Value.slice none 0 0] = some h'_1 ∧
 (some (Addr.mk r 0 none)).isSome = true ∧
 plainA (some (Addr.mk r 0 none)) = true ∧
 plainA (some (Addr.mk r 8 none)) = true ∧
 ∃ (n : Int),
 (plainA (some (Addr.mk r 10 none)) = true ∧ h'_1.cellsAt r 10 1 = some [Value.int IntKind.i64 n]) ∧
 (some (Addr.mk r 0 none)).isSome = true ∧ plainA (some (Addr.mk r 0 none)) = true ∧ plainA (some (Addr.mk r 8 none)) = true ∧ plainA (some (Addr.mk r 10 none)) = true ∧ ∃ (h' : Hp), h'_1.store r 10 [Value.int IntKind.i64 (addW IntKind.i64 n 1)] = some h' ∧ K (Value.int IntKind.i64 0) h') := by kernel_rfl

def shp80 : Nat → List (Tmp × TypeId) := fun i => if i = 4 then [(5, 3)] else if i = 11 then [(6, 3)] else []
theorem vc80 (C : FuncId → List Value → Hp → (Value → Hp → Prop) → Prop) (r : Nat) (a : Option Addr) (l c : Nat) (h : Hp) (K : Value → Hp → Prop) : vBody Try.prog C pf shp80 Try.f80 (Try.f80.body.getD .skip) [.pointer (some ⟨r, 0, none⟩), .slice a l c] h K = (
 (some (Addr.mk r 0 none)).isSome = true ∧
 plainA (some (Addr.mk r 0 none)) = true ∧
 ∃ (b : Bool),
 (plainA (some (Addr.mk r 5 none)) = true ∧ h.cellsAt r 5 1 = some [Value.bool b]) ∧
 if notB b = true then K (Value.int IntKind.i64 7) h
 else
 ∃ (I : List Value → Nat → Hp → Prop),
 (∃ (m : Nat), I [Value.int IntKind.i64 0] m h) ∧
 ∀ (n : Int) (m : Nat) (h : Hp),
 I [Value.int IntKind.i64 n] m h →
 if ltI n (natI l) = true then
 (a.isSome = true ∧ inR n l) ∧
 plainA (some (Addr.mk (blk a) (plusI (off a) n 4) none)) = true ∧
 ∃ (n_1 : Int),
 (plainA (some (Addr.mk (blk a) (plusI (off a) n 4) none)) = true ∧ h.cellsAt (blk a) (plusI (off a) n 4) 1 = some [Value.int IntKind.u8 n_1]) ∧
 (notB (gtI n_1 3) = true → a.isSome = true ∧ inR n l) ∧
 (notB (gtI n_1 3) = true → plainA (some (Addr.mk (blk a) (plusI (off a) n 4) none)) = true) ∧
 ∃ (n_2 : Int),
 (notB (gtI n_1 3) = true → plainA (some (Addr.mk (blk a) (plusN (plusI (off a) n 4) 1) none)) = true ∧ h.cellsAt (blk a) (plusN (plusI (off a) n 4) 1) 1 = some [Value.int IntKind.i64 n_2]) ∧ if sel (gtI n_1 3) true (ltI n_2 1) = true then K (Value.int IntKind.i64 2) h else ∃ (m' : Nat), lessN m' m ∧ I [Value.int IntKind.i64 (addW IntKind.i64 n 1)] m' h
 else
 (some (Addr.mk r 0 none)).isSome = true ∧
 plainA (some (Addr.mk r 0 none)) = true ∧
 ∃ (a_2 : Option Addr),
 ∃ (l_1 : Nat),
 ∃ (c : Nat),
 (plainA (some (Addr.mk r 4 none)) = true ∧ h.cellsAt r 4 1 = some [Value.slice a_2 l_1 c]) ∧
 if gtI (addW IntKind.i64 (natI l_1) (natI l)) 64 = true then K (Value.int IntKind.i64 4) h
 else
 ∃ (I : List Value → Nat → Hp → Prop),
 (∃ (m : Nat), I [Value.int IntKind.i64 0] m h) ∧
 ∀ (n : Int) (m : Nat) (h : Hp),
 I [Value.int IntKind.i64 n] m h →
 if ltI n (natI l) = true then
 (a.isSome = true ∧ inR n l) ∧
 ∃ (n_1 : Int),
 ∃ (n_2 : Int),
 ∃ (b : Bool),
 ∃ (a_4 : Option Addr),
 ∃ (l : Nat),
 ∃ (c : Nat),
 (plainA (some (Addr.mk (blk a) (plusI (off a) n 4) none)) = true ∧ h.cellsAt (blk a) (plusI (off a) n 4) 4 = some [Value.int IntKind.u8 n_1, Value.int IntKind.i64 n_2, Value.bool b, Value.slice a_4 l c]) ∧
 ∀ (h' : Hp),
 h' = h.alloc [Value.int IntKind.u8 (Int.ofNat 0), Value.int IntKind.i64 (Int.ofNat 0), Value.bool false, Value.slice none 0 0] 77 →
 plainA (some (Addr.mk h.next 0 none)) = true ∧
 ∃ (h'_1 : Hp),
 h'.store h.next 0 [Value.int IntKind.u8 n_1, Value.int IntKind.i64 n_2, Value.bool b, Value.slice a_4 l c] = some h'_1 ∧
 plainA (some (Addr.mk h.next 0 none)) = true ∧
 ∃ (a : Option Addr),
 ∃ (l : Nat),
 ∃ (c : Nat),
 (plainA (some (Addr.mk h.next 3 none)) = true ∧ h'_1.cellsAt h.next 3 1 = some [Value.slice a l c]) ∧
 ∃ (a_5 : Option Addr),
 ∃ (m_1 : Nat),
 ∃ (n_3 : Nat),
 ∃ (h' : Hp),
 cappend Try.prog 36 36 (Value.slice none 0 0) (Value.slice a l c) h'_1 = some (Value.slice a_5 m_1 n_3, h') ∧
 plainA (some (Addr.mk h.next 0 none)) = true ∧
 plainA (some (Addr.mk h.next 3 none)) = true ∧
 ∃ (h'_2 : Hp),
 h'.store h.next 3 [Value.slice a_5 m_1 n_3] = some h'_2 ∧
 (some (Addr.mk r 0 none)).isSome = true ∧
 plainA (some (Addr.mk r 0 none)) = true ∧
 ∃ (a : Option Addr),
 ∃ (l : Nat),
 ∃ (c : Nat),
 (plainA (some (Addr.mk r 4 none)) = true ∧ h'_2.cellsAt r 4 1 = some [Value.slice a l c]) ∧
 ∃ (n_4 : Int),
 ∃ (n_5 : Int),
 ∃ (b : Bool),
 ∃ (a_6 : Option Addr),
 ∃ (l_2 : Nat),
 ∃ (c_1 : Nat),
 (plainA (some (Addr.mk h.next 0 none)) = true ∧ h'_2.cellsAt h.next 0 4 = some [Value.int IntKind.u8 n_4, Value.int IntKind.i64 n_5, Value.bool b, Value.slice a_6 l_2 c_1]) ∧
 ∀ (h' : Hp),
 h' = h'_2.alloc [Value.int IntKind.u8 n_4, Value.int IntKind.i64 n_5, Value.bool b, Value.slice a_6 l_2 c_1, Value.int IntKind.i64 (Int.ofNat 0)] 153 →
 (plainA (some (Addr.mk r 4 none)) = true ∧ h'.cellsAt r 4 1 = some [Value.slice a l c]) ∧
 ∃ (a_8 : Option Addr),
 ∃ (m_2 : Nat),
 ∃ (n_6 : Nat),
 ∃ (h'_3 : Hp),
 cappend Try.prog 112 112 (Value.slice a l c) (Value.slice (some (Addr.mk h'_2.next 0 none)) 1 1) h' = some (Value.slice a_8 m_2 n_6, h'_3) ∧
 (some (Addr.mk r 0 none)).isSome = true ∧
 plainA (some (Addr.mk r 0 none)) = true ∧ plainA (some (Addr.mk r 4 none)) = true ∧ ∃ (h' : Hp), h'_3.store r 4 [Value.slice a_8 m_2 n_6] = some h' ∧ ∃ (m' : Nat), lessN m' m ∧ I [Value.int IntKind.i64 (addW IntKind.i64 n 1)] m' h'
 else K (Value.int IntKind.i64 0) h) := by kernel_rfl

def shp82 : Nat → List (Tmp × TypeId) := fun i => []
theorem vc82 (C : FuncId → List Value → Hp → (Value → Hp → Prop) → Prop) (r : Nat) (a : Option Addr) (l c : Nat) (h : Hp) (K : Value → Hp → Prop) : vBody Try.prog C pf shp82 Try.f82 (Try.f82.body.getD .skip) [.pointer (some ⟨r, 0, none⟩), .slice a l c] h K = (
 (some (Addr.mk r 0 none)).isSome = true ∧ plainA (some (Addr.mk r 0 none)) = true ∧ ∃ (b : Bool), (plainA (some (Addr.mk r 5 none)) = true ∧ h.cellsAt r 5 1 = some [Value.bool b]) ∧ if notB b = true then K (Value.int IntKind.i64 7) h else C 102 [Value.pointer (some (Addr.mk r 0 none)), Value.slice a l c] h fun (v : Value) (h' : Hp) => v = Value.tuple (Array.mk []) ∧ K (Value.int IntKind.i64 0) h') := by kernel_rfl

def shp84 : Nat → List (Tmp × TypeId) := fun i => []
theorem vc84 (C : FuncId → List Value → Hp → (Value → Hp → Prop) → Prop) (r : Nat) (h : Hp) (K : Value → Hp → Prop) : vBody Try.prog C pf shp84 Try.f84 (Try.f84.body.getD .skip) [.pointer (some ⟨r, 0, none⟩)] h K = (
 (some (Addr.mk r 0 none)).isSome = true ∧
 plainA (some (Addr.mk r 0 none)) = true ∧
 ∃ (b : Bool),
 (plainA (some (Addr.mk r 5 none)) = true ∧ h.cellsAt r 5 1 = some [Value.bool b]) ∧
 if b = true then K (Value.int IntKind.i64 40) h
 else
 (some (Addr.mk r 0 none)).isSome = true ∧
 plainA (some (Addr.mk r 0 none)) = true ∧
 plainA (some (Addr.mk r 5 none)) = true ∧
 ∃ (h' : Hp),
 h.store r 5 [Value.bool true] = some h' ∧
 (some (Addr.mk r 0 none)).isSome = true ∧
 plainA (some (Addr.mk r 0 none)) = true ∧
 ∃ (n : Int), (plainA (some (Addr.mk r 6 none)) = true ∧ h'.cellsAt r 6 1 = some [Value.int IntKind.i64 n]) ∧ (some (Addr.mk r 0 none)).isSome = true ∧ plainA (some (Addr.mk r 0 none)) = true ∧ plainA (some (Addr.mk r 6 none)) = true ∧ ∃ (h'_1 : Hp), h'.store r 6 [Value.int IntKind.i64 (addW IntKind.i64 n 1)] = some h'_1 ∧ K (Value.int IntKind.i64 0) h'_1) := by kernel_rfl

def shp86 : Nat → List (Tmp × TypeId) := fun i => []
theorem vc86 (C : FuncId → List Value → Hp → (Value → Hp → Prop) → Prop) (r : Nat) (h : Hp) (K : Value → Hp → Prop) : vBody Try.prog C pf shp86 Try.f86 (Try.f86.body.getD .skip) [.pointer (some ⟨r, 0, none⟩)] h K = (
 (some (Addr.mk r 0 none)).isSome = true ∧
 plainA (some (Addr.mk r 0 none)) = true ∧
 ∃ (b : Bool),
 (plainA (some (Addr.mk r 5 none)) = true ∧ h.cellsAt r 5 1 = some [Value.bool b]) ∧
 if notB b = true then K (Value.tuple (Array.mk [Value.int IntKind.i64 0, Value.int IntKind.i64 7])) h
 else
 (some (Addr.mk r 0 none)).isSome = true ∧
 plainA (some (Addr.mk r 0 none)) = true ∧
 ∃ (n : Int),
 (plainA (some (Addr.mk r 7 none)) = true ∧ h.cellsAt r 7 1 = some [Value.int IntKind.i64 n]) ∧
 (some (Addr.mk r 0 none)).isSome = true ∧
 plainA (some (Addr.mk r 0 none)) = true ∧
 plainA (some (Addr.mk r 7 none)) = true ∧
 ∃ (h' : Hp), h.store r 7 [Value.int IntKind.i64 (addW IntKind.i64 n 1)] = some h' ∧ (some (Addr.mk r 0 none)).isSome = true ∧ plainA (some (Addr.mk r 0 none)) = true ∧ ∃ (n : Int), (plainA (some (Addr.mk r 7 none)) = true ∧ h'.cellsAt r 7 1 = some [Value.int IntKind.i64 n]) ∧ K (Value.tuple (Array.mk [Value.int IntKind.i64 n, Value.int IntKind.i64 0])) h') := by kernel_rfl

def shp88 : Nat → List (Tmp × TypeId) := fun i => []
theorem vc88 (C : FuncId → List Value → Hp → (Value → Hp → Prop) → Prop) (r : Nat) (h : Hp) (K : Value → Hp → Prop) : vBody Try.prog C pf shp88 Try.f88 (Try.f88.body.getD .skip) [.pointer (some ⟨r, 0, none⟩)] h K = (
 (some (Addr.mk r 0 none)).isSome = true ∧
 ∃ (n : Int),
 ∃ (n_1 : Int),
 ∃ (a : Option Addr),
 ∃ (l : Nat),
 ∃ (c : Nat),
 ∃ (a_1 : Option Addr),
 ∃ (l_1 : Nat),
 ∃ (c_1 : Nat),
 ∃ (a_2 : Option Addr),
 ∃ (l_2 : Nat),
 ∃ (c_2 : Nat),
 ∃ (b : Bool),
 ∃ (n_2 : Int),
 ∃ (n_3 : Int),
 ∃ (n_4 : Int),
 ∃ (n_5 : Int),
 ∃ (n_6 : Int),
 (plainA (some (Addr.mk r 0 none)) = true ∧ h.cellsAt r 0 11 = some [Value.int IntKind.i64 n, Value.int IntKind.i64 n_1, Value.slice a l c, Value.slice a_1 l_1 c_1, Value.slice a_2 l_2 c_2, Value.bool b, Value.int IntKind.i64 n_2, Value.int IntKind.i64 n_3, Value.int IntKind.i64 n_4, Value.int IntKind.i64 n_5, Value.int IntKind.i64 n_6]) ∧
 ∀ (h' : Hp),
 h' =
 h.alloc [Value.int IntKind.i64 (Int.ofNat 0), Value.int IntKind.i64 (Int.ofNat 0), Value.slice none 0 0, Value.slice none 0 0, Value.slice none 0 0, Value.bool false, Value.int IntKind.i64 (Int.ofNat 0), Value.int IntKind.i64 (Int.ofNat 0), Value.int IntKind.i64 (Int.ofNat 0), Value.int IntKind.i64 (Int.ofNat 0), Value.int IntKind.i64 (Int.ofNat 0)]
 114 →
 plainA (some (Addr.mk h.next 0 none)) = true ∧
 ∃ (h'_1 : Hp),
 h'.store h.next 0 [Value.int IntKind.i64 n, Value.int IntKind.i64 n_1, Value.slice a l c, Value.slice a_1 l_1 c_1, Value.slice a_2 l_2 c_2, Value.bool b, Value.int IntKind.i64 n_2, Value.int IntKind.i64 n_3, Value.int IntKind.i64 n_4, Value.int IntKind.i64 n_5, Value.int IntKind.i64 n_6] = some h'_1 ∧
 (some (Addr.mk r 0 none)).isSome = true ∧
 plainA (some (Addr.mk r 0 none)) = true ∧
 ∃ (a : Option Addr),
 ∃ (l : Nat),
 ∃ (c : Nat),
 (plainA (some (Addr.mk r 2 none)) = true ∧ h'_1.cellsAt r 2 1 = some [Value.slice a l c]) ∧
 ∃ (a_4 : Option Addr),
 ∃ (m : Nat),
 ∃ (n : Nat),
 ∃ (h' : Hp),
 cappend Try.prog 40 40 (Value.slice none 0 0) (Value.slice a l c) h'_1 = some (Value.slice a_4 m n, h') ∧
 plainA (some (Addr.mk h.next 0 none)) = true ∧
 plainA (some (Addr.mk h.next 2 none)) = true ∧
 ∃ (h'_2 : Hp),
 h'.store h.next 2 [Value.slice a_4 m n] = some h'_2 ∧
 (some (Addr.mk r 0 none)).isSome = true ∧
 plainA (some (Addr.mk r 0 none)) = true ∧
 ∃ (a : Option Addr),
 ∃ (l : Nat),
 ∃ (c : Nat),
 (plainA (some (Addr.mk r 3 none)) = true ∧ h'_2.cellsAt r 3 1 = some [Value.slice a l c]) ∧
 ∃ (a_5 : Option Addr),
 ∃ (m : Nat),
 ∃ (n : Nat),
 ∃ (h' : Hp),
 cappend Try.prog 111 111 (Value.slice none 0 0) (Value.slice a l c) h'_2 = some (Value.slice a_5 m n, h') ∧
 plainA (some (Addr.mk h.next 0 none)) = true ∧
 plainA (some (Addr.mk h.next 3 none)) = true ∧
 ∃ (h'_3 : Hp),
 h'.store h.next 3 [Value.slice a_5 m n] = some h'_3 ∧
 (some (Addr.mk r 0 none)).isSome = true ∧
 plainA (some (Addr.mk r 0 none)) = true ∧
 ∃ (a : Option Addr),
 ∃ (l : Nat),
 ∃ (c : Nat),
 (plainA (some (Addr.mk r 4 none)) = true ∧ h'_3.cellsAt r 4 1 = some [Value.slice a l c]) ∧
 ∃ (a_6 : Option Addr),
 ∃ (m : Nat),
 ∃ (n : Nat),
 ∃ (h' : Hp),
 cappend Try.prog 112 112 (Value.slice none 0 0) (Value.slice a l c) h'_3 = some (Value.slice a_6 m n, h') ∧
 plainA (some (Addr.mk h.next 0 none)) = true ∧ plainA (some (Addr.mk h.next 4 none)) = true ∧ ∃ (h'_4 : Hp), h'.store h.next 4 [Value.slice a_6 m n] = some h'_4 ∧ K (Value.pointer (some (Addr.mk h.next 0 none))) h'_4) := by kernel_rfl

def shp100 : Nat → List (Tmp × TypeId) := fun i => if i = 2 then [(5, 3)] else []
theorem vc100 (C : FuncId → List Value → Hp → (Value → Hp → Prop) → Prop) (r : Nat) (no : Int) (h : Hp) (K : Value → Hp → Prop) : vBody Try.prog C pf shp100 Try.f100 (Try.f100.body.getD .skip) [.pointer (some ⟨r, 0, none⟩), .int .i64 no] h K = (
 (some (Addr.mk r 0 none)).isSome = true ∧
 plainA (some (Addr.mk r 0 none)) = true ∧
 ∃ (a : Option Addr),
 ∃ (l : Nat),
 ∃ (c : Nat),
 (plainA (some (Addr.mk r 3 none)) = true ∧ h.cellsAt r 3 1 = some [Value.slice a l c]) ∧
 ∃ (I : List Value → Nat → Hp → Prop),
 (∃ (m : Nat), I [Value.int IntKind.i64 (subW IntKind.i64 (natI l) 1)] m h) ∧
 ∀ (n : Int) (m : Nat) (h : Hp),
 I [Value.int IntKind.i64 n] m h →
 if geI n 0 = true then
 (some (Addr.mk r 0 none)).isSome = true ∧
 plainA (some (Addr.mk r 0 none)) = true ∧
 ∃ (a : Option Addr),
 ∃ (l : Nat),
 ∃ (c : Nat),
 (plainA (some (Addr.mk r 3 none)) = true ∧ h.cellsAt r 3 1 = some [Value.slice a l c]) ∧
 (a.isSome = true ∧ inR n l) ∧
 plainA (some (Addr.mk (blk a) (plusI (off a) n 3) none)) = true ∧
 ∃ (b : Bool),
 (plainA (some (Addr.mk (blk a) (plusI (off a) n 3) none)) = true ∧ h.cellsAt (blk a) (plusI (off a) n 3) 1 = some [Value.bool b]) ∧
 (notB b = true → (some (Addr.mk r 0 none)).isSome = true) ∧
 (notB b = true → plainA (some (Addr.mk r 0 none)) = true) ∧
 ∃ (a : Option Addr),
 ∃ (l : Nat),
 ∃ (c : Nat),
 (notB b = true → plainA (some (Addr.mk r 3 none)) = true ∧ h.cellsAt r 3 1 = some [Value.slice a l c]) ∧
 (notB b = true → a.isSome = true ∧ inR n l) ∧
 (notB b = true → plainA (some (Addr.mk (blk a) (plusI (off a) n 3) none)) = true) ∧
 ∃ (n_1 : Int),
 (notB b = true → plainA (some (Addr.mk (blk a) (plusN (plusI (off a) n 3) 1) none)) = true ∧ h.cellsAt (blk a) (plusN (plusI (off a) n 3) 1) 1 = some [Value.int IntKind.i64 n_1]) ∧
 if sel (notB b) (eqI n_1 no) false = true then
 (some (Addr.mk r 0 none)).isSome = true ∧
 plainA (some (Addr.mk r 0 none)) = true ∧
 ∃ (a : Option Addr),
 ∃ (l : Nat),
 ∃ (c : Nat),
 (plainA (some (Addr.mk r 3 none)) = true ∧ h.cellsAt r 3 1 = some [Value.slice a l c]) ∧
 (a.isSome = true ∧ inR n l) ∧ plainA (some (Addr.mk (blk a) (plusI (off a) n 3) none)) = true ∧ ∃ (s : ByteArray), (plainA (some (Addr.mk (blk a) (plusN (plusI (off a) n 3) 2) none)) = true ∧ h.cellsAt (blk a) (plusN (plusI (off a) n 3) 2) 1 = some [Value.string s]) ∧ K (Value.string s) h
 else ∃ (m' : Nat), lessN m' m ∧ I [Value.int IntKind.i64 (subW IntKind.i64 n 1)] m' h
 else
 (some (Addr.mk r 0 none)).isSome = true ∧
 plainA (some (Addr.mk r 0 none)) = true ∧
 ∃ (a : Option Addr),
 ∃ (l : Nat),
 ∃ (c : Nat),
 (plainA (some (Addr.mk r 2 none)) = true ∧ h.cellsAt r 2 1 = some [Value.slice a l c]) ∧
 if ltI no (natI l) = true then
 (some (Addr.mk r 0 none)).isSome = true ∧
 plainA (some (Addr.mk r 0 none)) = true ∧
 ∃ (a : Option Addr), ∃ (l : Nat), ∃ (c : Nat), (plainA (some (Addr.mk r 2 none)) = true ∧ h.cellsAt r 2 1 = some [Value.slice a l c]) ∧ (a.isSome = true ∧ inR no l) ∧ ∃ (s : ByteArray), (plainA (some (Addr.mk (blk a) (plusI (off a) no 1) none)) = true ∧ h.cellsAt (blk a) (plusI (off a) no 1) 1 = some [Value.string s]) ∧ K (Value.string s) h
 else (some (Addr.mk r 0 none)).isSome = true ∧ plainA (some (Addr.mk r 0 none)) = true ∧ ∃ (n : Int), (plainA (some (Addr.mk r 0 none)) = true ∧ h.cellsAt r 0 1 = some [Value.int IntKind.i64 n]) ∧ C 104 [Value.int IntKind.i64 n] h fun (v : Value) (h' : Hp) => ∃ (s : ByteArray), v = Value.string s ∧ K (Value.string s) h') := by kernel_rfl

def shp101 : Nat → List (Tmp × TypeId) := fun i => if i = 4 then [(5, 150), (6, 112), (7, 3)] else if i = 1000009 then [(7, 3)] else if i = 1000005 then [(5, 150), (6, 112)] else []
theorem vc101 (C : FuncId → List Value → Hp → (Value → Hp → Prop) → Prop) (r : Nat) (kind : Int) (h : Hp) (K : Value → Hp → Prop) : vBody Try.prog C pf shp101 Try.f101 (Try.f101.body.getD .skip) [.pointer (some ⟨r, 0, none⟩), .int .u8 kind] h K = (
 ∃ (I : List Value → Nat → Hp → Prop),
 (∃ (m : Nat), I [Value.pointer none, Value.slice none 0 0, Value.int IntKind.i64 0] m h) ∧
 ∀ (a a_1 : Option Addr) (l c : Nat) (n : Int) (m : Nat) (h : Hp),
 I [Value.pointer a, Value.slice a_1 l c, Value.int IntKind.i64 n] m h →
 (some (Addr.mk r 0 none)).isSome = true ∧
 plainA (some (Addr.mk r 0 none)) = true ∧
 ∃ (a_3 : Option Addr),
 ∃ (l_1 : Nat),
 ∃ (c_1 : Nat),
 (plainA (some (Addr.mk r 4 none)) = true ∧ h.cellsAt r 4 1 = some [Value.slice a_3 l_1 c_1]) ∧
 if ltI n (natI l_1) = true then
 ∃ (J : List Value → Hp → Prop),
 ((some (Addr.mk r 0 none)).isSome = true ∧
 plainA (some (Addr.mk r 0 none)) = true ∧
 ∃ (a_4 : Option Addr),
 ∃ (l_2 : Nat),
 ∃ (c_2 : Nat),
 (plainA (some (Addr.mk r 4 none)) = true ∧ h.cellsAt r 4 1 = some [Value.slice a_4 l_2 c_2]) ∧
 (a_4.isSome = true ∧ inR n l_2) ∧
 ∃ (n_1 : Int),
 ∃ (n_2 : Int),
 ∃ (b : Bool),
 ∃ (a_5 : Option Addr),
 ∃ (l_3 : Nat),
 ∃ (c_3 : Nat),
 ∃ (n_3 : Int),
 (plainA (some (Addr.mk (blk a_4) (plusI (off a_4) n 5) none)) = true ∧ h.cellsAt (blk a_4) (plusI (off a_4) n 5) 5 = some [Value.int IntKind.u8 n_1, Value.int IntKind.i64 n_2, Value.bool b, Value.slice a_5 l_3 c_3, Value.int IntKind.i64 n_3]) ∧
 ∀ (h' : Hp),
 h' = h.alloc [Value.int IntKind.u8 (Int.ofNat 0), Value.int IntKind.i64 (Int.ofNat 0), Value.bool false, Value.slice none 0 0, Value.int IntKind.i64 (Int.ofNat 0)] 153 →
 plainA (some (Addr.mk h.next 0 none)) = true ∧
 ∃ (h'_1 : Hp),
 h'.store h.next 0 [Value.int IntKind.u8 n_1, Value.int IntKind.i64 n_2, Value.bool b, Value.slice a_5 l_3 c_3, Value.int IntKind.i64 n_3] = some h'_1 ∧
 ∃ (J_1 : List Value → Hp → Prop),
 (∃ (n_4 : Int),
 ∃ (n_5 : Int),
 ∃ (b : Bool),
 ∃ (a : Option Addr),
 ∃ (l : Nat),
 ∃ (c : Nat),
 ∃ (n_6 : Int),
 (plainA (some (Addr.mk h.next 0 none)) = true ∧ h'_1.cellsAt h.next 0 5 = some [Value.int IntKind.u8 n_4, Value.int IntKind.i64 n_5, Value.bool b, Value.slice a l c, Value.int IntKind.i64 n_6]) ∧
 C 105 [Value.agg (Array.mk [Value.int IntKind.u8 n_4, Value.int IntKind.i64 n_5, Value.bool b, Value.slice a l c, Value.int IntKind.i64 n_6]), Value.int IntKind.u8 kind] h'_1 fun (v : Value) (h' : Hp) =>
 ∃ (b : Bool),
 v = Value.bool b ∧
 if b = true then
 plainA (some (Addr.mk h.next 0 none)) = true ∧
 ∃ (n_7 : Int),
 (plainA (some (Addr.mk h.next 4 none)) = true ∧ h'.cellsAt h.next 4 1 = some [Value.int IntKind.i64 n_7]) ∧
 plainA (some (Addr.mk h.next 0 none)) = true ∧ plainA (some (Addr.mk h.next 4 none)) = true ∧ ∃ (h'_2 : Hp), h'.store h.next 4 [Value.int IntKind.i64 (addW IntKind.i64 n_7 1)] = some h'_2 ∧ J_1 [Value.int IntKind.i64 n] h'_2
 else J_1 [Value.int IntKind.i64 n] h') ∧
 ∀ (n : Int) (h_1 : Hp),
 J_1 [Value.int IntKind.i64 n] h_1 →
 ∃ (n : Int),
 ∃ (n_4 : Int),
 ∃ (b : Bool),
 ∃ (a_8 : Option Addr),
 ∃ (l_4 : Nat),
 ∃ (c_4 : Nat),
 ∃ (n_5 : Int),
 (plainA (some (Addr.mk h.next 0 none)) = true ∧ h_1.cellsAt h.next 0 5 = some [Value.int IntKind.u8 n, Value.int IntKind.i64 n_4, Value.bool b, Value.slice a_8 l_4 c_4, Value.int IntKind.i64 n_5]) ∧
 C 105 [Value.agg (Array.mk [Value.int IntKind.u8 n, Value.int IntKind.i64 n_4, Value.bool b, Value.slice a_8 l_4 c_4, Value.int IntKind.i64 n_5]), Value.int IntKind.u8 kind] h_1 fun (v : Value) (h' : Hp) =>
 ∃ (b : Bool),
 v = Value.bool b ∧
 (b = true → plainA (some (Addr.mk h.next 0 none)) = true) ∧
 ∃ (n : Int),
 (b = true → plainA (some (Addr.mk h.next 4 none)) = true ∧ h'.cellsAt h.next 4 1 = some [Value.int IntKind.i64 n]) ∧
 (b = true → plainA (some (Addr.mk h.next 0 none)) = true) ∧
 (b = true → plainA (some (Addr.mk h.next 0 none)) = true) ∧
 ∃ (n_6 : Int),
 (b = true → plainA (some (Addr.mk h.next 1 none)) = true ∧ h'.cellsAt h.next 1 1 = some [Value.int IntKind.i64 n_6]) ∧
 if sel b (eqI n n_6) false = true then if isN a = true then plainA (some (Addr.mk h.next 0 none)) = true ∧ J [Value.pointer (some (Addr.mk h.next 0 none)), Value.slice a_1 l c] h' else J [Value.pointer a, Value.slice a_1 l c] h'
 else
 ∃ (n : Int),
 ∃ (n_7 : Int),
 ∃ (b : Bool),
 ∃ (a_9 : Option Addr),
 ∃ (l_5 : Nat),
 ∃ (c_5 : Nat),
 ∃ (n_8 : Int),
 (plainA (some (Addr.mk h.next 0 none)) = true ∧ h'.cellsAt h.next 0 5 = some [Value.int IntKind.u8 n, Value.int IntKind.i64 n_7, Value.bool b, Value.slice a_9 l_5 c_5, Value.int IntKind.i64 n_8]) ∧
 ∀ (h'_2 : Hp),
 h'_2 = h'.alloc [Value.int IntKind.u8 n, Value.int IntKind.i64 n_7, Value.bool b, Value.slice a_9 l_5 c_5, Value.int IntKind.i64 n_8] 153 →
 ∃ (a_11 : Option Addr), ∃ (m : Nat), ∃ (n : Nat), ∃ (h'_3 : Hp), cappend Try.prog 112 112 (Value.slice a_1 l c) (Value.slice (some (Addr.mk h'.next 0 none)) 1 1) h'_2 = some (Value.slice a_11 m n, h'_3) ∧ J [Value.pointer a, Value.slice a_11 m n] h'_3) ∧
 ∀ (a a_4 : Option Addr) (l c : Nat) (h : Hp), J [Value.pointer a, Value.slice a_4 l c] h → ∃ (m' : Nat), lessN m' m ∧ I [Value.pointer a, Value.slice a_4 l c, Value.int IntKind.i64 (addW IntKind.i64 n 1)] m' h
 else (some (Addr.mk r 0 none)).isSome = true ∧ plainA (some (Addr.mk r 0 none)) = true ∧ plainA (some (Addr.mk r 4 none)) = true ∧ ∃ (h' : Hp), h.store r 4 [Value.slice a_1 l c] = some h' ∧ K (Value.pointer a) h') := by kernel_rfl

def shp102 : Nat → List (Tmp × TypeId) := fun i => if i = 1 then [(4, 3)] else if i = 1000002 then [(4, 3)] else []
theorem vc102 (C : FuncId → List Value → Hp → (Value → Hp → Prop) → Prop) (r : Nat) (a : Option Addr) (l c : Nat) (h : Hp) (K : Value → Hp → Prop) : vBody Try.prog C pf shp102 Try.f102 (Try.f102.body.getD .skip) [.pointer (some ⟨r, 0, none⟩), .slice a l c] h K = (
 ∃ (I : List Value → Nat → Hp → Prop),
 (∃ (m : Nat), I [Value.int IntKind.i64 0] m h) ∧
 ∀ (n : Int) (m : Nat) (h : Hp),
 I [Value.int IntKind.i64 n] m h →
 (some (Addr.mk r 0 none)).isSome = true ∧
 plainA (some (Addr.mk r 0 none)) = true ∧
 ∃ (a_2 : Option Addr),
 ∃ (l_1 : Nat),
 ∃ (c : Nat),
 (plainA (some (Addr.mk r 3 none)) = true ∧ h.cellsAt r 3 1 = some [Value.slice a_2 l_1 c]) ∧
 if sel (ltI n (natI l_1)) (ltI n (natI l)) false = true then
 ∃ (J : List Value → Hp → Prop),
 ((some (Addr.mk r 0 none)).isSome = true ∧
 plainA (some (Addr.mk r 0 none)) = true ∧
 ∃ (a_3 : Option Addr),
 ∃ (l_2 : Nat),
 ∃ (c : Nat),
 (plainA (some (Addr.mk r 3 none)) = true ∧ h.cellsAt r 3 1 = some [Value.slice a_3 l_2 c]) ∧
 (a_3.isSome = true ∧ inR n l_2) ∧
 ∃ (b : Bool),
 ∃ (n_1 : Int),
 ∃ (s : ByteArray),
 (plainA (some (Addr.mk (blk a_3) (plusI (off a_3) n 3) none)) = true ∧ h.cellsAt (blk a_3) (plusI (off a_3) n 3) 3 = some [Value.bool b, Value.int IntKind.i64 n_1, Value.string s]) ∧
 ∀ (h' : Hp),
 h' = h.alloc [Value.bool false, Value.int IntKind.i64 (Int.ofNat 0), Value.string (ByteArray.mk (Array.mk []))] 144 →
 plainA (some (Addr.mk h.next 0 none)) = true ∧
 ∃ (h'_1 : Hp),
 h'.store h.next 0 [Value.bool b, Value.int IntKind.i64 n_1, Value.string s] = some h'_1 ∧
 (a.isSome = true ∧ inR n l) ∧
 ∃ (n_2 : Int),
 (plainA (some (Addr.mk (blk a) (plusI (off a) n 1) none)) = true ∧ h'_1.cellsAt (blk a) (plusI (off a) n 1) 1 = some [Value.int IntKind.u8 n_2]) ∧
 if eqI n_2 0 = true then J [Value.int IntKind.i64 n] h'_1
 else
 plainA (some (Addr.mk h.next 0 none)) = true ∧
 ∃ (b : Bool),
 (plainA (some (Addr.mk h.next 0 none)) = true ∧ h'_1.cellsAt h.next 0 1 = some [Value.bool b]) ∧
 if b = true then
 plainA (some (Addr.mk h.next 0 none)) = true ∧
 ∃ (n_3 : Int), (plainA (some (Addr.mk h.next 1 none)) = true ∧ h'_1.cellsAt h.next 1 1 = some [Value.int IntKind.i64 n_3]) ∧ C 106 [Value.pointer (some (Addr.mk r 0 none)), Value.int IntKind.i64 n_3] h'_1 fun (v : Value) (h' : Hp) => v = Value.tuple (Array.mk []) ∧ J [Value.int IntKind.i64 n] h'
 else
 plainA (some (Addr.mk h.next 0 none)) = true ∧
 ∃ (n_3 : Int),
 (plainA (some (Addr.mk h.next 1 none)) = true ∧ h'_1.cellsAt h.next 1 1 = some [Value.int IntKind.i64 n_3]) ∧
 C 106 [Value.pointer (some (Addr.mk r 0 none)), Value.int IntKind.i64 (addW IntKind.i64 n_3 1)] h'_1 fun (v : Value) (h' : Hp) =>
 v = Value.tuple (Array.mk []) ∧
 (some (Addr.mk r 0 none)).isSome = true ∧
 plainA (some (Addr.mk r 0 none)) = true ∧
 ∃ (a_5 : Option Addr),
 ∃ (l_3 : Nat),
 ∃ (c : Nat),
 (plainA (some (Addr.mk r 2 none)) = true ∧ h'.cellsAt r 2 1 = some [Value.slice a_5 l_3 c]) ∧
 plainA (some (Addr.mk h.next 0 none)) = true ∧
 ∃ (n_4 : Int),
 (plainA (some (Addr.mk h.next 1 none)) = true ∧ h'.cellsAt h.next 1 1 = some [Value.int IntKind.i64 n_4]) ∧
 (some (Addr.mk r 0 none)).isSome = true ∧
 plainA (some (Addr.mk r 0 none)) = true ∧
 ∃ (a_6 : Option Addr),
 ∃ (l_4 : Nat),
 ∃ (c_1 : Nat),
 (plainA (some (Addr.mk r 2 none)) = true ∧ h'.cellsAt r 2 1 = some [Value.slice a_6 l_4 c_1]) ∧
 plainA (some (Addr.mk h.next 0 none)) = true ∧
 ∃ (n_5 : Int),
 (plainA (some (Addr.mk h.next 1 none)) = true ∧ h'.cellsAt h.next 1 1 = some [Value.int IntKind.i64 n_5]) ∧
 (a_6.isSome = true ∧ inR n_5 l_4) ∧
 ∃ (s : ByteArray),
 (plainA (some (Addr.mk (blk a_6) (plusI (off a_6) n_5 1) none)) = true ∧ h'.cellsAt (blk a_6) (plusI (off a_6) n_5 1) 1 = some [Value.string s]) ∧
 plainA (some (Addr.mk h.next 0 none)) = true ∧
 ∃ (s_1 : ByteArray),
 (plainA (some (Addr.mk h.next 2 none)) = true ∧ h'.cellsAt h.next 2 1 = some [Value.string s_1]) ∧
 (a.isSome = true ∧ inR n l) ∧
 ∃ (n_6 : Int),
 (plainA (some (Addr.mk (blk a) (plusI (off a) n 1) none)) = true ∧ h'.cellsAt (blk a) (plusI (off a) n 1) 1 = some [Value.int IntKind.u8 n_6]) ∧
 C 107 [Value.string s, Value.string s_1, Value.int IntKind.u8 n_6] h' fun (v : Value) (h' : Hp) =>
 ∃ (s : ByteArray),
 v = Value.string s ∧
 (plainA (some (Addr.mk h.next 1 none)) = true ∧ h'.cellsAt h.next 1 1 = some [Value.int IntKind.i64 n_4]) ∧
 (plainA (some (Addr.mk r 2 none)) = true ∧ h'.cellsAt r 2 1 = some [Value.slice a_5 l_3 c]) ∧
 (a_5.isSome = true ∧ inR n_4 l_3) ∧ plainA (some (Addr.mk (blk a_5) (plusI (off a_5) n_4 1) none)) = true ∧ ∃ (h'_2 : Hp), h'.store (blk a_5) (plusI (off a_5) n_4 1) [Value.string s] = some h'_2 ∧ J [Value.int IntKind.i64 n] h'_2) ∧
 ∀ (n : Int) (h : Hp), J [Value.int IntKind.i64 n] h → ∃ (m' : Nat), lessN m' m ∧ I [Value.int IntKind.i64 (addW IntKind.i64 n 1)] m' h
 else
 (some (Addr.mk r 0 none)).isSome = true ∧
 plainA (some (Addr.mk r 0 none)) = true ∧
 plainA (some (Addr.mk r 3 none)) = true ∧
 ∃ (h' : Hp),
 h.store r 3 [Value.slice none 0 0] = some h' ∧
 (some (Addr.mk r 0 none)).isSome = true ∧
 plainA (some (Addr.mk r 0 none)) = true ∧
 plainA (some (Addr.mk r 4 none)) = true ∧
 ∃ (h'_1 : Hp),
 h'.store r 4 [Value.slice none 0 0] = some h'_1 ∧
 (some (Addr.mk r 0 none)).isSome = true ∧
 plainA (some (Addr.mk r 0 none)) = true ∧
 plainA (some (Addr.mk r 5 none)) = true ∧
 ∃ (h' : Hp),
 h'_1.store r 5 [Value.bool false] = some h' ∧
 (some (Addr.mk r 0 none)).isSome = true ∧
 plainA (some (Addr.mk r 0 none)) = true ∧
 ∃ (n : Int),
 (plainA (some (Addr.mk r 7 none)) = true ∧ h'.cellsAt r 7 1 = some [Value.int IntKind.i64 n]) ∧
 (some (Addr.mk r 0 none)).isSome = true ∧ plainA (some (Addr.mk r 0 none)) = true ∧ plainA (some (Addr.mk r 7 none)) = true ∧ ∃ (h'_2 : Hp), h'.store r 7 [Value.int IntKind.i64 (addW IntKind.i64 n 1)] = some h'_2 ∧ K (Value.tuple (Array.mk [])) h'_2) := by kernel_rfl

def shp103 : Nat → List (Tmp × TypeId) := fun i => if i = 3 then [(3, 51), (4, 3)] else []
theorem vc103 (C : FuncId → List Value → Hp → (Value → Hp → Prop) → Prop) (r : Nat) (h : Hp) (K : Value → Hp → Prop) : vBody Try.prog C pf shp103 Try.f103 (Try.f103.body.getD .skip) [.pointer (some ⟨r, 0, none⟩)] h K = (
 ∃ (I : List Value → Nat → Hp → Prop),
 (∃ (m : Nat), I [Value.slice none 0 0, Value.int IntKind.i64 0] m h) ∧
 ∀ (a : Option Addr) (l c : Nat) (n : Int) (m : Nat) (h : Hp),
 I [Value.slice a l c, Value.int IntKind.i64 n] m h →
 (some (Addr.mk r 0 none)).isSome = true ∧
 plainA (some (Addr.mk r 0 none)) = true ∧
 ∃ (a_2 : Option Addr),
 ∃ (l_1 : Nat),
 ∃ (c_1 : Nat),
 (plainA (some (Addr.mk r 3 none)) = true ∧ h.cellsAt r 3 1 = some [Value.slice a_2 l_1 c_1]) ∧
 if ltI n (natI l_1) = true then
 (some (Addr.mk r 0 none)).isSome = true ∧
 plainA (some (Addr.mk r 0 none)) = true ∧
 ∃ (a_3 : Option Addr),
 ∃ (l_2 : Nat),
 ∃ (c_2 : Nat),
 (plainA (some (Addr.mk r 3 none)) = true ∧ h.cellsAt r 3 1 = some [Value.slice a_3 l_2 c_2]) ∧
 (a_3.isSome = true ∧ inR n l_2) ∧
 ∃ (b : Bool),
 ∃ (n_1 : Int),
 ∃ (s : ByteArray),
 (plainA (some (Addr.mk (blk a_3) (plusI (off a_3) n 3) none)) = true ∧ h.cellsAt (blk a_3) (plusI (off a_3) n 3) 3 = some [Value.bool b, Value.int IntKind.i64 n_1, Value.string s]) ∧
 ∀ (h' : Hp),
 h' = h.alloc [Value.bool false, Value.int IntKind.i64 (Int.ofNat 0), Value.string (ByteArray.mk (Array.mk []))] 144 →
 plainA (some (Addr.mk h.next 0 none)) = true ∧
 ∃ (h'_1 : Hp),
 h'.store h.next 0 [Value.bool b, Value.int IntKind.i64 n_1, Value.string s] = some h'_1 ∧
 plainA (some (Addr.mk h.next 0 none)) = true ∧
 ∃ (b : Bool),
 (plainA (some (Addr.mk h.next 0 none)) = true ∧ h'_1.cellsAt h.next 0 1 = some [Value.bool b]) ∧
 if b = true then
 plainA (some (Addr.mk h.next 0 none)) = true ∧
 ∃ (n_2 : Int),
 (plainA (some (Addr.mk h.next 1 none)) = true ∧ h'_1.cellsAt h.next 1 1 = some [Value.int IntKind.i64 n_2]) ∧
 ∀ (h' : Hp),
 h' = h'_1.alloc [Value.int IntKind.u8 2, Value.int IntKind.u32 (Int.ofNat 0), Value.int IntKind.i64 n_2] 60 →
 ∃ (a_6 : Option Addr), ∃ (m_1 : Nat), ∃ (n_3 : Nat), ∃ (h'_2 : Hp), cappend Try.prog 51 51 (Value.slice a l c) (Value.slice (some (Addr.mk h'_1.next 0 none)) 1 1) h' = some (Value.slice a_6 m_1 n_3, h'_2) ∧ ∃ (m' : Nat), lessN m' m ∧ I [Value.slice a_6 m_1 n_3, Value.int IntKind.i64 (addW IntKind.i64 n 1)] m' h'_2
 else
 plainA (some (Addr.mk h.next 0 none)) = true ∧
 ∃ (n_2 : Int),
 (plainA (some (Addr.mk h.next 1 none)) = true ∧ h'_1.cellsAt h.next 1 1 = some [Value.int IntKind.i64 n_2]) ∧
 ∀ (h' : Hp),
 h' = h'_1.alloc [Value.int IntKind.u8 1, Value.int IntKind.u32 (toW IntKind.u32 n_2), Value.int IntKind.i64 (Int.ofNat 0)] 60 →
 ∃ (a_6 : Option Addr), ∃ (m_1 : Nat), ∃ (n_3 : Nat), ∃ (h'_2 : Hp), cappend Try.prog 51 51 (Value.slice a l c) (Value.slice (some (Addr.mk h'_1.next 0 none)) 1 1) h' = some (Value.slice a_6 m_1 n_3, h'_2) ∧ ∃ (m' : Nat), lessN m' m ∧ I [Value.slice a_6 m_1 n_3, Value.int IntKind.i64 (addW IntKind.i64 n 1)] m' h'_2
 else K (Value.slice a l c) h) := by kernel_rfl

def shp104 : Nat → List (Tmp × TypeId) := fun i => []
theorem vc104 (C : FuncId → List Value → Hp → (Value → Hp → Prop) → Prop) (p : Int) (h : Hp) (K : Value → Hp → Prop) : vBody Try.prog C pf shp104 Try.f104 (Try.f104.body.getD .skip) [.int .i64 p] h K = (
 ∃ (a : Option Addr), ∃ (m : Nat), ∃ (n : Nat), ∃ (h' : Hp), cmakeSlice Try.prog 95 (Value.int IntKind.i64 p) (Value.int IntKind.i64 p) h = some (Value.slice a m n, h') ∧ ∃ (s : ByteArray), readStr a m h' s ∧ K (Value.string s) h') := by kernel_rfl

def shp105 : Nat → List (Tmp × TypeId) := fun i => []
theorem vc105 (C : FuncId → List Value → Hp → (Value → Hp → Prop) → Prop) (on nth : Int) (pw : Bool) (a : Option Addr) (l c : Nat) (seen kind : Int) (h : Hp) (K : Value → Hp → Prop) : vBody Try.prog C pf shp105 Try.f105 (Try.f105.body.getD .skip) [.agg #[.int .u8 on, .int .i64 nth, .bool pw, .slice a l c, .int .i64 seen], .int .u8 kind] h K = (
 ∀ (h' : Hp),
 h' = h.alloc [Value.int IntKind.u8 on, Value.int IntKind.i64 nth, Value.bool pw, Value.slice a l c, Value.int IntKind.i64 seen] 153 →
 plainA (some (Addr.mk h.next 0 none)) = true ∧
 plainA (some (Addr.mk h.next 0 none)) = true ∧
 ∃ (n : Int),
 (plainA (some (Addr.mk h.next 0 none)) = true ∧ h'.cellsAt h.next 0 1 = some [Value.int IntKind.u8 n]) ∧
 (notB (eqI n 0) = true → plainA (some (Addr.mk h.next 0 none)) = true) ∧ (notB (eqI n 0) = true → plainA (some (Addr.mk h.next 0 none)) = true) ∧ ∃ (n_1 : Int), (notB (eqI n 0) = true → plainA (some (Addr.mk h.next 0 none)) = true ∧ h'.cellsAt h.next 0 1 = some [Value.int IntKind.u8 n_1]) ∧ K (Value.bool (sel (eqI n 0) true (eqI n_1 kind))) h') := by kernel_rfl

def shp106 : Nat → List (Tmp × TypeId) := fun i => if i = 0 then [] else []
theorem vc106 (C : FuncId → List Value → Hp → (Value → Hp → Prop) → Prop) (r : Nat) (n : Int) (h : Hp) (K : Value → Hp → Prop) : vBody Try.prog C pf shp106 Try.f106 (Try.f106.body.getD .skip) [.pointer (some ⟨r, 0, none⟩), .int .i64 n] h K = (
 ∃ (I : List Value → Nat → Hp → Prop),
 (∃ (m : Nat), I [] m h) ∧
 ∀ (m : Nat) (h : Hp),
 I [] m h →
 (some (Addr.mk r 0 none)).isSome = true ∧
 plainA (some (Addr.mk r 0 none)) = true ∧
 ∃ (a : Option Addr),
 ∃ (l : Nat),
 ∃ (c : Nat),
 (plainA (some (Addr.mk r 2 none)) = true ∧ h.cellsAt r 2 1 = some [Value.slice a l c]) ∧
 if ltI (natI l) n = true then
 (some (Addr.mk r 0 none)).isSome = true ∧
 plainA (some (Addr.mk r 0 none)) = true ∧
 ∃ (a : Option Addr),
 ∃ (l : Nat),
 ∃ (c : Nat),
 (plainA (some (Addr.mk r 2 none)) = true ∧ h.cellsAt r 2 1 = some [Value.slice a l c]) ∧
 (some (Addr.mk r 0 none)).isSome = true ∧
 plainA (some (Addr.mk r 0 none)) = true ∧
 ∃ (n : Int),
 (plainA (some (Addr.mk r 0 none)) = true ∧ h.cellsAt r 0 1 = some [Value.int IntKind.i64 n]) ∧
 C 104 [Value.int IntKind.i64 n] h fun (v : Value) (h' : Hp) =>
 ∃ (s : ByteArray),
 v = Value.string s ∧
 (plainA (some (Addr.mk r 2 none)) = true ∧ h'.cellsAt r 2 1 = some [Value.slice a l c]) ∧
 ∀ (h'_1 : Hp),
 h'_1 = h'.alloc [Value.string s] 9 →
 (plainA (some (Addr.mk r 2 none)) = true ∧ h'_1.cellsAt r 2 1 = some [Value.slice a l c]) ∧
 ∃ (a_2 : Option Addr),
 ∃ (m_1 : Nat),
 ∃ (n : Nat),
 ∃ (h'_2 : Hp),
 cappend Try.prog 40 40 (Value.slice a l c) (Value.slice (some (Addr.mk h'.next 0 none)) 1 1) h'_1 = some (Value.slice a_2 m_1 n, h'_2) ∧
 (some (Addr.mk r 0 none)).isSome = true ∧ plainA (some (Addr.mk r 0 none)) = true ∧ plainA (some (Addr.mk r 2 none)) = true ∧ ∃ (h' : Hp), h'_2.store r 2 [Value.slice a_2 m_1 n] = some h' ∧ ∃ (m' : Nat), lessN m' m ∧ I [] m' h'
 else K (Value.tuple (Array.mk [])) h) := by kernel_rfl

def shp107 : Nat → List (Tmp × TypeId) := fun i => if i = 4 then [(8, 9), (9, 3)] else if i = 1000005 then [(8, 9)] else []
theorem vc107 (C : FuncId → List Value → Hp → (Value → Hp → Prop) → Prop) (x y : ByteArray) (f : Int) (h : Hp) (K : Value → Hp → Prop) : vBody Try.prog C pf shp107 Try.f107 (Try.f107.body.getD .skip) [.string x, .string y, .int .u8 f] h K = (
 nonzero 8 ∧
 ∃ (I : List Value → Nat → Hp → Prop),
 (∃ (m : Nat), I [Value.string (ByteArray.mk (Array.mk [])), Value.int IntKind.i64 0] m h) ∧
 ∀ (s : ByteArray) (n : Int) (m : Nat) (h : Hp),
 I [Value.string s, Value.int IntKind.i64 n] m h →
 if ltI n 8 = true then
 ∃ (J : List Value → Hp → Prop),
 (nonneg (toW IntKind.u64 n) ∧
 if eqI (andW IntKind.u8 (shrW IntKind.u8 f (toW IntKind.u64 n)) 1) 1 = true then
 subOk y (mulW IntKind.i64 n (quoW IntKind.i64 (natI (lenS y)) 8)) (addW IntKind.i64 (mulW IntKind.i64 n (quoW IntKind.i64 (natI (lenS y)) 8)) (quoW IntKind.i64 (natI (lenS y)) 8)) ∧
 catOk s (strSub y (mulW IntKind.i64 n (quoW IntKind.i64 (natI (lenS y)) 8)) (addW IntKind.i64 (mulW IntKind.i64 n (quoW IntKind.i64 (natI (lenS y)) 8)) (quoW IntKind.i64 (natI (lenS y)) 8))) ∧
 J [Value.string (strCat s (strSub y (mulW IntKind.i64 n (quoW IntKind.i64 (natI (lenS y)) 8)) (addW IntKind.i64 (mulW IntKind.i64 n (quoW IntKind.i64 (natI (lenS y)) 8)) (quoW IntKind.i64 (natI (lenS y)) 8))))] h
 else
 subOk x (mulW IntKind.i64 n (quoW IntKind.i64 (natI (lenS y)) 8)) (addW IntKind.i64 (mulW IntKind.i64 n (quoW IntKind.i64 (natI (lenS y)) 8)) (quoW IntKind.i64 (natI (lenS y)) 8)) ∧
 catOk s (strSub x (mulW IntKind.i64 n (quoW IntKind.i64 (natI (lenS y)) 8)) (addW IntKind.i64 (mulW IntKind.i64 n (quoW IntKind.i64 (natI (lenS y)) 8)) (quoW IntKind.i64 (natI (lenS y)) 8))) ∧
 J [Value.string (strCat s (strSub x (mulW IntKind.i64 n (quoW IntKind.i64 (natI (lenS y)) 8)) (addW IntKind.i64 (mulW IntKind.i64 n (quoW IntKind.i64 (natI (lenS y)) 8)) (quoW IntKind.i64 (natI (lenS y)) 8))))] h) ∧
 ∀ (s : ByteArray) (h : Hp), J [Value.string s] h → ∃ (m' : Nat), lessN m' m ∧ I [Value.string s, Value.int IntKind.i64 (addW IntKind.i64 n 1)] m' h
 else K (Value.string s) h) := by kernel_rfl
end Go.Proofs.Ytfkhjbfddeahaaa.vc
