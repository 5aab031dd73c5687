/- Joined: SzV, SzB, SzC, SzD, SzE, SzF, SzG, SzH, SzI, SzJ, SzK, SzL, SzM, SzO, SzP, SzQ, SzR. -/
import Derived.Test.YtlodmlmlmkcpkaaGreatDoorFo12
import Derived.Test.YtlodmlmlmkcpkaaGreatDoorProg
import Derived.KernelRfl
/- The conditions of the symbolic runs of functions of the program (printed by a program of ours, vcgen.py; checked by the kernel). -/
set_option linter.unusedVariables false
set_option maxRecDepth 100000
namespace Go.Proofs.YtlodmlmlmkcpkaaGreatDoor.vc
open Go Go.Cn Go.Proofs
def pf : FuncId → Bool := fun f => false

def shp_270 : Nat → List (Tmp × TypeId) := fun i => []
theorem vc_270 (C : FuncId → List Value → Hp → (Value → Hp → Prop) → Prop) (x n : Int) (h : Hp) (K : Value → Hp → Prop) : vBody Tryz.prog C pf shp_270 Tryz.f346 (Tryz.f346.body.getD .skip) [.int .u32 x, .int .i64 n] h K = (
 nonneg (andW IntKind.u64 (toW IntKind.u64 n) 31) ∧ nonneg (subW IntKind.u64 32 (andW IntKind.u64 (toW IntKind.u64 n) 31)) ∧ K (Value.int IntKind.u32 (orW IntKind.u32 (shlW IntKind.u32 x (andW IntKind.u64 (toW IntKind.u64 n) 31)) (shrW IntKind.u32 x (subW IntKind.u64 32 (andW IntKind.u64 (toW IntKind.u64 n) 31))))) h) := by kernel_rfl

def shp_271 : Nat → List (Tmp × TypeId) := fun i => []
theorem vc_271 (C : FuncId → List Value → Hp → (Value → Hp → Prop) → Prop)  (h : Hp) (K : Value → Hp → Prop) : vBody Tryz.prog C pf shp_271 Tryz.f347 (Tryz.f347.body.getD .skip) [] h K = (
 ∀ (h' : Hp),
 h' =
 h.alloc
 [Value.int IntKind.u32 (Int.ofNat 0), Value.int IntKind.u32 (Int.ofNat 0), Value.int IntKind.u32 (Int.ofNat 0), Value.int IntKind.u32 (Int.ofNat 0), Value.int IntKind.u32 (Int.ofNat 0), Value.int IntKind.u32 (Int.ofNat 0), Value.int IntKind.u32 (Int.ofNat 0), Value.int IntKind.u32 (Int.ofNat 0), Value.int IntKind.u32 (Int.ofNat 0), Value.int IntKind.u32 (Int.ofNat 0),
 Value.int IntKind.u32 (Int.ofNat 0), Value.int IntKind.u32 (Int.ofNat 0), Value.int IntKind.u32 (Int.ofNat 0), Value.int IntKind.u32 (Int.ofNat 0), Value.int IntKind.u32 (Int.ofNat 0), Value.int IntKind.u32 (Int.ofNat 0), Value.int IntKind.u32 (Int.ofNat 0), Value.int IntKind.u32 (Int.ofNat 0), Value.int IntKind.u32 (Int.ofNat 0), Value.int IntKind.u32 (Int.ofNat 0),
 Value.int IntKind.u32 (Int.ofNat 0), Value.int IntKind.u32 (Int.ofNat 0), Value.int IntKind.u32 (Int.ofNat 0), Value.int IntKind.u32 (Int.ofNat 0), Value.int IntKind.u32 (Int.ofNat 0), Value.int IntKind.u32 (Int.ofNat 0), Value.int IntKind.u32 (Int.ofNat 0), Value.int IntKind.u32 (Int.ofNat 0), Value.int IntKind.u32 (Int.ofNat 0), Value.int IntKind.u32 (Int.ofNat 0),
 Value.int IntKind.u32 (Int.ofNat 0), Value.int IntKind.u32 (Int.ofNat 0), Value.int IntKind.u32 (Int.ofNat 0), Value.int IntKind.u32 (Int.ofNat 0), Value.int IntKind.u32 (Int.ofNat 0), Value.int IntKind.u32 (Int.ofNat 0), Value.int IntKind.u32 (Int.ofNat 0), Value.int IntKind.u32 (Int.ofNat 0), Value.int IntKind.u32 (Int.ofNat 0), Value.int IntKind.u32 (Int.ofNat 0),
 Value.int IntKind.u32 (Int.ofNat 0), Value.int IntKind.u32 (Int.ofNat 0), Value.int IntKind.u32 (Int.ofNat 0), Value.int IntKind.u32 (Int.ofNat 0), Value.int IntKind.u32 (Int.ofNat 0), Value.int IntKind.u32 (Int.ofNat 0), Value.int IntKind.u32 (Int.ofNat 0), Value.int IntKind.u32 (Int.ofNat 0), Value.int IntKind.u32 (Int.ofNat 0), Value.int IntKind.u32 (Int.ofNat 0),
 Value.int IntKind.u32 (Int.ofNat 0), Value.int IntKind.u32 (Int.ofNat 0), Value.int IntKind.u32 (Int.ofNat 0), Value.int IntKind.u32 (Int.ofNat 0), Value.int IntKind.u32 (Int.ofNat 0), Value.int IntKind.u32 (Int.ofNat 0), Value.int IntKind.u32 (Int.ofNat 0), Value.int IntKind.u32 (Int.ofNat 0), Value.int IntKind.u32 (Int.ofNat 0), Value.int IntKind.u32 (Int.ofNat 0),
 Value.int IntKind.u32 (Int.ofNat 0), Value.int IntKind.u32 (Int.ofNat 0), Value.int IntKind.u32 (Int.ofNat 0), Value.int IntKind.u32 (Int.ofNat 0)]
 466 →
 plainA (some (Addr.mk h.next 0 none)) = true ∧
 ∃ (h'_1 : Hp),
 h'.store h.next 0
 [Value.int IntKind.u32 1116352408, Value.int IntKind.u32 1899447441, Value.int IntKind.u32 3049323471, Value.int IntKind.u32 3921009573, Value.int IntKind.u32 961987163, Value.int IntKind.u32 1508970993, Value.int IntKind.u32 2453635748, Value.int IntKind.u32 2870763221, Value.int IntKind.u32 3624381080, Value.int IntKind.u32 310598401, Value.int IntKind.u32 607225278,
 Value.int IntKind.u32 1426881987, Value.int IntKind.u32 1925078388, Value.int IntKind.u32 2162078206, Value.int IntKind.u32 2614888103, Value.int IntKind.u32 3248222580, Value.int IntKind.u32 3835390401, Value.int IntKind.u32 4022224774, Value.int IntKind.u32 264347078, Value.int IntKind.u32 604807628, Value.int IntKind.u32 770255983, Value.int IntKind.u32 1249150122,
 Value.int IntKind.u32 1555081692, Value.int IntKind.u32 1996064986, Value.int IntKind.u32 2554220882, Value.int IntKind.u32 2821834349, Value.int IntKind.u32 2952996808, Value.int IntKind.u32 3210313671, Value.int IntKind.u32 3336571891, Value.int IntKind.u32 3584528711, Value.int IntKind.u32 113926993, Value.int IntKind.u32 338241895, Value.int IntKind.u32 666307205,
 Value.int IntKind.u32 773529912, Value.int IntKind.u32 1294757372, Value.int IntKind.u32 1396182291, Value.int IntKind.u32 1695183700, Value.int IntKind.u32 1986661051, Value.int IntKind.u32 2177026350, Value.int IntKind.u32 2456956037, Value.int IntKind.u32 2730485921, Value.int IntKind.u32 2820302411, Value.int IntKind.u32 3259730800, Value.int IntKind.u32 3345764771,
 Value.int IntKind.u32 3516065817, Value.int IntKind.u32 3600352804, Value.int IntKind.u32 4094571909, Value.int IntKind.u32 275423344, Value.int IntKind.u32 430227734, Value.int IntKind.u32 506948616, Value.int IntKind.u32 659060556, Value.int IntKind.u32 883997877, Value.int IntKind.u32 958139571, Value.int IntKind.u32 1322822218, Value.int IntKind.u32 1537002063,
 Value.int IntKind.u32 1747873779, Value.int IntKind.u32 1955562222, Value.int IntKind.u32 2024104815, Value.int IntKind.u32 2227730452, Value.int IntKind.u32 2361852424, Value.int IntKind.u32 2428436474, Value.int IntKind.u32 2756734187, Value.int IntKind.u32 3204031479, Value.int IntKind.u32 3329325298] =
 some h'_1 ∧
 ∃ (D : Nat → Int),
 (plainA (some (Addr.mk h.next 0 none)) = true ∧
 h'_1.cellsAt h.next 0 64 =
 some
 ((dgV .u32 64 D))) ∧
 K
 (Value.agg
 (Array.mk
 ((dgV .u32 64 D))))
 h'_1) := by kernel_rfl

def shp_265 : Nat → List (Tmp × TypeId) := fun i => []
theorem vc_265 (C : FuncId → List Value → Hp → (Value → Hp → Prop) → Prop)  (h : Hp) (K : Value → Hp → Prop) : vBody Tryz.prog C pf shp_265 Tryz.f319 (Tryz.f319.body.getD .skip) [] h K = (
 ∀ (h' : Hp),
 h' = h.alloc [Value.int IntKind.u32 (Int.ofNat 0), Value.int IntKind.u32 (Int.ofNat 0), Value.int IntKind.u32 (Int.ofNat 0), Value.int IntKind.u32 (Int.ofNat 0), Value.int IntKind.u32 (Int.ofNat 0), Value.int IntKind.u32 (Int.ofNat 0), Value.int IntKind.u32 (Int.ofNat 0), Value.int IntKind.u32 (Int.ofNat 0)] 444 →
 plainA (some (Addr.mk h.next 0 none)) = true ∧
 ∃ (h'_1 : Hp),
 h'.store h.next 0 [Value.int IntKind.u32 1779033703, Value.int IntKind.u32 3144134277, Value.int IntKind.u32 1013904242, Value.int IntKind.u32 2773480762, Value.int IntKind.u32 1359893119, Value.int IntKind.u32 2600822924, Value.int IntKind.u32 528734635, Value.int IntKind.u32 1541459225] = some h'_1 ∧
 ∃ (n : Int),
 ∃ (n_1 : Int),
 ∃ (n_2 : Int),
 ∃ (n_3 : Int),
 ∃ (n_4 : Int),
 ∃ (n_5 : Int),
 ∃ (n_6 : Int),
 ∃ (n_7 : Int),
 (plainA (some (Addr.mk h.next 0 none)) = true ∧ h'_1.cellsAt h.next 0 8 = some [Value.int IntKind.u32 n, Value.int IntKind.u32 n_1, Value.int IntKind.u32 n_2, Value.int IntKind.u32 n_3, Value.int IntKind.u32 n_4, Value.int IntKind.u32 n_5, Value.int IntKind.u32 n_6, Value.int IntKind.u32 n_7]) ∧
 K (Value.agg (Array.mk [Value.int IntKind.u32 n, Value.int IntKind.u32 n_1, Value.int IntKind.u32 n_2, Value.int IntKind.u32 n_3, Value.int IntKind.u32 n_4, Value.int IntKind.u32 n_5, Value.int IntKind.u32 n_6, Value.int IntKind.u32 n_7])) h'_1) := by kernel_rfl

def shp_267 : Nat → List (Tmp × TypeId) := fun i => if i = 3 then [(18, 3)] else if i = 8 then [(6, 3)] else if i = 17 then [(106, 3)] else if i = 29 then [(192, 3)] else []
theorem vc_267 (C : FuncId → List Value → Hp → (Value → Hp → Prop) → Prop) (b n : Nat) (arr : Array Value) (h : Hp) (K : Value → Hp → Prop) : vBody Tryz.prog C pf shp_267 Tryz.f321 (Tryz.f321.body.getD .skip) [.pointer (some ⟨b, n, none⟩), .agg arr] h K = (
 ∀ (h' : Hp),
 h' = h.alloc arr.1 449 →
 ∀ (h'_1 : Hp),
 h'_1 =
 h'.alloc
 [Value.int IntKind.u32 (Int.ofNat 0), Value.int IntKind.u32 (Int.ofNat 0), Value.int IntKind.u32 (Int.ofNat 0), Value.int IntKind.u32 (Int.ofNat 0), Value.int IntKind.u32 (Int.ofNat 0), Value.int IntKind.u32 (Int.ofNat 0), Value.int IntKind.u32 (Int.ofNat 0), Value.int IntKind.u32 (Int.ofNat 0), Value.int IntKind.u32 (Int.ofNat 0), Value.int IntKind.u32 (Int.ofNat 0),
 Value.int IntKind.u32 (Int.ofNat 0), Value.int IntKind.u32 (Int.ofNat 0), Value.int IntKind.u32 (Int.ofNat 0), Value.int IntKind.u32 (Int.ofNat 0), Value.int IntKind.u32 (Int.ofNat 0), Value.int IntKind.u32 (Int.ofNat 0), Value.int IntKind.u32 (Int.ofNat 0), Value.int IntKind.u32 (Int.ofNat 0), Value.int IntKind.u32 (Int.ofNat 0), Value.int IntKind.u32 (Int.ofNat 0),
 Value.int IntKind.u32 (Int.ofNat 0), Value.int IntKind.u32 (Int.ofNat 0), Value.int IntKind.u32 (Int.ofNat 0), Value.int IntKind.u32 (Int.ofNat 0), Value.int IntKind.u32 (Int.ofNat 0), Value.int IntKind.u32 (Int.ofNat 0), Value.int IntKind.u32 (Int.ofNat 0), Value.int IntKind.u32 (Int.ofNat 0), Value.int IntKind.u32 (Int.ofNat 0), Value.int IntKind.u32 (Int.ofNat 0),
 Value.int IntKind.u32 (Int.ofNat 0), Value.int IntKind.u32 (Int.ofNat 0), Value.int IntKind.u32 (Int.ofNat 0), Value.int IntKind.u32 (Int.ofNat 0), Value.int IntKind.u32 (Int.ofNat 0), Value.int IntKind.u32 (Int.ofNat 0), Value.int IntKind.u32 (Int.ofNat 0), Value.int IntKind.u32 (Int.ofNat 0), Value.int IntKind.u32 (Int.ofNat 0), Value.int IntKind.u32 (Int.ofNat 0),
 Value.int IntKind.u32 (Int.ofNat 0), Value.int IntKind.u32 (Int.ofNat 0), Value.int IntKind.u32 (Int.ofNat 0), Value.int IntKind.u32 (Int.ofNat 0), Value.int IntKind.u32 (Int.ofNat 0), Value.int IntKind.u32 (Int.ofNat 0), Value.int IntKind.u32 (Int.ofNat 0), Value.int IntKind.u32 (Int.ofNat 0), Value.int IntKind.u32 (Int.ofNat 0), Value.int IntKind.u32 (Int.ofNat 0),
 Value.int IntKind.u32 (Int.ofNat 0), Value.int IntKind.u32 (Int.ofNat 0), Value.int IntKind.u32 (Int.ofNat 0), Value.int IntKind.u32 (Int.ofNat 0), Value.int IntKind.u32 (Int.ofNat 0), Value.int IntKind.u32 (Int.ofNat 0), Value.int IntKind.u32 (Int.ofNat 0), Value.int IntKind.u32 (Int.ofNat 0), Value.int IntKind.u32 (Int.ofNat 0), Value.int IntKind.u32 (Int.ofNat 0),
 Value.int IntKind.u32 (Int.ofNat 0), Value.int IntKind.u32 (Int.ofNat 0), Value.int IntKind.u32 (Int.ofNat 0), Value.int IntKind.u32 (Int.ofNat 0)]
 466 →
 ∃ (I : List Value → Nat → Hp → Prop),
 (∃ (m : Nat), I [Value.int IntKind.i64 0] m h'_1) ∧
 ∀ (n_1 : Int) (m : Nat) (h_1 : Hp),
 I [Value.int IntKind.i64 n_1] m h_1 →
 if ltI n_1 16 = true then
 (plainA (some (Addr.mk h.next 0 none)) = true ∧ inR (mulW IntKind.i64 4 n_1) 64) ∧
 ∃ (n : Int),
 (plainA (some (Addr.mk h.next (plusI 0 (mulW IntKind.i64 4 n_1) 1) none)) = true ∧ h_1.cellsAt h.next (plusI 0 (mulW IntKind.i64 4 n_1) 1) 1 = some [Value.int IntKind.u8 n]) ∧
 nonneg 24 ∧
 (plainA (some (Addr.mk h.next 0 none)) = true ∧ inR (addW IntKind.i64 (mulW IntKind.i64 4 n_1) 1) 64) ∧
 ∃ (n_2 : Int),
 (plainA (some (Addr.mk h.next (plusI 0 (addW IntKind.i64 (mulW IntKind.i64 4 n_1) 1) 1) none)) = true ∧ h_1.cellsAt h.next (plusI 0 (addW IntKind.i64 (mulW IntKind.i64 4 n_1) 1) 1) 1 = some [Value.int IntKind.u8 n_2]) ∧
 nonneg 16 ∧
 (plainA (some (Addr.mk h.next 0 none)) = true ∧ inR (addW IntKind.i64 (mulW IntKind.i64 4 n_1) 2) 64) ∧
 ∃ (n_3 : Int),
 (plainA (some (Addr.mk h.next (plusI 0 (addW IntKind.i64 (mulW IntKind.i64 4 n_1) 2) 1) none)) = true ∧ h_1.cellsAt h.next (plusI 0 (addW IntKind.i64 (mulW IntKind.i64 4 n_1) 2) 1) 1 = some [Value.int IntKind.u8 n_3]) ∧
 nonneg 8 ∧
 (plainA (some (Addr.mk h.next 0 none)) = true ∧ inR (addW IntKind.i64 (mulW IntKind.i64 4 n_1) 3) 64) ∧
 ∃ (n_4 : Int),
 (plainA (some (Addr.mk h.next (plusI 0 (addW IntKind.i64 (mulW IntKind.i64 4 n_1) 3) 1) none)) = true ∧ h_1.cellsAt h.next (plusI 0 (addW IntKind.i64 (mulW IntKind.i64 4 n_1) 3) 1) 1 = some [Value.int IntKind.u8 n_4]) ∧
 (plainA (some (Addr.mk h'.next 0 none)) = true ∧ inR n_1 64) ∧
 plainA (some (Addr.mk h'.next (plusI 0 n_1 1) none)) = true ∧
 ∃ (h'_2 : Hp),
 h_1.store h'.next (plusI 0 n_1 1) [Value.int IntKind.u32 (orW IntKind.u32 (orW IntKind.u32 (orW IntKind.u32 (shlW IntKind.u32 (toW IntKind.u32 n) 24) (shlW IntKind.u32 (toW IntKind.u32 n_2) 16)) (shlW IntKind.u32 (toW IntKind.u32 n_3) 8)) (toW IntKind.u32 n_4))] = some h'_2 ∧
 ∃ (m' : Nat), lessN m' m ∧ I [Value.int IntKind.i64 (addW IntKind.i64 n_1 1)] m' h'_2
 else
 ∃ (I : List Value → Nat → Hp → Prop),
 (∃ (m : Nat), I [Value.int IntKind.i64 16] m h_1) ∧
 ∀ (n_2 : Int) (m : Nat) (h : Hp),
 I [Value.int IntKind.i64 n_2] m h →
 if ltI n_2 64 = true then
 (plainA (some (Addr.mk h'.next 0 none)) = true ∧ inR (subW IntKind.i64 n_2 15) 64) ∧
 ∃ (n : Int),
 (plainA (some (Addr.mk h'.next (plusI 0 (subW IntKind.i64 n_2 15) 1) none)) = true ∧ h.cellsAt h'.next (plusI 0 (subW IntKind.i64 n_2 15) 1) 1 = some [Value.int IntKind.u32 n]) ∧
 (plainA (some (Addr.mk h'.next 0 none)) = true ∧ inR (subW IntKind.i64 n_2 2) 64) ∧
 ∃ (n_3 : Int),
 (plainA (some (Addr.mk h'.next (plusI 0 (subW IntKind.i64 n_2 2) 1) none)) = true ∧ h.cellsAt h'.next (plusI 0 (subW IntKind.i64 n_2 2) 1) 1 = some [Value.int IntKind.u32 n_3]) ∧
 (plainA (some (Addr.mk h'.next 0 none)) = true ∧ inR (subW IntKind.i64 n_2 16) 64) ∧
 ∃ (n_4 : Int),
 (plainA (some (Addr.mk h'.next (plusI 0 (subW IntKind.i64 n_2 16) 1) none)) = true ∧ h.cellsAt h'.next (plusI 0 (subW IntKind.i64 n_2 16) 1) 1 = some [Value.int IntKind.u32 n_4]) ∧
 (plainA (some (Addr.mk h'.next 0 none)) = true ∧ inR (subW IntKind.i64 n_2 7) 64) ∧
 ∃ (n_5 : Int),
 (plainA (some (Addr.mk h'.next (plusI 0 (subW IntKind.i64 n_2 7) 1) none)) = true ∧ h.cellsAt h'.next (plusI 0 (subW IntKind.i64 n_2 7) 1) 1 = some [Value.int IntKind.u32 n_5]) ∧
 (plainA (some (Addr.mk h'.next 0 none)) = true ∧ inR n_2 64) ∧
 plainA (some (Addr.mk h'.next (plusI 0 n_2 1) none)) = true ∧
 ∃ (h'_2 : Hp),
 h.store h'.next (plusI 0 n_2 1) [Value.int IntKind.u32 (addW IntKind.u32 n_4 n_5)] = some h'_2 ∧
 (plainA (some (Addr.mk h'.next 0 none)) = true ∧ inR n_2 64) ∧
 ∃ (n_6 : Int),
 (plainA (some (Addr.mk h'.next (plusI 0 n_2 1) none)) = true ∧ h'_2.cellsAt h'.next (plusI 0 n_2 1) 1 = some [Value.int IntKind.u32 n_6]) ∧
 nonneg 3 ∧
 C 346 [Value.int IntKind.u32 n, Value.int IntKind.i64 (-7)] h'_2 fun (v : Value) (h'_3 : Hp) =>
 ∃ (n_7 : Int),
 v = Value.int IntKind.u32 n_7 ∧
 (plainA (some (Addr.mk h'.next (plusI 0 n_2 1) none)) = true ∧ h'_3.cellsAt h'.next (plusI 0 n_2 1) 1 = some [Value.int IntKind.u32 n_6]) ∧
 C 346 [Value.int IntKind.u32 n, Value.int IntKind.i64 (-18)] h'_3 fun (v : Value) (h'_4 : Hp) =>
 ∃ (n_8 : Int),
 v = Value.int IntKind.u32 n_8 ∧
 (plainA (some (Addr.mk h'.next (plusI 0 n_2 1) none)) = true ∧ h'_4.cellsAt h'.next (plusI 0 n_2 1) 1 = some [Value.int IntKind.u32 n_6]) ∧
 (plainA (some (Addr.mk h'.next 0 none)) = true ∧ inR n_2 64) ∧
 plainA (some (Addr.mk h'.next (plusI 0 n_2 1) none)) = true ∧
 ∃ (h'_5 : Hp),
 h'_4.store h'.next (plusI 0 n_2 1) [Value.int IntKind.u32 (addW IntKind.u32 n_6 (xorW IntKind.u32 (xorW IntKind.u32 n_7 n_8) (shrW IntKind.u32 n 3)))] = some h'_5 ∧
 (plainA (some (Addr.mk h'.next 0 none)) = true ∧ inR n_2 64) ∧
 ∃ (n : Int),
 (plainA (some (Addr.mk h'.next (plusI 0 n_2 1) none)) = true ∧ h'_5.cellsAt h'.next (plusI 0 n_2 1) 1 = some [Value.int IntKind.u32 n]) ∧
 nonneg 10 ∧
 C 346 [Value.int IntKind.u32 n_3, Value.int IntKind.i64 (-17)] h'_5 fun (v : Value) (h'_6 : Hp) =>
 ∃ (n_9 : Int),
 v = Value.int IntKind.u32 n_9 ∧
 (plainA (some (Addr.mk h'.next (plusI 0 n_2 1) none)) = true ∧ h'_6.cellsAt h'.next (plusI 0 n_2 1) 1 = some [Value.int IntKind.u32 n]) ∧
 C 346 [Value.int IntKind.u32 n_3, Value.int IntKind.i64 (-19)] h'_6 fun (v : Value) (h'_7 : Hp) =>
 ∃ (n_10 : Int),
 v = Value.int IntKind.u32 n_10 ∧
 (plainA (some (Addr.mk h'.next (plusI 0 n_2 1) none)) = true ∧ h'_7.cellsAt h'.next (plusI 0 n_2 1) 1 = some [Value.int IntKind.u32 n]) ∧
 (plainA (some (Addr.mk h'.next 0 none)) = true ∧ inR n_2 64) ∧
 plainA (some (Addr.mk h'.next (plusI 0 n_2 1) none)) = true ∧
 ∃ (h'_8 : Hp), h'_7.store h'.next (plusI 0 n_2 1) [Value.int IntKind.u32 (addW IntKind.u32 n (xorW IntKind.u32 (xorW IntKind.u32 n_9 n_10) (shrW IntKind.u32 n_3 10)))] = some h'_8 ∧ ∃ (m' : Nat), lessN m' m ∧ I [Value.int IntKind.i64 (addW IntKind.i64 n_2 1)] m' h'_8
 else
 C 347 [] h fun (v : Value) (h'_2 : Hp) =>
 ∃ (D : Nat → Int),
 v =
 Value.agg
 (Array.mk
 ((dgV .u32 64 D))) ∧
 ∀ (h'_3 : Hp),
 h'_3 =
 h'_2.alloc
 [Value.int IntKind.u32 (Int.ofNat 0), Value.int IntKind.u32 (Int.ofNat 0), Value.int IntKind.u32 (Int.ofNat 0), Value.int IntKind.u32 (Int.ofNat 0), Value.int IntKind.u32 (Int.ofNat 0), Value.int IntKind.u32 (Int.ofNat 0), Value.int IntKind.u32 (Int.ofNat 0), Value.int IntKind.u32 (Int.ofNat 0), Value.int IntKind.u32 (Int.ofNat 0),
 Value.int IntKind.u32 (Int.ofNat 0), Value.int IntKind.u32 (Int.ofNat 0), Value.int IntKind.u32 (Int.ofNat 0), Value.int IntKind.u32 (Int.ofNat 0), Value.int IntKind.u32 (Int.ofNat 0), Value.int IntKind.u32 (Int.ofNat 0), Value.int IntKind.u32 (Int.ofNat 0), Value.int IntKind.u32 (Int.ofNat 0), Value.int IntKind.u32 (Int.ofNat 0),
 Value.int IntKind.u32 (Int.ofNat 0), Value.int IntKind.u32 (Int.ofNat 0), Value.int IntKind.u32 (Int.ofNat 0), Value.int IntKind.u32 (Int.ofNat 0), Value.int IntKind.u32 (Int.ofNat 0), Value.int IntKind.u32 (Int.ofNat 0), Value.int IntKind.u32 (Int.ofNat 0), Value.int IntKind.u32 (Int.ofNat 0), Value.int IntKind.u32 (Int.ofNat 0),
 Value.int IntKind.u32 (Int.ofNat 0), Value.int IntKind.u32 (Int.ofNat 0), Value.int IntKind.u32 (Int.ofNat 0), Value.int IntKind.u32 (Int.ofNat 0), Value.int IntKind.u32 (Int.ofNat 0), Value.int IntKind.u32 (Int.ofNat 0), Value.int IntKind.u32 (Int.ofNat 0), Value.int IntKind.u32 (Int.ofNat 0), Value.int IntKind.u32 (Int.ofNat 0),
 Value.int IntKind.u32 (Int.ofNat 0), Value.int IntKind.u32 (Int.ofNat 0), Value.int IntKind.u32 (Int.ofNat 0), Value.int IntKind.u32 (Int.ofNat 0), Value.int IntKind.u32 (Int.ofNat 0), Value.int IntKind.u32 (Int.ofNat 0), Value.int IntKind.u32 (Int.ofNat 0), Value.int IntKind.u32 (Int.ofNat 0), Value.int IntKind.u32 (Int.ofNat 0),
 Value.int IntKind.u32 (Int.ofNat 0), Value.int IntKind.u32 (Int.ofNat 0), Value.int IntKind.u32 (Int.ofNat 0), Value.int IntKind.u32 (Int.ofNat 0), Value.int IntKind.u32 (Int.ofNat 0), Value.int IntKind.u32 (Int.ofNat 0), Value.int IntKind.u32 (Int.ofNat 0), Value.int IntKind.u32 (Int.ofNat 0), Value.int IntKind.u32 (Int.ofNat 0),
 Value.int IntKind.u32 (Int.ofNat 0), Value.int IntKind.u32 (Int.ofNat 0), Value.int IntKind.u32 (Int.ofNat 0), Value.int IntKind.u32 (Int.ofNat 0), Value.int IntKind.u32 (Int.ofNat 0), Value.int IntKind.u32 (Int.ofNat 0), Value.int IntKind.u32 (Int.ofNat 0), Value.int IntKind.u32 (Int.ofNat 0), Value.int IntKind.u32 (Int.ofNat 0),
 Value.int IntKind.u32 (Int.ofNat 0)]
 466 →
 plainA (some (Addr.mk h'_2.next 0 none)) = true ∧
 ∃ (h'_4 : Hp),
 h'_3.store h'_2.next 0
 ((dgV .u32 64 D)) =
 some h'_4 ∧
 (some (Addr.mk b n none)).isSome = true ∧
 ∃ (n_3 : Int),
 ∃ (n_4 : Int),
 ∃ (n_5 : Int),
 ∃ (n_6 : Int),
 ∃ (n_7 : Int),
 ∃ (n_8 : Int),
 ∃ (n_9 : Int),
 ∃ (n_10 : Int),
 (plainA (some (Addr.mk b n none)) = true ∧ h'_4.cellsAt b n 8 = some [Value.int IntKind.u32 n_3, Value.int IntKind.u32 n_4, Value.int IntKind.u32 n_5, Value.int IntKind.u32 n_6, Value.int IntKind.u32 n_7, Value.int IntKind.u32 n_8, Value.int IntKind.u32 n_9, Value.int IntKind.u32 n_10]) ∧
 ∀ (h'_5 : Hp),
 h'_5 = h'_4.alloc [Value.int IntKind.u32 (Int.ofNat 0), Value.int IntKind.u32 (Int.ofNat 0), Value.int IntKind.u32 (Int.ofNat 0), Value.int IntKind.u32 (Int.ofNat 0), Value.int IntKind.u32 (Int.ofNat 0), Value.int IntKind.u32 (Int.ofNat 0), Value.int IntKind.u32 (Int.ofNat 0), Value.int IntKind.u32 (Int.ofNat 0)] 444 →
 plainA (some (Addr.mk h'_4.next 0 none)) = true ∧
 ∃ (h'_6 : Hp),
 h'_5.store h'_4.next 0 [Value.int IntKind.u32 n_3, Value.int IntKind.u32 n_4, Value.int IntKind.u32 n_5, Value.int IntKind.u32 n_6, Value.int IntKind.u32 n_7, Value.int IntKind.u32 n_8, Value.int IntKind.u32 n_9, Value.int IntKind.u32 n_10] = some h'_6 ∧
 ∃ (I : List Value → Nat → Hp → Prop),
 (∃ (m : Nat), I [Value.int IntKind.i64 0] m h'_6) ∧
 ∀ (n_11 : Int) (m : Nat) (h : Hp),
 I [Value.int IntKind.i64 n_11] m h →
 if ltI n_11 64 = true then
 (some (Addr.mk h'_2.next 0 none)).isSome = true ∧
 (plainA (some (Addr.mk h'_2.next 0 none)) = true ∧ inR n_11 64) ∧
 ∃ (n : Int),
 (plainA (some (Addr.mk h'_2.next (plusI 0 n_11 1) none)) = true ∧ h.cellsAt h'_2.next (plusI 0 n_11 1) 1 = some [Value.int IntKind.u32 n]) ∧
 (plainA (some (Addr.mk h'_4.next 0 none)) = true ∧ inR 4 8) ∧
 ∃ (n_12 : Int),
 (plainA (some (Addr.mk h'_4.next (plusI 0 4 1) none)) = true ∧ h.cellsAt h'_4.next (plusI 0 4 1) 1 = some [Value.int IntKind.u32 n_12]) ∧
 (plainA (some (Addr.mk h'_4.next 0 none)) = true ∧ inR 7 8) ∧
 ∃ (n_13 : Int),
 (plainA (some (Addr.mk h'_4.next (plusI 0 7 1) none)) = true ∧ h.cellsAt h'_4.next (plusI 0 7 1) 1 = some [Value.int IntKind.u32 n_13]) ∧
 (plainA (some (Addr.mk h'.next 0 none)) = true ∧ inR n_11 64) ∧
 ∃ (n_14 : Int),
 (plainA (some (Addr.mk h'.next (plusI 0 n_11 1) none)) = true ∧ h.cellsAt h'.next (plusI 0 n_11 1) 1 = some [Value.int IntKind.u32 n_14]) ∧
 C 346 [Value.int IntKind.u32 n_12, Value.int IntKind.i64 (-6)] h fun (v : Value) (h' : Hp) =>
 ∃ (n_15 : Int),
 v = Value.int IntKind.u32 n_15 ∧
 C 346 [Value.int IntKind.u32 n_12, Value.int IntKind.i64 (-11)] h' fun (v : Value) (h' : Hp) =>
 ∃ (n_16 : Int),
 v = Value.int IntKind.u32 n_16 ∧
 C 346 [Value.int IntKind.u32 n_12, Value.int IntKind.i64 (-25)] h' fun (v : Value) (h' : Hp) =>
 ∃ (n_17 : Int),
 v = Value.int IntKind.u32 n_17 ∧
 (plainA (some (Addr.mk h'_4.next 0 none)) = true ∧ inR 5 8) ∧
 ∃ (n_18 : Int),
 (plainA (some (Addr.mk h'_4.next (plusI 0 5 1) none)) = true ∧ h'.cellsAt h'_4.next (plusI 0 5 1) 1 = some [Value.int IntKind.u32 n_18]) ∧
 (plainA (some (Addr.mk h'_4.next 0 none)) = true ∧ inR 6 8) ∧
 ∃ (n_19 : Int),
 (plainA (some (Addr.mk h'_4.next (plusI 0 6 1) none)) = true ∧ h'.cellsAt h'_4.next (plusI 0 6 1) 1 = some [Value.int IntKind.u32 n_19]) ∧
 (plainA (some (Addr.mk h'_4.next 0 none)) = true ∧ inR 0 8) ∧
 ∃ (n_20 : Int),
 (plainA (some (Addr.mk h'_4.next (plusI 0 0 1) none)) = true ∧ h'.cellsAt h'_4.next (plusI 0 0 1) 1 = some [Value.int IntKind.u32 n_20]) ∧
 C 346 [Value.int IntKind.u32 n_20, Value.int IntKind.i64 (-2)] h' fun (v : Value) (h' : Hp) =>
 ∃ (n_21 : Int),
 v = Value.int IntKind.u32 n_21 ∧
 C 346 [Value.int IntKind.u32 n_20, Value.int IntKind.i64 (-13)] h' fun (v : Value) (h' : Hp) =>
 ∃ (n_22 : Int),
 v = Value.int IntKind.u32 n_22 ∧
 C 346 [Value.int IntKind.u32 n_20, Value.int IntKind.i64 (-22)] h' fun (v : Value) (h' : Hp) =>
 ∃ (n_23 : Int),
 v = Value.int IntKind.u32 n_23 ∧
 (plainA (some (Addr.mk h'_4.next 0 none)) = true ∧ inR 1 8) ∧
 ∃ (n_24 : Int),
 (plainA (some (Addr.mk h'_4.next (plusI 0 1 1) none)) = true ∧ h'.cellsAt h'_4.next (plusI 0 1 1) 1 = some [Value.int IntKind.u32 n_24]) ∧
 (plainA (some (Addr.mk h'_4.next 0 none)) = true ∧ inR 2 8) ∧
 ∃ (n_25 : Int),
 (plainA (some (Addr.mk h'_4.next (plusI 0 2 1) none)) = true ∧ h'.cellsAt h'_4.next (plusI 0 2 1) 1 = some [Value.int IntKind.u32 n_25]) ∧
 (plainA (some (Addr.mk h'_4.next 0 none)) = true ∧ inR 1 8) ∧
 ∃ (n_26 : Int),
 (plainA (some (Addr.mk h'_4.next (plusI 0 1 1) none)) = true ∧ h'.cellsAt h'_4.next (plusI 0 1 1) 1 = some [Value.int IntKind.u32 n_26]) ∧
 (plainA (some (Addr.mk h'_4.next 0 none)) = true ∧ inR 2 8) ∧
 ∃ (n_27 : Int),
 (plainA (some (Addr.mk h'_4.next (plusI 0 2 1) none)) = true ∧ h'.cellsAt h'_4.next (plusI 0 2 1) 1 = some [Value.int IntKind.u32 n_27]) ∧
 (plainA (some (Addr.mk h'_4.next 0 none)) = true ∧ inR 0 8) ∧
 ∃ (n_28 : Int),
 (plainA (some (Addr.mk h'_4.next (plusI 0 0 1) none)) = true ∧ h'.cellsAt h'_4.next (plusI 0 0 1) 1 = some [Value.int IntKind.u32 n_28]) ∧
 (plainA (some (Addr.mk h'_4.next 0 none)) = true ∧ inR 1 8) ∧
 ∃ (n_29 : Int),
 (plainA (some (Addr.mk h'_4.next (plusI 0 1 1) none)) = true ∧ h'.cellsAt h'_4.next (plusI 0 1 1) 1 = some [Value.int IntKind.u32 n_29]) ∧
 (plainA (some (Addr.mk h'_4.next 0 none)) = true ∧ inR 2 8) ∧
 ∃ (n_30 : Int),
 (plainA (some (Addr.mk h'_4.next (plusI 0 2 1) none)) = true ∧ h'.cellsAt h'_4.next (plusI 0 2 1) 1 = some [Value.int IntKind.u32 n_30]) ∧
 (plainA (some (Addr.mk h'_4.next 0 none)) = true ∧ inR 3 8) ∧
 ∃ (n_31 : Int),
 (plainA (some (Addr.mk h'_4.next (plusI 0 3 1) none)) = true ∧ h'.cellsAt h'_4.next (plusI 0 3 1) 1 = some [Value.int IntKind.u32 n_31]) ∧
 (plainA (some (Addr.mk h'_4.next 0 none)) = true ∧ inR 4 8) ∧
 ∃ (n_32 : Int),
 (plainA (some (Addr.mk h'_4.next (plusI 0 4 1) none)) = true ∧ h'.cellsAt h'_4.next (plusI 0 4 1) 1 = some [Value.int IntKind.u32 n_32]) ∧
 (plainA (some (Addr.mk h'_4.next 0 none)) = true ∧ inR 5 8) ∧
 ∃ (n_33 : Int),
 (plainA (some (Addr.mk h'_4.next (plusI 0 5 1) none)) = true ∧ h'.cellsAt h'_4.next (plusI 0 5 1) 1 = some [Value.int IntKind.u32 n_33]) ∧
 (plainA (some (Addr.mk h'_4.next 0 none)) = true ∧ inR 6 8) ∧
 ∃ (n_34 : Int),
 (plainA (some (Addr.mk h'_4.next (plusI 0 6 1) none)) = true ∧ h'.cellsAt h'_4.next (plusI 0 6 1) 1 = some [Value.int IntKind.u32 n_34]) ∧
 plainA (some (Addr.mk h'_4.next 0 none)) = true ∧
 ∃ (h'_7 : Hp),
 h'.store h'_4.next 0
 [Value.int IntKind.u32
 (addW IntKind.u32
 (addW IntKind.u32 (addW IntKind.u32 (addW IntKind.u32 (addW IntKind.u32 n_13 n) n_14) (xorW IntKind.u32 (xorW IntKind.u32 n_15 n_16) n_17))
 (xorW IntKind.u32 (andW IntKind.u32 n_12 n_18) (andW IntKind.u32 (comW IntKind.u32 n_12) n_19)))
 (addW IntKind.u32 (xorW IntKind.u32 (xorW IntKind.u32 n_21 n_22) n_23)
 (xorW IntKind.u32 (xorW IntKind.u32 (andW IntKind.u32 n_20 n_24) (andW IntKind.u32 n_20 n_25)) (andW IntKind.u32 n_26 n_27)))),
 Value.int IntKind.u32 n_28, Value.int IntKind.u32 n_29, Value.int IntKind.u32 n_30,
 Value.int IntKind.u32
 (addW IntKind.u32 n_31
 (addW IntKind.u32 (addW IntKind.u32 (addW IntKind.u32 (addW IntKind.u32 n_13 n) n_14) (xorW IntKind.u32 (xorW IntKind.u32 n_15 n_16) n_17))
 (xorW IntKind.u32 (andW IntKind.u32 n_12 n_18) (andW IntKind.u32 (comW IntKind.u32 n_12) n_19)))),
 Value.int IntKind.u32 n_32, Value.int IntKind.u32 n_33, Value.int IntKind.u32 n_34] =
 some h'_7 ∧
 ∃ (m' : Nat), lessN m' m ∧ I [Value.int IntKind.i64 (addW IntKind.i64 n_11 1)] m' h'_7
 else
 ∃ (I : List Value → Nat → Hp → Prop),
 (∃ (m : Nat), I [Value.int IntKind.i64 0] m h) ∧
 ∀ (n_12 : Int) (m : Nat) (h : Hp),
 I [Value.int IntKind.i64 n_12] m h →
 if ltI n_12 8 = true then
 (some (Addr.mk b n none)).isSome = true ∧
 (plainA (some (Addr.mk b n none)) = true ∧ inR n_12 8) ∧
 ∃ (n_13 : Int),
 (plainA (some (Addr.mk b (plusI n n_12 1) none)) = true ∧ h.cellsAt b (plusI n n_12 1) 1 = some [Value.int IntKind.u32 n_13]) ∧
 (plainA (some (Addr.mk h'_4.next 0 none)) = true ∧ inR n_12 8) ∧
 ∃ (n_14 : Int),
 (plainA (some (Addr.mk h'_4.next (plusI 0 n_12 1) none)) = true ∧ h.cellsAt h'_4.next (plusI 0 n_12 1) 1 = some [Value.int IntKind.u32 n_14]) ∧
 (some (Addr.mk b n none)).isSome = true ∧
 (plainA (some (Addr.mk b n none)) = true ∧ inR n_12 8) ∧
 plainA (some (Addr.mk b (plusI n n_12 1) none)) = true ∧ ∃ (h' : Hp), h.store b (plusI n n_12 1) [Value.int IntKind.u32 (addW IntKind.u32 n_13 n_14)] = some h' ∧ ∃ (m' : Nat), lessN m' m ∧ I [Value.int IntKind.i64 (addW IntKind.i64 n_12 1)] m' h'
 else K (Value.tuple (Array.mk [])) h) := by kernel_rfl

def shp_266 : Nat → List (Tmp × TypeId) := fun i => []
theorem vc_266 (C : FuncId → List Value → Hp → (Value → Hp → Prop) → Prop) (b : Nat) (h : Hp) (K : Value → Hp → Prop) : vBody Tryz.prog C pf shp_266 Tryz.f320 (Tryz.f320.body.getD .skip) [.pointer (some ⟨b, 0, none⟩)] h K = (
 (notB (isN (some (Addr.mk b 0 none))) = true → (some (Addr.mk b 0 none)).isSome = true) ∧ (notB (isN (some (Addr.mk b 0 none))) = true → plainA (some (Addr.mk b 0 none)) = true) ∧ ∃ (b_1 : Bool), (notB (isN (some (Addr.mk b 0 none))) = true → plainA (some (Addr.mk b 0 none)) = true ∧ h.cellsAt b 0 1 = some [Value.bool b_1]) ∧ K (Value.bool (sel (isN (some (Addr.mk b 0 none))) true (notB b_1))) h) := by kernel_rfl

def shp_257 : Nat → List (Tmp × TypeId) := fun i => []
theorem vc_257 (C : FuncId → List Value → Hp → (Value → Hp → Prop) → Prop)  (h : Hp) (K : Value → Hp → Prop) : vBody Tryz.prog C pf shp_257 Tryz.f287 (Tryz.f287.body.getD .skip) [] h K = (
 C 319 [] h fun (v : Value) (h' : Hp) =>
 ∃ (n : Int),
 ∃ (n_1 : Int),
 ∃ (n_2 : Int),
 ∃ (n_3 : Int),
 ∃ (n_4 : Int),
 ∃ (n_5 : Int),
 ∃ (n_6 : Int),
 ∃ (n_7 : Int),
 v = Value.agg (Array.mk [Value.int IntKind.u32 n, Value.int IntKind.u32 n_1, Value.int IntKind.u32 n_2, Value.int IntKind.u32 n_3, Value.int IntKind.u32 n_4, Value.int IntKind.u32 n_5, Value.int IntKind.u32 n_6, Value.int IntKind.u32 n_7]) ∧
 ∀ (h'_1 : Hp),
 h'_1 = h'.alloc [Value.bool true, Value.int IntKind.u32 n, Value.int IntKind.u32 n_1, Value.int IntKind.u32 n_2, Value.int IntKind.u32 n_3, Value.int IntKind.u32 n_4, Value.int IntKind.u32 n_5, Value.int IntKind.u32 n_6, Value.int IntKind.u32 n_7, Value.slice none 0 0, Value.int IntKind.i64 (Int.ofNat 0)] 447 → K (Value.pointer (some (Addr.mk h'.next 0 none))) h'_1) := by kernel_rfl

def shp_258 : Nat → List (Tmp × TypeId) := fun i => if i = 2 then [(11, 3)] else if i = 5 then [(5, 9)] else []
theorem vc_258 (C : FuncId → List Value → Hp → (Value → Hp → Prop) → Prop) (b : Nat) (a : Option Addr) (l c : Nat) (h : Hp) (K : Value → Hp → Prop) : vBody Tryz.prog C pf shp_258 Tryz.f288 (Tryz.f288.body.getD .skip) [.pointer (some ⟨b, 0, none⟩), .slice a l c] h K = (
 C 320 [Value.pointer (some (Addr.mk b 0 none))] h fun (v : Value) (h' : Hp) =>
 ∃ (b_1 : Bool),
 v = Value.bool b_1 ∧
 if b_1 = true then K (Value.tuple (Array.mk [])) h'
 else
 ∃ (I : List Value → Nat → Hp → Prop),
 (∃ (m : Nat), I [Value.int IntKind.i64 0] m h') ∧
 ∀ (n : Int) (m : Nat) (h : Hp),
 I [Value.int IntKind.i64 n] m h →
 if ltI n (natI l) = true then
 (a.isSome = true ∧ inR n l) ∧
 ∃ (s : ByteArray),
 (plainA (some (Addr.mk (blk a) (plusI (off a) n 1) none)) = true ∧ h.cellsAt (blk a) (plusI (off a) n 1) 1 = some [Value.string s]) ∧
 (some (Addr.mk b 0 none)).isSome = true ∧
 plainA (some (Addr.mk b 0 none)) = true ∧
 ∃ (n_1 : Int),
 (plainA (some (Addr.mk b 10 none)) = true ∧ h.cellsAt b 10 1 = some [Value.int IntKind.i64 n_1]) ∧
 (some (Addr.mk b 0 none)).isSome = true ∧
 plainA (some (Addr.mk b 0 none)) = true ∧
 plainA (some (Addr.mk b 10 none)) = true ∧
 ∃ (h' : Hp),
 h.store b 10 [Value.int IntKind.i64 (addW IntKind.i64 n_1 (natI (lenS s)))] = some h' ∧
 ∃ (I_1 : List Value → Nat → Hp → Prop),
 (∃ (m : Nat), I_1 [Value.string s] m h') ∧
 ∀ (s : ByteArray) (m_1 : Nat) (h : Hp),
 I_1 [Value.string s] m_1 h →
 if gtI (natI (lenS s)) 0 = true then
 (some (Addr.mk b 0 none)).isSome = true ∧
 plainA (some (Addr.mk b 0 none)) = true ∧
 ∃ (a : Option Addr),
 ∃ (l : Nat),
 ∃ (c : Nat),
 (plainA (some (Addr.mk b 9 none)) = true ∧ h.cellsAt b 9 1 = some [Value.slice a l c]) ∧
 (some (Addr.mk b 0 none)).isSome = true ∧
 plainA (some (Addr.mk b 0 none)) = true ∧
 ∃ (a : Option Addr),
 ∃ (l_1 : Nat),
 ∃ (c : Nat),
 (plainA (some (Addr.mk b 9 none)) = true ∧ h.cellsAt b 9 1 = some [Value.slice a l_1 c]) ∧
 subOk s 0 (minI (subW IntKind.i64 64 (natI l)) (natI (lenS s))) ∧
 ∃ (a_2 : Option Addr),
 ∃ (m : Nat),
 ∃ (n : Nat),
 ∃ (h' : Hp),
 cappend Tryz.prog 200 9 (Value.slice a l_1 c) (Value.string (strSub s 0 (minI (subW IntKind.i64 64 (natI l)) (natI (lenS s))))) h = some (Value.slice a_2 m n, h') ∧
 (some (Addr.mk b 0 none)).isSome = true ∧
 plainA (some (Addr.mk b 0 none)) = true ∧
 plainA (some (Addr.mk b 9 none)) = true ∧
 ∃ (h'_1 : Hp),
 h'.store b 9 [Value.slice a_2 m n] = some h'_1 ∧
 subOk s (minI (subW IntKind.i64 64 (natI l)) (natI (lenS s))) (natI (lenS s)) ∧
 (some (Addr.mk b 0 none)).isSome = true ∧
 plainA (some (Addr.mk b 0 none)) = true ∧
 ∃ (a : Option Addr),
 ∃ (l_2 : Nat),
 ∃ (c : Nat),
 (plainA (some (Addr.mk b 9 none)) = true ∧ h'_1.cellsAt b 9 1 = some [Value.slice a l_2 c]) ∧
 if eqI (natI l_2) 64 = true then
 (some (Addr.mk b 0 none)).isSome = true ∧
 plainA (some (Addr.mk b 0 none)) = true ∧
 (some (Addr.mk b 0 none)).isSome = true ∧
 plainA (some (Addr.mk b 0 none)) = true ∧
 ∃ (a : Option Addr),
 ∃ (l_3 : Nat),
 ∃ (c : Nat),
 (plainA (some (Addr.mk b 9 none)) = true ∧ h'_1.cellsAt b 9 1 = some [Value.slice a l_3 c]) ∧
 (a.isSome = true ∧ leN 64 l_3) ∧
 ∃ (D : Nat → Int),
 (plainA (some (Addr.mk (blk a) (off a) none)) = true ∧
 h'_1.cellsAt (blk a) (off a) 64 =
 some
 ((dgV .u8 64 D))) ∧
 C 321
 [Value.pointer (some (Addr.mk b 1 none)),
 Value.agg
 (Array.mk
 ((dgV .u8 64 D)))]
 h'_1 fun (v : Value) (h' : Hp) =>
 v = Value.tuple (Array.mk []) ∧
 (some (Addr.mk b 0 none)).isSome = true ∧
 plainA (some (Addr.mk b 0 none)) = true ∧
 ∃ (a : Option Addr),
 ∃ (l_4 : Nat),
 ∃ (c : Nat),
 (plainA (some (Addr.mk b 9 none)) = true ∧ h'.cellsAt b 9 1 = some [Value.slice a l_4 c]) ∧
 (cutOk 0 0 (natI c) (natI c) ∧ spotOk 1 a) ∧
 (some (Addr.mk b 0 none)).isSome = true ∧
 plainA (some (Addr.mk b 0 none)) = true ∧
 plainA (some (Addr.mk b 9 none)) = true ∧
 ∃ (h'_2 : Hp), h'.store b 9 [Value.slice (cutA 0 1 a) (diffN 0 0) (diffN (natI c) 0)] = some h'_2 ∧ ∃ (m' : Nat), lessN m' m_1 ∧ I_1 [Value.string (strSub s (minI (subW IntKind.i64 64 (natI l)) (natI (lenS s))) (natI (lenS s)))] m' h'_2
 else ∃ (m' : Nat), lessN m' m_1 ∧ I_1 [Value.string (strSub s (minI (subW IntKind.i64 64 (natI l)) (natI (lenS s))) (natI (lenS s)))] m' h'_1
 else ∃ (m' : Nat), lessN m' m ∧ I [Value.int IntKind.i64 (addW IntKind.i64 n 1)] m' h
 else K (Value.tuple (Array.mk [])) h) := by kernel_rfl

def shp_259 : Nat → List (Tmp × TypeId) := fun i => if i = 7 then [(5, 200)] else if i = 11 then [(5, 200), (7, 3)] else if i = 14 then [(5, 200)] else if i = 18 then [(61, 3)] else if i = 21 then [(65, 3)] else []
theorem vc_259 (C : FuncId → List Value → Hp → (Value → Hp → Prop) → Prop) (b : Nat) (h : Hp) (K : Value → Hp → Prop) : vBody Tryz.prog C pf shp_259 Tryz.f289 (Tryz.f289.body.getD .skip) [.pointer (some ⟨b, 0, none⟩)] h K = (
 ∀ (h' : Hp),
 h' =
 h.alloc
 [Value.int IntKind.u8 (Int.ofNat 0), Value.int IntKind.u8 (Int.ofNat 0), Value.int IntKind.u8 (Int.ofNat 0), Value.int IntKind.u8 (Int.ofNat 0), Value.int IntKind.u8 (Int.ofNat 0), Value.int IntKind.u8 (Int.ofNat 0), Value.int IntKind.u8 (Int.ofNat 0), Value.int IntKind.u8 (Int.ofNat 0), Value.int IntKind.u8 (Int.ofNat 0), Value.int IntKind.u8 (Int.ofNat 0),
 Value.int IntKind.u8 (Int.ofNat 0), Value.int IntKind.u8 (Int.ofNat 0), Value.int IntKind.u8 (Int.ofNat 0), Value.int IntKind.u8 (Int.ofNat 0), Value.int IntKind.u8 (Int.ofNat 0), Value.int IntKind.u8 (Int.ofNat 0), Value.int IntKind.u8 (Int.ofNat 0), Value.int IntKind.u8 (Int.ofNat 0), Value.int IntKind.u8 (Int.ofNat 0), Value.int IntKind.u8 (Int.ofNat 0),
 Value.int IntKind.u8 (Int.ofNat 0), Value.int IntKind.u8 (Int.ofNat 0), Value.int IntKind.u8 (Int.ofNat 0), Value.int IntKind.u8 (Int.ofNat 0), Value.int IntKind.u8 (Int.ofNat 0), Value.int IntKind.u8 (Int.ofNat 0), Value.int IntKind.u8 (Int.ofNat 0), Value.int IntKind.u8 (Int.ofNat 0), Value.int IntKind.u8 (Int.ofNat 0), Value.int IntKind.u8 (Int.ofNat 0),
 Value.int IntKind.u8 (Int.ofNat 0), Value.int IntKind.u8 (Int.ofNat 0)]
 38 →
 ∀ (h'_1 : Hp),
 h'_1 =
 h'.alloc
 [Value.int IntKind.u8 (Int.ofNat 0), Value.int IntKind.u8 (Int.ofNat 0), Value.int IntKind.u8 (Int.ofNat 0), Value.int IntKind.u8 (Int.ofNat 0), Value.int IntKind.u8 (Int.ofNat 0), Value.int IntKind.u8 (Int.ofNat 0), Value.int IntKind.u8 (Int.ofNat 0), Value.int IntKind.u8 (Int.ofNat 0), Value.int IntKind.u8 (Int.ofNat 0), Value.int IntKind.u8 (Int.ofNat 0),
 Value.int IntKind.u8 (Int.ofNat 0), Value.int IntKind.u8 (Int.ofNat 0), Value.int IntKind.u8 (Int.ofNat 0), Value.int IntKind.u8 (Int.ofNat 0), Value.int IntKind.u8 (Int.ofNat 0), Value.int IntKind.u8 (Int.ofNat 0), Value.int IntKind.u8 (Int.ofNat 0), Value.int IntKind.u8 (Int.ofNat 0), Value.int IntKind.u8 (Int.ofNat 0), Value.int IntKind.u8 (Int.ofNat 0),
 Value.int IntKind.u8 (Int.ofNat 0), Value.int IntKind.u8 (Int.ofNat 0), Value.int IntKind.u8 (Int.ofNat 0), Value.int IntKind.u8 (Int.ofNat 0), Value.int IntKind.u8 (Int.ofNat 0), Value.int IntKind.u8 (Int.ofNat 0), Value.int IntKind.u8 (Int.ofNat 0), Value.int IntKind.u8 (Int.ofNat 0), Value.int IntKind.u8 (Int.ofNat 0), Value.int IntKind.u8 (Int.ofNat 0),
 Value.int IntKind.u8 (Int.ofNat 0), Value.int IntKind.u8 (Int.ofNat 0)]
 38 →
 C 320 [Value.pointer (some (Addr.mk b 0 none))] h'_1 fun (v : Value) (h'_2 : Hp) =>
 ∃ (b_1 : Bool),
 v = Value.bool b_1 ∧
 if b_1 = true then
 ∃ (D : Nat → Int),
 (plainA (some (Addr.mk h'.next 0 none)) = true ∧
 h'_2.cellsAt h'.next 0 32 =
 some
 ((dgV .u8 32 D))) ∧
 plainA (some (Addr.mk h.next 0 none)) = true ∧
 ∃ (h' : Hp),
 h'_2.store h.next 0
 ((dgV .u8 32 D)) =
 some h' ∧
 ∃ (D : Nat → Int),
 (plainA (some (Addr.mk h.next 0 none)) = true ∧
 h'.cellsAt h.next 0 32 =
 some
 ((dgV .u8 32 D))) ∧
 K
 (Value.agg
 (Array.mk
 ((dgV .u8 32 D))))
 h'
 else
 (some (Addr.mk b 0 none)).isSome = true ∧
 plainA (some (Addr.mk b 0 none)) = true ∧
 ∃ (n : Int),
 ∃ (n_1 : Int),
 ∃ (n_2 : Int),
 ∃ (n_3 : Int),
 ∃ (n_4 : Int),
 ∃ (n_5 : Int),
 ∃ (n_6 : Int),
 ∃ (n_7 : Int),
 (plainA (some (Addr.mk b 1 none)) = true ∧ h'_2.cellsAt b 1 8 = some [Value.int IntKind.u32 n, Value.int IntKind.u32 n_1, Value.int IntKind.u32 n_2, Value.int IntKind.u32 n_3, Value.int IntKind.u32 n_4, Value.int IntKind.u32 n_5, Value.int IntKind.u32 n_6, Value.int IntKind.u32 n_7]) ∧
 ∀ (h'_3 : Hp),
 h'_3 = h'_2.alloc [Value.int IntKind.u32 (Int.ofNat 0), Value.int IntKind.u32 (Int.ofNat 0), Value.int IntKind.u32 (Int.ofNat 0), Value.int IntKind.u32 (Int.ofNat 0), Value.int IntKind.u32 (Int.ofNat 0), Value.int IntKind.u32 (Int.ofNat 0), Value.int IntKind.u32 (Int.ofNat 0), Value.int IntKind.u32 (Int.ofNat 0)] 444 →
 plainA (some (Addr.mk h'_2.next 0 none)) = true ∧
 ∃ (h'_4 : Hp),
 h'_3.store h'_2.next 0 [Value.int IntKind.u32 n, Value.int IntKind.u32 n_1, Value.int IntKind.u32 n_2, Value.int IntKind.u32 n_3, Value.int IntKind.u32 n_4, Value.int IntKind.u32 n_5, Value.int IntKind.u32 n_6, Value.int IntKind.u32 n_7] = some h'_4 ∧
 (some (Addr.mk b 0 none)).isSome = true ∧
 plainA (some (Addr.mk b 0 none)) = true ∧
 ∃ (a : Option Addr),
 ∃ (l : Nat),
 ∃ (c : Nat),
 (plainA (some (Addr.mk b 9 none)) = true ∧ h'_4.cellsAt b 9 1 = some [Value.slice a l c]) ∧
 ∃ (a_1 : Option Addr),
 ∃ (m : Nat),
 ∃ (n : Nat),
 ∃ (h'_5 : Hp),
 cappend Tryz.prog 200 200 (Value.slice none 0 0) (Value.slice a l c) h'_4 = some (Value.slice a_1 m n, h'_5) ∧
 ∀ (h'_6 : Hp),
 h'_6 = h'_5.alloc [Value.int IntKind.u8 128] 5 →
 ∃ (a : Option Addr),
 ∃ (m_1 : Nat),
 ∃ (n_8 : Nat),
 ∃ (h'_7 : Hp),
 cappend Tryz.prog 200 200 (Value.slice a_1 m n) (Value.slice (some (Addr.mk h'_5.next 0 none)) 1 1) h'_6 = some (Value.slice a m_1 n_8, h'_7) ∧
 ∃ (I : List Value → Nat → Hp → Prop),
 (∃ (m : Nat), I [Value.slice a m_1 n_8] m h'_7) ∧
 ∀ (a : Option Addr) (l c m : Nat) (h_1 : Hp),
 I [Value.slice a l c] m h_1 →
 nonzero 64 ∧
 if neI (remW (natI l) 64) 56 = true then
 ∀ (h' : Hp),
 h' = h_1.alloc [Value.int IntKind.u8 0] 5 →
 ∃ (a_4 : Option Addr), ∃ (m_2 : Nat), ∃ (n : Nat), ∃ (h'_8 : Hp), cappend Tryz.prog 200 200 (Value.slice a l c) (Value.slice (some (Addr.mk h_1.next 0 none)) 1 1) h' = some (Value.slice a_4 m_2 n, h'_8) ∧ ∃ (m' : Nat), lessN m' m ∧ I [Value.slice a_4 m_2 n] m' h'_8
 else
 (some (Addr.mk b 0 none)).isSome = true ∧
 plainA (some (Addr.mk b 0 none)) = true ∧
 ∃ (n : Int),
 (plainA (some (Addr.mk b 10 none)) = true ∧ h_1.cellsAt b 10 1 = some [Value.int IntKind.i64 n]) ∧
 ∃ (I : List Value → Nat → Hp → Prop),
 (∃ (m : Nat), I [Value.slice a l c, Value.int IntKind.i64 56] m h_1) ∧
 ∀ (a : Option Addr) (l c : Nat) (n_9 : Int) (m : Nat) (h_2 : Hp),
 I [Value.slice a l c, Value.int IntKind.i64 n_9] m h_2 →
 if geI n_9 0 = true then
 nonneg n_9 ∧
 ∀ (h' : Hp),
 h' = h_2.alloc [Value.int IntKind.u8 (toW IntKind.u8 (shrW IntKind.u64 (mulW IntKind.u64 (toW IntKind.u64 n) 8) n_9))] 5 →
 ∃ (a_5 : Option Addr),
 ∃ (m_2 : Nat),
 ∃ (n : Nat), ∃ (h'_8 : Hp), cappend Tryz.prog 200 200 (Value.slice a l c) (Value.slice (some (Addr.mk h_2.next 0 none)) 1 1) h' = some (Value.slice a_5 m_2 n, h'_8) ∧ ∃ (m' : Nat), lessN m' m ∧ I [Value.slice a_5 m_2 n, Value.int IntKind.i64 (subW IntKind.i64 n_9 8)] m' h'_8
 else
 ∃ (I : List Value → Nat → Hp → Prop),
 (∃ (m : Nat), I [Value.slice a l c] m h_2) ∧
 ∀ (a : Option Addr) (l c m : Nat) (h_3 : Hp),
 I [Value.slice a l c] m h_3 →
 if gtI (natI l) 0 = true then
 (cutOk 0 64 (natI c) (natI c) ∧ spotOk 1 a) ∧
 ((cutA 0 1 a).isSome = true ∧ leN 64 (diffN 64 0)) ∧
 ∃ (D : Nat → Int),
 (plainA (some (Addr.mk (blk (cutA 0 1 a)) (off (cutA 0 1 a)) none)) = true ∧
 h_3.cellsAt (blk (cutA 0 1 a)) (off (cutA 0 1 a)) 64 =
 some
 ((dgV .u8 64 D))) ∧
 C 321
 [Value.pointer (some (Addr.mk h'_2.next 0 none)),
 Value.agg
 (Array.mk
 ((dgV .u8 64 D)))]
 h_3 fun (v : Value) (h' : Hp) => v = Value.tuple (Array.mk []) ∧ (cutOk 64 (natI l) (natI c) (natI c) ∧ spotOk 1 a) ∧ ∃ (m' : Nat), lessN m' m ∧ I [Value.slice (cutA 64 1 a) (diffN (natI l) 64) (diffN (natI c) 64)] m' h'
 else
 ∃ (n : Int),
 ∃ (n_10 : Int),
 ∃ (n_11 : Int),
 ∃ (n_12 : Int),
 ∃ (n_13 : Int),
 ∃ (n_14 : Int),
 ∃ (n_15 : Int),
 ∃ (n_16 : Int),
 (plainA (some (Addr.mk h'_2.next 0 none)) = true ∧
 h_3.cellsAt h'_2.next 0 8 =
 some [Value.int IntKind.u32 n, Value.int IntKind.u32 n_10, Value.int IntKind.u32 n_11, Value.int IntKind.u32 n_12, Value.int IntKind.u32 n_13, Value.int IntKind.u32 n_14, Value.int IntKind.u32 n_15, Value.int IntKind.u32 n_16]) ∧
 ∃ (I : List Value → Nat → Hp → Prop),
 (∃ (m : Nat), I [Value.int IntKind.i64 0] m h_3) ∧
 ∀ (n_17 : Int) (m : Nat) (h_4 : Hp),
 I [Value.int IntKind.i64 n_17] m h_4 →
 if ltI n_17 8 = true then
 (inR n_17 8 ∧
 isNth IntKind.u32
 (Array.mk [Value.int IntKind.u32 n, Value.int IntKind.u32 n_10, Value.int IntKind.u32 n_11, Value.int IntKind.u32 n_12, Value.int IntKind.u32 n_13, Value.int IntKind.u32 n_14, Value.int IntKind.u32 n_15, Value.int IntKind.u32 n_16]) n_17) ∧
 ∃ (I_1 : List Value → Nat → Hp → Prop),
 (∃ (m : Nat), I_1 [Value.int IntKind.i64 0] m h_4) ∧
 ∀ (n_18 : Int) (m_2 : Nat) (h : Hp),
 I_1 [Value.int IntKind.i64 n_18] m_2 h →
 if ltI n_18 4 = true then
 nonneg (subW IntKind.i64 24 (mulW IntKind.i64 8 n_18)) ∧
 (plainA (some (Addr.mk h'.next 0 none)) = true ∧ inR (addW IntKind.i64 (mulW IntKind.i64 4 n_17) n_18) 32) ∧
 plainA (some (Addr.mk h'.next (plusI 0 (addW IntKind.i64 (mulW IntKind.i64 4 n_17) n_18) 1) none)) = true ∧
 ∃ (h'_8 : Hp),
 h.store h'.next (plusI 0 (addW IntKind.i64 (mulW IntKind.i64 4 n_17) n_18) 1)
 [Value.int IntKind.u8
 (toW IntKind.u8
 (shrW IntKind.u32
 (nthI
 (Array.mk
 [Value.int IntKind.u32 n, Value.int IntKind.u32 n_10, Value.int IntKind.u32 n_11, Value.int IntKind.u32 n_12, Value.int IntKind.u32 n_13, Value.int IntKind.u32 n_14, Value.int IntKind.u32 n_15,
 Value.int IntKind.u32 n_16])
 n_17)
 (subW IntKind.i64 24 (mulW IntKind.i64 8 n_18))))] =
 some h'_8 ∧
 ∃ (m' : Nat), lessN m' m_2 ∧ I_1 [Value.int IntKind.i64 (addW IntKind.i64 n_18 1)] m' h'_8
 else ∃ (m' : Nat), lessN m' m ∧ I [Value.int IntKind.i64 (addW IntKind.i64 n_17 1)] m' h
 else
 ∃ (D : Nat → Int),
 (plainA (some (Addr.mk h'.next 0 none)) = true ∧
 h_4.cellsAt h'.next 0 32 =
 some
 ((dgV .u8 32 D))) ∧
 plainA (some (Addr.mk h.next 0 none)) = true ∧
 ∃ (h' : Hp),
 h_4.store h.next 0
 ((dgV .u8 32 D)) =
 some h' ∧
 ∃ (D : Nat → Int),
 (plainA (some (Addr.mk h.next 0 none)) = true ∧
 h'.cellsAt h.next 0 32 =
 some
 ((dgV .u8 32 D))) ∧
 K
 (Value.agg
 (Array.mk
 ((dgV .u8 32 D))))
 h') := by kernel_rfl

def shp_244 : Nat → List (Tmp × TypeId) := fun i => []
theorem vc_244 (C : FuncId → List Value → Hp → (Value → Hp → Prop) → Prop) (s : ByteArray) (h : Hp) (K : Value → Hp → Prop) : vBody Tryz.prog C pf shp_244 Tryz.f238 (Tryz.f238.body.getD .skip) [.string s] h K = (
 ∀ (h' : Hp),
 h' =
 h.alloc
 [Value.int IntKind.u8 (Int.ofNat 0), Value.int IntKind.u8 (Int.ofNat 0), Value.int IntKind.u8 (Int.ofNat 0), Value.int IntKind.u8 (Int.ofNat 0), Value.int IntKind.u8 (Int.ofNat 0), Value.int IntKind.u8 (Int.ofNat 0), Value.int IntKind.u8 (Int.ofNat 0), Value.int IntKind.u8 (Int.ofNat 0), Value.int IntKind.u8 (Int.ofNat 0), Value.int IntKind.u8 (Int.ofNat 0),
 Value.int IntKind.u8 (Int.ofNat 0), Value.int IntKind.u8 (Int.ofNat 0), Value.int IntKind.u8 (Int.ofNat 0), Value.int IntKind.u8 (Int.ofNat 0), Value.int IntKind.u8 (Int.ofNat 0), Value.int IntKind.u8 (Int.ofNat 0), Value.int IntKind.u8 (Int.ofNat 0), Value.int IntKind.u8 (Int.ofNat 0), Value.int IntKind.u8 (Int.ofNat 0), Value.int IntKind.u8 (Int.ofNat 0),
 Value.int IntKind.u8 (Int.ofNat 0), Value.int IntKind.u8 (Int.ofNat 0), Value.int IntKind.u8 (Int.ofNat 0), Value.int IntKind.u8 (Int.ofNat 0), Value.int IntKind.u8 (Int.ofNat 0), Value.int IntKind.u8 (Int.ofNat 0), Value.int IntKind.u8 (Int.ofNat 0), Value.int IntKind.u8 (Int.ofNat 0), Value.int IntKind.u8 (Int.ofNat 0), Value.int IntKind.u8 (Int.ofNat 0),
 Value.int IntKind.u8 (Int.ofNat 0), Value.int IntKind.u8 (Int.ofNat 0)]
 38 →
 C 287 [] h' fun (v : Value) (h' : Hp) =>
 ∃ (a : Option Addr),
 v = Value.pointer a ∧
 ∀ (h'_1 : Hp),
 h'_1 = h'.alloc [Value.string s] 9 →
 C 288 [Value.pointer a, Value.slice (some (Addr.mk h'.next 0 none)) 1 1] h'_1 fun (v : Value) (h' : Hp) =>
 v = Value.tuple (Array.mk []) ∧
 C 289 [Value.pointer a] h' fun (v : Value) (h' : Hp) =>
 ∃ (D : Nat → Int),
 v =
 Value.agg
 (Array.mk
 ((dgV .u8 32 D))) ∧
 plainA (some (Addr.mk h.next 0 none)) = true ∧
 ∃ (h'_2 : Hp),
 h'.store h.next 0
 ((dgV .u8 32 D)) =
 some h'_2 ∧
 ∃ (D : Nat → Int),
 (plainA (some (Addr.mk h.next 0 none)) = true ∧
 h'_2.cellsAt h.next 0 32 =
 some
 ((dgV .u8 32 D))) ∧
 K
 (Value.agg
 (Array.mk
 ((dgV .u8 32 D))))
 h'_2) := by kernel_rfl

def shp_301 : Nat → List (Tmp × TypeId) := fun i => if i = 2 then [(0, 60), (9, 3)] else if i = 6 then [(0, 60), (18, 3)] else []
theorem vc_301 (C : FuncId → List Value → Hp → (Value → Hp → Prop) → Prop) (r : Int) (s : ByteArray) (h : Hp) (K : Value → Hp → Prop) : vBody Tryz.prog C pf shp_301 Tryz.f280 (Tryz.f280.body.getD .skip) [.int .u32 r, .string s] h K = (
 ∃ (I : List Value → Nat → Hp → Prop),
 (∃ (m : Nat), I [Value.int IntKind.u32 r, Value.int IntKind.i64 0] m h) ∧
 ∀ (n n_1 : Int) (m : Nat) (h : Hp),
 I [Value.int IntKind.u32 n, Value.int IntKind.i64 n_1] m h →
 if ltI n_1 (natI (lenS s)) = true then
 inR n_1 (lenS s) ∧
 ∃ (I_1 : List Value → Nat → Hp → Prop),
 (∃ (m : Nat), I_1 [Value.int IntKind.u32 (xorW IntKind.u32 n (toW IntKind.u32 (byteAt s n_1))), Value.int IntKind.i64 0] m h) ∧
 ∀ (n n_2 : Int) (m_1 : Nat) (h : Hp),
 I_1 [Value.int IntKind.u32 n, Value.int IntKind.i64 n_2] m_1 h →
 if ltI n_2 8 = true then nonneg 1 ∧ if eqI (andW IntKind.u32 n 1) 1 = true then ∃ (m' : Nat), lessN m' m_1 ∧ I_1 [Value.int IntKind.u32 (xorW IntKind.u32 (shrW IntKind.u32 n 1) 3988292384), Value.int IntKind.i64 (addW IntKind.i64 n_2 1)] m' h else ∃ (m' : Nat), lessN m' m_1 ∧ I_1 [Value.int IntKind.u32 (shrW IntKind.u32 n 1), Value.int IntKind.i64 (addW IntKind.i64 n_2 1)] m' h
 else ∃ (m' : Nat), lessN m' m ∧ I [Value.int IntKind.u32 n, Value.int IntKind.i64 (addW IntKind.i64 n_1 1)] m' h
 else K (Value.int IntKind.u32 n) h) := by kernel_rfl
end Go.Proofs.YtlodmlmlmkcpkaaGreatDoor.vc

/- Contracts of the reference's sha256: words turned, and the padding. -/
set_option linter.unusedVariables false
namespace Go.Proofs.YtlodmlmlmkcpkaaGreatDoor.sb
open Go Go.Cn Go.Cn.Sha Go.Proofs Go.Proofs.YtlodmlmlmkcpkaaGreatDoor.vc

abbrev C := SCalls Tryz.prog
theorem fol : Tryz.prog.follows .mixedOrders = true := by kernel_rfl

/-- Numbers as cells. -/
def u8 (n : Nat) : Value := .int .u8 n
def u32 (n : Nat) : Value := .int .u32 n
def bytes8 (s : ByteArray) : List Nat := s.data.toList.map UInt8.toNat

theorem byteCells_eq (s : ByteArray) : byteCells s = (bytes8 s).map u8 := by
  unfold byteCells bytes8
  simp [u8, List.map_map, Function.comp]

theorem app201 : AppT Tryz.prog 200 200 5 1 1 := AppT.of _ (by kernel_rfl)

/-- append of one element to a slice that fills its block (it may be empty). -/
theorem full_append1 {h h1 : Hp} (wf : Wf h) {t xt elem e : TypeId} {w bytes l b g : Nat} (ht : AppT Tryz.prog t xt elem w bytes) {S : Nat → Prop} (hS : ∀ g, h.next ≤ g → S g) {cs : List Value} (hb : Blk h b (some g) cs) (hl : cs.length = l * w) (hg : S g)
    {new : List Value} (he : h1 = h.alloc new e) (hnl : new.length = w) (hv : new.all isCell = true) (hr : roomy (l + 1) bytes = true) :
    ∃ a' h', cappend Tryz.prog t xt (.slice (some ⟨b, 0, some w⟩) l l) (.slice (some ⟨h.next, 0, none⟩) 1 1) h1 = some (.slice a' (l + 1) (l + 1), h') ∧ Bd h' w S a' (l + 1) (l + 1) (cs ++ new) ∧ Keep S h h' ∧ Wf h' := by
  by_cases h0 : 0 < l
  · exact Bd.append1 wf ht hS (.inr ⟨b, g, rfl, hg, rfl, h0, hl, hb⟩) he hnl hv hr
  · have : l = 0 := by omega
    subst this
    subst he
    have hd := one_data wf hnl e
    have k := alloc_keep wf new e
    have wf1 := alloc_wf wf new e
    have hb1 := Kept.blk k hb
    rw [cappend_eq ht (Nat.le_refl _) hd (by omega) hr]
    simp only [Nat.zero_mul] at hl
    obtain ⟨h', x1, x2, x3, x4, x5, x6⟩ := hb1.extend wf1 (o := 0) (e := 0) (new := new) (Nat.le_refl _) (Nat.zero_le _) hv
    have hcs : cs = [] := List.eq_nil_of_length_eq_zero hl
    subst hcs
    refine ⟨some ⟨(h.alloc new e).next, 0, some w⟩, h', ?_, .inr ⟨_, g, rfl, hg, rfl, by omega, by simp [hnl], by simpa using x2⟩, ?_, x6⟩
    · simp only [Nat.zero_mul, Nat.zero_add, if_true]
      rw [if_neg (by omega), if_neg (by omega)]
      rw [x1]
      rfl
    · exact (k.mono wf (S' := S) fun _ _ hf => hf.elim).trans wf x4 fun x _ hx => by rw [hx]; exact hg

theorem isCell_u8 (l : List Nat) : (l.map u8).all isCell = true := by simp [u8, isCell]
theorem isCell_u32 (l : List Nat) : (l.map u32).all isCell = true := by simp [u32, isCell]

theorem lenBytes_take (n j : Nat) (hj : j < 8) : (lenBytes n).take (j + 1) = (lenBytes n).take j ++ [((n * 8) % 18446744073709551616) >>> (56 - 8 * j) % 256] := by
  match j, hj with
  | 0, _ | 1, _ | 2, _ | 3, _ | 4, _ | 5, _ | 6, _ | 7, _ => rfl

theorem rem64 (l : Nat) : remW (natI l) 64 = ((l % 64 : Nat) : Int) := by
  unfold remW natI
  rw [Int.tmod_eq_emod_of_nonneg (Int.natCast_nonneg _)]
  omega

theorem mul8 (n : Nat) : mulW .u64 (toW .u64 (n : Int)) 8 = ((n * 8 % 18446744073709551616 : Nat) : Int) := by
  unfold mulW toW
  rw [wrap_u64]
  have : (((n % 18446744073709551616 : Nat) : Int) * 8) = ((n % 18446744073709551616 * 8 : Nat) : Int) := (Int.natCast_mul _ 8).symm
  rw [this, wrap_u64, Nat.mod_mul_mod]
end Go.Proofs.YtlodmlmlmkcpkaaGreatDoor.sb

/- Contract of the reference's block of sha256. -/
set_option linter.unusedVariables false
namespace Go.Proofs.YtlodmlmlmkcpkaaGreatDoor.sb
open Go Go.Cn Go.Cn.Sha Go.Proofs Go.Proofs.YtlodmlmlmkcpkaaGreatDoor.vc

theorem flat_map {f : Nat → Value} : ∀ L : List Nat, L.map f = L.flatMap fun n => [f n]
  | [] => rfl
  | x :: L => by simp [flat_map L]

theorem rdx {f : Nat → Value} {h : Hp} {g : Option Nat} {a : Option Addr} {l c : Nat} {L : List Nat} (s : SlT (fun n => [f n]) 1 h g a l c L) {i x : Nat} (hx : L[i]? = some x) :
    (a.isSome = true ∧ inR (i : Int) l) ∧ (plainA (some (Addr.mk (blk a) (plusI (off a) (i : Int) 1) none)) = true ∧ h.cellsAt (blk a) (plusI (off a) (i : Int) 1) 1 = some [f x]) := by
  have hr := SlT.get (enc := fun n => [f n]) (w := 1) (fun _ => rfl) s hx (j := 0) (m := 1) (Nat.le_refl 1)
  have hi : i < l := by rw [← s.len]; exact (List.getElem?_eq_some_iff.1 hx).1
  exact ⟨⟨hr.1, Int.natCast_nonneg _, Int.ofNat_lt.2 hi⟩, rfl, hr.2.trans rfl⟩

abbrev SL8 (h : Hp) (g : Option Nat) (a : Option Addr) (l c : Nat) (L : List Nat) : Prop := SlT (fun n => [u8 n]) 1 h g a l c L
abbrev SL32 (h : Hp) (g : Option Nat) (a : Option Addr) (l c : Nat) (L : List Nat) : Prop := SlT (fun n => [u32 n]) 1 h g a l c L

theorem bd_sl {f : Nat → Value} {h : Hp} {S : Nat → Prop} {a : Option Addr} {l c : Nat} {L : List Nat} (s : Bd h 1 S a l c (L.map f)) (hl : L.length = l) : ∃ g : Option Nat, SlT (fun n => [f n]) 1 h g a l c L := by
  rw [flat_map] at s
  obtain ⟨g, _, s⟩ := s.slT hl
  exact ⟨g, s⟩

theorem words_get : ∀ (i : Nat) (bs : List Nat) {b0 b1 b2 b3 : Nat}, bs[4 * i]? = some b0 → bs[4 * i + 1]? = some b1 → bs[4 * i + 2]? = some b2 → bs[4 * i + 3]? = some b3 → (words bs)[i]? = some (word b0 b1 b2 b3)
  | i, [], b0, b1, b2, b3, h0, h1, h2, h3 => by simp at h3
  | i, [a], b0, b1, b2, b3, h0, h1, h2, h3 => by simp at h3
  | i, [a, b], b0, b1, b2, b3, h0, h1, h2, h3 => by simp at h3
  | i, [a, b, c], b0, b1, b2, b3, h0, h1, h2, h3 => by simp at h3
  | 0, a :: b :: c :: d :: r, b0, b1, b2, b3, h0, h1, h2, h3 => by
    simp at h0 h1 h2 h3
    subst h0 h1 h2 h3
    rfl
  | i + 1, a :: b :: c :: d :: r, b0, b1, b2, b3, h0, h1, h2, h3 => by
    simp only [words, List.getElem?_cons_succ]
    refine words_get i r ?_ ?_ ?_ ?_
    · rw [show 4 * (i + 1) = 4 * i + 4 by omega] at h0; simpa using h0
    · rw [show 4 * (i + 1) + 1 = 4 * i + 1 + 4 by omega] at h1; simpa using h1
    · rw [show 4 * (i + 1) + 2 = 4 * i + 2 + 4 by omega] at h2; simpa using h2
    · rw [show 4 * (i + 1) + 3 = 4 * i + 3 + 4 by omega] at h3; simpa using h3

theorem words_len : ∀ (n : Nat) (bs : List Nat), bs.length = 4 * n → (words bs).length = n
  | 0, bs, h => by
    have : bs = [] := List.eq_nil_of_length_eq_zero (by omega)
    subst this; rfl
  | n + 1, a :: b :: c :: d :: r, h => by simp only [words, List.length_cons] at h ⊢; rw [words_len n r (by omega)]
  | n + 1, [], h => by simp at h
  | n + 1, [a], h => by simp only [List.length_cons, List.length_nil] at h; omega
  | n + 1, [a, b], h => by simp only [List.length_cons, List.length_nil] at h; omega
  | n + 1, [a, b, c], h => by simp only [List.length_cons, List.length_nil] at h; omega

theorem w_byte {a : Nat} (h : a < 256) : W32 a := by unfold W32; omega
theorem w_word {a b c d : Nat} (h : d < 256) : W32 (word a b c d) := (((W32.mod _).or (.mod _)).or (.mod _)).or (w_byte h)

theorem words_ok : ∀ (n : Nat) (bs : List Nat), bs.length = 4 * n → (∀ b ∈ bs, b < 256) → ∀ w ∈ words bs, W32 w
  | 0, bs, h, hb, w, hw => by
    have : bs = [] := List.eq_nil_of_length_eq_zero (by omega)
    subst this; simp [words] at hw
  | n + 1, a :: b :: c :: d :: r, h, hb, w, hw => by
    simp only [words, List.mem_cons] at hw
    rcases hw with rfl | hw
    · exact w_word (hb d (by simp))
    · exact words_ok n r (by simp only [List.length_cons] at h; omega) (fun x hx => hb x (by simp [hx])) w hw
  | n + 1, [], h, hb, w, hw => by simp at h
  | n + 1, [a], h, hb, w, hw => by simp [words] at hw
  | n + 1, [a, b], h, hb, w, hw => by simp [words] at hw
  | n + 1, [a, b, c], h, hb, w, hw => by simp [words] at hw

theorem word_eq {a b c d : Nat} (ha : a < 256) (hb : b < 256) (hc : c < 256) (hd : d < 256) : orW .u32 (orW .u32 (orW .u32 (shlW .u32 (toW .u32 (a : Int)) 24) (shlW .u32 (toW .u32 (b : Int)) 16)) (shlW .u32 (toW .u32 (c : Int)) 8)) (toW .u32 (d : Int)) = ((word a b c d : Nat) : Int) := by
  have e : ∀ {x : Nat}, x < 256 → toW .u32 (x : Int) = (x : Int) := fun hx => by unfold toW; rw [wrap_u32, Nat.mod_eq_of_lt (by omega)]
  rw [e ha, e hb, e hc, e hd]
  have s1 := shlW_u32 a 24 (by omega)
  have s2 := shlW_u32 b 16 (by omega)
  have s3 := shlW_u32 c 8 (by omega)
  simp only [Int.cast_ofNat_Int] at s1 s2 s3
  rw [s1, s2, s3, orW_u32 (.mod _) (.mod _), orW_u32 ((W32.mod _).or (.mod _)) (.mod _), orW_u32 (((W32.mod _).or (.mod _)).or (.mod _)) (w_byte hd)]
  rfl

theorem plan_len : ∀ (n : Nat) (r : List Nat), (plan n r).length = n + r.length
  | 0, r => by simp [plan]
  | n + 1, r => by simp only [plan, plan_len n, List.length_cons]; omega
theorem plan_ok : ∀ (n : Nat) (r : List Nat), (∀ w ∈ r, W32 w) → ∀ w ∈ plan n r, W32 w
  | 0, r, h => h
  | n + 1, r, h => plan_ok n _ fun w hw => by
    rcases List.mem_cons.1 hw with rfl | hw
    · exact .add _ _
    · exact h w hw

theorem rev_get {r : List Nat} {k : Nat} (hk : k < r.length) : r.reverse[r.length - 1 - k]? = some (r.getD k 0) := by
  rw [List.getElem?_reverse (by omega), show r.length - 1 - (r.length - 1 - k) = k by omega, List.getD_eq_getElem?_getD, List.getElem?_eq_getElem hk]
  rfl

theorem getD_ok {r : List Nat} (h : ∀ w ∈ r, W32 w) (k : Nat) : W32 (r.getD k 0) := by
  rw [List.getD_eq_getElem?_getD]
  cases hq : r[k]? with
  | none => exact (by unfold W32; simp)
  | some x => exact h x (List.mem_of_getElem? hq)

theorem s0_eq {x : Nat} (hx : W32 x) : xorW .u32 (xorW .u32 ((rot 7 x : Nat) : Int) ((rot 18 x : Nat) : Int)) (shrW .u32 (x : Int) 3) = ((s0 x : Nat) : Int) := by
  have := shrW_nat .u32 x 3 (by decide)
  simp only [Int.cast_ofNat_Int] at this
  rw [this, xorW_u32 (hx.rot _) (hx.rot _), xorW_u32 ((hx.rot _).xor (hx.rot _)) (hx.shr _)]
  rfl
theorem s1_eq {x : Nat} (hx : W32 x) : xorW .u32 (xorW .u32 ((rot 17 x : Nat) : Int) ((rot 19 x : Nat) : Int)) (shrW .u32 (x : Int) 10) = ((s1 x : Nat) : Int) := by
  have := shrW_nat .u32 x 10 (by decide)
  simp only [Int.cast_ofNat_Int] at this
  rw [this, xorW_u32 (hx.rot _) (hx.rot _), xorW_u32 ((hx.rot _).xor (hx.rot _)) (hx.shr _)]
  rfl
theorem x3_eq {a b c x : Nat} (hx : W32 x) : xorW .u32 (xorW .u32 ((rot a x : Nat) : Int) ((rot b x : Nat) : Int)) ((rot c x : Nat) : Int) = (((rot a x ^^^ rot b x) ^^^ rot c x : Nat) : Int) := by
  rw [xorW_u32 (hx.rot _) (hx.rot _), xorW_u32 ((hx.rot _).xor (hx.rot _)) (hx.rot _)]
theorem ch_eq {e f g : Nat} (he : W32 e) (hf : W32 f) (hg : W32 g) : xorW .u32 (andW .u32 (e : Int) (f : Int)) (andW .u32 (comW .u32 (e : Int)) (g : Int)) = ((ch e f g : Nat) : Int) := by
  rw [comW_u32 he, andW_u32 he hf, andW_u32 he.com hg, xorW_u32 (.and hf) (.and hg)]
  rfl
theorem maj_eq {a b c : Nat} (ha : W32 a) (hb : W32 b) (hc : W32 c) : xorW .u32 (xorW .u32 (andW .u32 (a : Int) (b : Int)) (andW .u32 (a : Int) (c : Int))) (andW .u32 (b : Int) (c : Int)) = ((maj a b c : Nat) : Int) := by
  rw [andW_u32 ha hb, andW_u32 ha hc, andW_u32 hb hc, xorW_u32 (.and hb) (.and hc), xorW_u32 ((W32.and hb).xor (.and hc)) (.and hc)]
  rfl

theorem mul4 {i : Nat} (hi : i < 16) : mulW .i64 4 (i : Int) = ((4 * i : Nat) : Int) := by
  unfold mulW
  have := addW_small (a := ((4 * i : Nat) : Int)) (b := 0) (by omega) (by omega)
  unfold addW at this
  rw [show (4 * (i : Int)) = ((4 * i : Nat) : Int) by omega]
  simpa using this
theorem addN {a : Nat} (b : Nat) (h : a + b < 4294967296) : addW .i64 (a : Int) (b : Int) = ((a + b : Nat) : Int) := by
  rw [addW_small (by omega) (by omega)]; omega
theorem subN {a b : Nat} (h : b ≤ a) (ha : a < 4294967296) : subW .i64 (a : Int) (b : Int) = ((a - b : Nat) : Int) := by
  rw [subW_small (by omega) (by omega)]; omega

end Go.Proofs.YtlodmlmlmkcpkaaGreatDoor.sb

/- Contract of the reference's block of sha256 (2). -/
set_option linter.unusedVariables false
namespace Go.Proofs.YtlodmlmlmkcpkaaGreatDoor.sb
open Go Go.Cn Go.Cn.Sha Go.Proofs Go.Proofs.YtlodmlmlmkcpkaaGreatDoor.vc

/-- The round's state, and what goes on. -/
def W8 (s : St) : Prop := W32 s.a ∧ W32 s.b ∧ W32 s.c ∧ W32 s.d ∧ W32 s.e ∧ W32 s.f ∧ W32 s.g ∧ W32 s.h

theorem W8.round {s : St} (h : W8 s) (k w : Nat) : W8 (round s k w) := ⟨.add _ _, h.1, h.2.1, h.2.2.1, .add _ _, h.2.2.2.2.1, h.2.2.2.2.2.1, h.2.2.2.2.2.2.1⟩
theorem rounds_ok : ∀ (ks ws : List Nat) {s : St}, W8 s → W8 (rounds ks ws s)
  | [], _, s, h => by simpa [rounds] using h
  | k :: ks, [], s, h => by simpa [rounds] using h
  | k :: ks, w :: ws, s, h => rounds_ok ks ws (h.round k w)

theorem of_to {hs : List Nat} (h : hs.length = 8) : ofSt (toSt hs) = hs := by
  match hs, h with
  | [a, b, c, d, e, f, g, x], _ => rfl
theorem to_ok {hs : List Nat} (h : hs.length = 8) (hw : ∀ w ∈ hs, W32 w) : W8 (toSt hs) := by
  match hs, h with
  | [a, b, c, d, e, f, g, x], _ => exact ⟨hw a (by simp), hw b (by simp), hw c (by simp), hw d (by simp), hw e (by simp), hw f (by simp), hw g (by simp), hw x (by simp)⟩

theorem zip_take {xs ys : List Nat} {i a b : Nat} (ha : xs[i]? = some a) (hb : ys[i]? = some b) : (List.zipWith add xs ys).take (i + 1) = (List.zipWith add xs ys).take i ++ [add a b] := by
  rw [List.take_add_one, List.getElem?_zipWith, ha, hb]
  rfl

theorem drop_get {L : List Nat} {t k : Nat} (h : L[t]? = some k) : L.drop t = k :: L.drop (t + 1) := by
  obtain ⟨hi, hx⟩ := List.getElem?_eq_some_iff.1 h
  rw [List.drop_eq_getElem_cons hi, hx]

theorem K_len : K.length = 64 := rfl

/-- The words of a block's plan. -/
def wplan (bs : List Nat) : List Nat := (plan 48 (words bs).reverse).reverse
end Go.Proofs.YtlodmlmlmkcpkaaGreatDoor.sb

/- Contracts of the reference's sha256: the table, the sum by a table. -/
set_option linter.unusedVariables false
namespace Go.Proofs.YtlodmlmlmkcpkaaGreatDoor.sb
open Go Go.Cn Go.Cn.Sha Go.Proofs Go.Proofs.YtlodmlmlmkcpkaaGreatDoor.vc

theorem new_sl {f : Nat → Value} {h h1 : Hp} (wf : Wf h) {L : List Nat} {e : TypeId} (he : h1 = h.alloc (L.map f) e) {l : Nat} (hl : L.length = l) : SlT (fun n => [f n]) 1 h1 (some h.next) (some ⟨h.next, 0, none⟩) l l L := by
  obtain ⟨b1, k1, n1, wf1⟩ := new_blk wf he
  refine ⟨⟨Nat.le_refl _, by rw [← flat_map]; simp [hl], .inl rfl, fun _ => ⟨_, b1, by simp [hl], ?_⟩⟩, hl⟩
  rw [List.drop_zero, List.take_of_length_le (by simp [hl]), flat_map]

theorem H0_map : H0.map u32 = [Value.int .u32 1779033703, .int .u32 3144134277, .int .u32 1013904242, .int .u32 2773480762, .int .u32 1359893119, .int .u32 2600822924, .int .u32 528734635, .int .u32 1541459225] := rfl

theorem cut_sl {f : Nat → Value} {h : Hp} {g : Option Nat} {a : Option Addr} {l c : Nat} {L : List Nat} (s : SlT (fun n => [f n]) 1 h g a l c L) {i k : Nat} (hi : i + k ≤ l) : SlT (fun n => [f n]) 1 h g (cutA (i : Int) 1 a) k (c - i) ((L.drop i).take k) := by
  have hl := s.len
  have hlc := s.sl.le
  have hm := s.sl.mem
  have hk : ((L.drop i).take k).length = k := by rw [List.length_take, List.length_drop]; omega
  refine ⟨⟨by omega, by rw [← flat_map, List.length_map, hk, Nat.mul_one], ?_⟩, hk⟩
  rw [← flat_map] at hm ⊢
  cases a with
  | none => simp only [cutA, Option.map_none] at hm ⊢; omega
  | some q =>
    obtain ⟨b, o, sp⟩ := q
    simp only [cutA, Option.map_some, Int.toNat_natCast, Nat.mul_one] at hm ⊢
    refine ⟨hm.1, fun h0 => ?_⟩
    obtain ⟨CS, hb, hc, hx⟩ := hm.2 (by omega)
    refine ⟨CS, hb, by omega, ?_⟩
    rw [take_drop_sub hx hi, List.map_take, List.map_drop]

theorem lenBytes_ok (n : Nat) : ∀ b ∈ lenBytes n, b < 256 := by
  intro b hb
  simp only [lenBytes, List.mem_map] at hb
  obtain ⟨s, _, rfl⟩ := hb
  exact Nat.mod_lt _ (by decide)
theorem pad_ok {bs : List Nat} (h : ∀ b ∈ bs, b < 256) : ∀ b ∈ pad bs, b < 256 := by
  intro b hb
  simp only [pad, List.mem_append, List.mem_cons, List.mem_replicate] at hb
  rcases hb with hb | rfl | hb | hb
  · exact h b hb
  · decide
  · omega
  · exact lenBytes_ok _ b hb
theorem pad_len (bs : List Nat) : ∃ n, (pad bs).length = 64 * n := by
  have hl8 : (lenBytes bs.length).length = 8 := rfl
  refine ⟨(bs.length + 1 + zeros bs.length + 8) / 64, ?_⟩
  unfold pad
  simp only [List.length_append, List.length_cons, List.length_replicate, hl8]
  unfold zeros
  omega
theorem bytes8_ok (s : ByteArray) : ∀ b ∈ bytes8 s, b < 256 := by
  intro b hb
  simp only [bytes8, List.mem_map] at hb
  obtain ⟨x, _, rfl⟩ := hb
  exact x.toNat_lt

theorem block_ok (hs bs : List Nat) : ∀ w ∈ block hs bs, W32 w := by
  intro w hw
  unfold block at hw
  obtain ⟨i, hi, rfl⟩ := List.getElem_of_mem hw
  rw [List.getElem_zipWith]
  exact .add _ _
theorem block_len {hs bs : List Nat} (h : hs.length = 8) : (block hs bs).length = 8 := by
  unfold block
  rw [List.length_zipWith, h]
  rfl
theorem H0_ok : ∀ w ∈ H0, W32 w := by
  intro w hw
  simp only [H0, List.mem_cons, List.not_mem_nil, or_false] at hw
  unfold W32
  omega

theorem out_get {H : List Nat} : ∀ {i w : Nat} {H : List Nat}, H[i / 4]? = some w → ((H.map outBytes).flatten)[i]? = some ((w >>> (24 - 8 * (i % 4))) % 256)
  | i, w, [], h => by simp at h
  | i, w, x :: H, h => by
    by_cases hi : i < 4
    · have : i / 4 = 0 := by omega
      rw [this] at h
      simp at h
      subst h
      match i, hi with
      | 0, _ | 1, _ | 2, _ | 3, _ => rfl
    · rw [show i / 4 = (i - 4) / 4 + 1 by omega, List.getElem?_cons_succ] at h
      have ih := out_get (H := []) h
      rw [show i % 4 = (i - 4) % 4 by omega, ← ih]
      simp only [List.map_cons, List.flatten_cons]
      rw [List.getElem?_append_right (by show 4 ≤ i; omega)]
      rfl

end Go.Proofs.YtlodmlmlmkcpkaaGreatDoor.sb

/- Contracts of the reference's sha256: the sum. -/
set_option linter.unusedVariables false
namespace Go.Proofs.YtlodmlmlmkcpkaaGreatDoor.sb
open Go Go.Cn Go.Cn.Sha Go.Proofs Go.Proofs.YtlodmlmlmkcpkaaGreatDoor.vc

theorem blocks_ok : ∀ (n : Nat) {hs bs : List Nat}, hs.length = 8 → (∀ w ∈ hs, W32 w) → (blocks n hs bs).length = 8 ∧ ∀ w ∈ blocks n hs bs, W32 w
  | 0, hs, bs, h, hw => ⟨h, hw⟩
  | n + 1, hs, bs, h, hw => blocks_ok n (block_len h) (block_ok hs _)

theorem fill_step {L : List Nat} {i x : Nat} (hx : L[i]? = some x) (n : Nat) (hn : L.length = n) : ((L.take i ++ List.replicate (n - i) 0).map u8).set i (u8 x) = (L.take (i + 1) ++ List.replicate (n - (i + 1)) 0).map u8 := by
  have hi : i < L.length := (List.getElem?_eq_some_iff.1 hx).1
  have hx' := (List.getElem?_eq_some_iff.1 hx).2
  rw [show n - i = (n - (i + 1)) + 1 by omega, List.replicate_succ]
  have hl : ((L.take i).map u8).length = i := by simp; omega
  rw [List.map_append, List.set_append_right _ _ (by omega), hl, Nat.sub_self, List.take_add_one, hx]
  simp [List.map_append]

theorem quo4 {i : Nat} (hi : i < 32) : quoW .i64 (i : Int) 4 = ((i / 4 : Nat) : Int) := by
  unfold quoW
  rw [Int.tdiv_eq_ediv_of_nonneg (Int.natCast_nonneg _)]
  have := addW_small (a := ((i / 4 : Nat) : Int)) (b := 0) (by omega) (by omega)
  unfold addW at this
  rw [show ((i : Int) / 4) = ((i / 4 : Nat) : Int) by omega]
  simpa using this
theorem sh4 {i : Nat} (hi : i < 32) : toW .u64 (subW .i64 24 (mulW .i64 8 (remW (i : Int) 4))) = ((24 - 8 * (i % 4) : Nat) : Int) := by
  have e1 : remW (i : Int) 4 = ((i % 4 : Nat) : Int) := by unfold remW; rw [Int.tmod_eq_emod_of_nonneg (Int.natCast_nonneg _)]; omega
  have e2 : mulW .i64 8 ((i % 4 : Nat) : Int) = ((8 * (i % 4) : Nat) : Int) := by
    unfold mulW
    have := addW_small (a := ((8 * (i % 4) : Nat) : Int)) (b := 0) (by omega) (by omega)
    unfold addW at this
    rw [show (8 * ((i % 4 : Nat) : Int)) = ((8 * (i % 4) : Nat) : Int) by omega]
    simpa using this
  have e3 : subW .i64 24 ((8 * (i % 4) : Nat) : Int) = ((24 - 8 * (i % 4) : Nat) : Int) := subN (a := 24) (by omega) (by omega)
  rw [e1, e2, e3]
  unfold toW
  rw [wrap_u64, Nat.mod_eq_of_lt (by omega)]
end Go.Proofs.YtlodmlmlmkcpkaaGreatDoor.sb

/- Contract of the reference's sha256. -/
set_option linter.unusedVariables false
namespace Go.Proofs.YtlodmlmlmkcpkaaGreatDoor.sb
open Go Go.Cn Go.Cn.Sha Go.Proofs Go.Proofs.YtlodmlmlmkcpkaaGreatDoor.vc

theorem stay_of {h h' : Hp} (k : Kept h h') : Stay h h' := by
  refine ⟨fun b cs t g hb hl => ?_, fun b o h1 h2 => k.oth b o h1 h2 id⟩
  cases g with
  | none => exact ⟨k.ro _ _ _ hb, rfl⟩
  | some g =>
    obtain ⟨h1, h2⟩ := k.rw _ _ _ _ hb id
    refine ⟨h1, ?_⟩
    simpa [Hp.live, h2] using hl

theorem sum_len (bs : List Nat) : (sum bs).length = 32 := by
  have hl := (blocks_ok ((pad bs).length / 64) (bs := pad bs) (hs := H0) rfl H0_ok).1
  unfold sum
  generalize blocks ((pad bs).length / 64) H0 (pad bs) = cur at hl
  match cur, hl with
  | [a, b, c, d, e, f, g, x], _ => rfl

theorem plain_arr : ∀ (l : List Value), (∀ v ∈ l, plainV 99 v = true) → plainV 100 (.agg l.toArray) = true := by
  intro l h
  show l.toArray.toList.all (plainV 99) = true
  simpa using h

/-- A sum as a value. -/
def sumV (s : ByteArray) : Value := .agg ((sum (bytes8 s)).map u8).toArray
theorem sumV_plain (s : ByteArray) : plainV 100 (sumV s) = true := by
  refine plain_arr _ fun v hv => ?_
  simp only [List.mem_map] at hv
  obtain ⟨x, _, rfl⟩ := hv
  rfl
end Go.Proofs.YtlodmlmlmkcpkaaGreatDoor.sb

/- Contracts of the program's own sha256 (1): words turned, the constants. -/
set_option linter.unusedVariables false
namespace Go.Proofs.YtlodmlmlmkcpkaaGreatDoor.sb
open Go Go.Cn Go.Cn.Sha Go.Proofs Go.Proofs.YtlodmlmlmkcpkaaGreatDoor.vc

theorem mask31 : ∀ k : Fin 31, andW .u64 (toW .u64 (-((k.val + 1 : Nat) : Int))) 31 = ((31 - k.val : Nat) : Int) := by decide +kernel

theorem c270 {x k : Nat} (hx : W32 x) (h0 : 0 < k) (h1 : k < 32) (h : Hp) : C 346 [.int .u32 x, .int .i64 (-(k : Int))] h fun v h' => v = .int .u32 (rot k x : Nat) ∧ h' = h := by
  refine SCalls_of_vw fol (pf := pf) (shp := shp_270) (f := 346) (fn := Tryz.f346) (by kernel_rfl) (c := Tryz.f346.body.getD .skip) (by kernel_rfl) (by kernel_rfl) fun wf => ?_
  rw [vc_270]
  have e1 : andW .u64 (toW .u64 (-(k : Int))) 31 = ((32 - k : Nat) : Int) := by
    have := mask31 ⟨k - 1, by omega⟩
    simp only at this
    rw [show k - 1 + 1 = k by omega, show 31 - (k - 1) = 32 - k by omega] at this
    exact this
  have e2 : subW .u64 32 ((32 - k : Nat) : Int) = (k : Int) := by
    unfold subW
    rw [show (32 - ((32 - k : Nat) : Int)) = (k : Int) by omega, wrap_u64, Nat.mod_eq_of_lt (by omega)]
  rw [e1, e2, shlW_u32 _ _ (by omega), shrW_nat _ _ _ (show k ≤ 32 by omega), orW_u32 (.mod _) (hx.shr k), Nat.or_comm]
  exact ⟨Int.natCast_nonneg _, Int.natCast_nonneg _, rfl, rfl⟩

theorem add_assoc (a b c : Nat) : add (add a b) c = add a (add b c) := by unfold add; omega
theorem add_comm (a b : Nat) : add a b = add b a := by unfold add; omega

theorem c271 (h : Hp) : C 347 [] h fun v h' => v = .agg (K.map u32).toArray ∧ Kept h h' := by
  refine SCalls_of_vw fol (pf := pf) (shp := shp_271) (f := 347) (fn := Tryz.f347) (by kernel_rfl) (c := Tryz.f347.body.getD .skip) (by kernel_rfl) (by kernel_rfl) fun wf => ?_
  rw [vc_271]
  intro h1 e1
  obtain ⟨b1, k1, n1, wf1⟩ := new_blk wf e1
  obtain ⟨h4, y1, y2, y3, y4, y5, y6⟩ := set_blk wf1 b1 k1 wf (Nat.le_refl _) (vs := K.map u32) rfl rfl
  exact ⟨rfl, h4, y1, (fun i => ((Sha.K.getD i 0 : Nat) : Int)), ⟨rfl, (y2.cells (Nat.le_of_ble_eq_true rfl)).trans rfl⟩, rfl, y3⟩

theorem wnext_eq (r : List Nat) : add (add (add (r.getD 15 0) (r.getD 6 0)) (s0 (r.getD 14 0))) (s1 (r.getD 1 0)) = wnext r := by
  unfold wnext
  congr 1
  rw [add_assoc, add_comm (r.getD 6 0), ← add_assoc]

theorem round_eq (s : St) (k w : Nat) : (⟨add (add (add (add (add s.h k) w) (S1 s.e)) (ch s.e s.f s.g)) (add (S0 s.a) (maj s.a s.b s.c)), s.a, s.b, s.c, add s.d (add (add (add (add s.h k) w) (S1 s.e)) (ch s.e s.f s.g)), s.e, s.f, s.g⟩ : St) = round s k w := by
  have e : add (add (add (add s.h k) w) (S1 s.e)) (ch s.e s.f s.g) = t1 s k w := by
    unfold t1
    unfold add
    omega
  rw [e]
  unfold round
  congr 1
  rw [add_assoc]

end Go.Proofs.YtlodmlmlmkcpkaaGreatDoor.sb

/- Contracts of the program's own sha256 (2): its constants at the start, reads and stores of an array's elements. -/
set_option linter.unusedVariables false
namespace Go.Proofs.YtlodmlmlmkcpkaaGreatDoor.sb
open Go Go.Cn Go.Cn.Sha Go.Proofs Go.Proofs.YtlodmlmlmkcpkaaGreatDoor.vc

theorem c265 (h : Hp) : C 319 [] h fun v h' => v = .agg (H0.map u32).toArray ∧ Kept h h' := by
  refine SCalls_of_vw fol (pf := pf) (shp := shp_265) (f := 319) (fn := Tryz.f319) (by kernel_rfl) (c := Tryz.f319.body.getD .skip) (by kernel_rfl) (by kernel_rfl) fun wf => ?_
  rw [vc_265]
  intro h1 e1
  obtain ⟨b1, k1, n1, wf1⟩ := new_blk wf e1
  obtain ⟨h4, y1, y2, y3, y4, y5, y6⟩ := set_blk wf1 b1 k1 wf (Nat.le_refl _) (vs := H0.map u32) rfl rfl
  exact ⟨rfl, h4, y1, _, _, _, _, _, _, _, _, ⟨rfl, (y2.cells (Nat.le_of_ble_eq_true rfl)).trans rfl⟩, rfl, y3⟩

/-- An element of an array that is a block of its own. -/
theorem rdb {f : Nat → Value} {h : Hp} {b : Nat} {g : Option Nat} {L : List Nat} (hb : Blk h b g (L.map f)) {i x : Nat} (hx : L[i]? = some x) {l : Nat} (hl : L.length = l) :
    (plainA (some (Addr.mk b 0 none)) = true ∧ inR (i : Int) l) ∧ (plainA (some (Addr.mk b (plusI 0 (i : Int) 1) none)) = true ∧ h.cellsAt b (plusI 0 (i : Int) 1) 1 = some [f x]) := by
  have hi : i < l := by rw [← hl]; exact (List.getElem?_eq_some_iff.1 hx).1
  have hp : plusI 0 (i : Int) 1 = i := by simp [plusI]
  refine ⟨⟨rfl, Int.natCast_nonneg _, Int.ofNat_lt.2 hi⟩, rfl, ?_⟩
  rw [hp]
  exact hb.one (by rw [List.getElem?_map, hx]; rfl)

/-- A store of an element. -/
theorem wrb {f : Nat → Value} {h : Hp} {b g : Nat} {L : List Nat} (hb : Blk h b (some g) (L.map f)) {i : Nat} (hi : i < L.length) {x : Nat} (hf : isCell (f x) = true) :
    ∃ h', h.store b (plusI 0 (i : Int) 1) [f x] = some h' ∧ Blk h' b (some g) ((L.set i x).map f) ∧ Keep (· = g) h h' ∧ h'.next = h.next ∧ (Wf h → Wf h') := by
  have hp : plusI 0 (i : Int) 1 = i := by simp [plusI]
  rw [hp, List.map_set]
  exact hb.set (by simpa using hi) hf

end Go.Proofs.YtlodmlmlmkcpkaaGreatDoor.sb

/- Contracts of the program's own sha256 (3): a new hash; is it dead? -/
set_option linter.unusedVariables false
namespace Go.Proofs.YtlodmlmlmkcpkaaGreatDoor.sb
open Go Go.Cn Go.Cn.Sha Go.Proofs Go.Proofs.YtlodmlmlmkcpkaaGreatDoor.vc

/-- A hash's cells: its state, what waits, how much was written. -/
def hcells (hs : List Nat) (a : Option Addr) (l c n : Nat) : List Value := .bool true :: (hs.map u32 ++ [.slice a l c, .int .i64 (n : Int)])

theorem c266 {h : Hp} {b : Nat} {g : Option Nat} {CS : List Value} (hb : Blk h b g (.bool true :: CS)) : C 320 [.pointer (some ⟨b, 0, none⟩)] h fun v h' => v = .bool false ∧ h' = h := by
  refine SCalls_of_vw fol (pf := pf) (shp := shp_266) (f := 320) (fn := Tryz.f320) (by kernel_rfl) (c := Tryz.f320.body.getD .skip) (by kernel_rfl) (by kernel_rfl) fun wf => ?_
  rw [vc_266]
  refine ⟨fun _ => rfl, fun _ => rfl, true, fun _ => ⟨rfl, hb.one rfl⟩, rfl, rfl⟩

theorem c257 (h : Hp) : C 287 [] h fun v h' => ∃ b, v = .pointer (some ⟨b, 0, none⟩) ∧ h.next ≤ b ∧ Blk h' b (some b) (hcells H0 none 0 0 0) ∧ Kept h h' := by
  refine SCalls_of_vw fol (pf := pf) (shp := shp_257) (f := 287) (fn := Tryz.f287) (by kernel_rfl) (c := Tryz.f287.body.getD .skip) (by kernel_rfl) (by kernel_rfl) fun wf => ?_
  rw [vc_257]
  refine (c265 h).wf fun v h1 wf1 hn ⟨e, k1⟩ => ?_
  refine ⟨_, _, _, _, _, _, _, _, e.trans rfl, ?_⟩
  intro h2 e2
  obtain ⟨b1, k2, n1, wf2⟩ := new_blk wf1 e2
  exact ⟨h1.next, rfl, hn, b1, k1.trans wf k2 fun _ _ hf => hf⟩

end Go.Proofs.YtlodmlmlmkcpkaaGreatDoor.sb

/- Contracts of the program's own sha256 (4): rows that are filled, for its block. -/
set_option linter.unusedVariables false
namespace Go.Proofs.YtlodmlmlmkcpkaaGreatDoor.sb
open Go Go.Cn Go.Cn.Sha Go.Proofs Go.Proofs.YtlodmlmlmkcpkaaGreatDoor.vc

theorem mid_set {A Z : List Nat} {x y : Nat} : (A ++ x :: Z).set A.length y = A ++ y :: Z := by
  rw [List.set_append_right _ _ (Nat.le_refl _), Nat.sub_self]
  rfl
theorem mid_get {A Z : List Nat} {x : Nat} : (A ++ x :: Z)[A.length]? = some x := by
  rw [List.getElem?_append_right (Nat.le_refl _), Nat.sub_self]
  rfl
theorem zeros_cons {n i : Nat} (h : i < n) : List.replicate (n - i) 0 = 0 :: List.replicate (n - (i + 1)) 0 := by
  rw [show n - i = (n - (i + 1)) + 1 by omega, List.replicate_succ]

/-- The turned words of a plan and of a round, as the program turns them. -/
theorem t7 {x : Nat} (hx : W32 x) (h : Hp) : C 346 [.int .u32 x, .int .i64 (-7)] h fun v h' => v = .int .u32 (rot 7 x : Nat) ∧ h' = h := c270 hx (k := 7) (by omega) (by omega) h

theorem words_row {bs : List Nat} {i w : Nat} (hw : (words bs)[i]? = some w) (hl : (words bs).length = 16) : (((words bs).take i ++ List.replicate (64 - i) 0).set i w) = (words bs).take (i + 1) ++ List.replicate (64 - (i + 1)) 0 := by
  have hi : i < 16 := by rw [← hl]; exact (List.getElem?_eq_some_iff.1 hw).1
  have ht : ((words bs).take i).length = i := by rw [List.length_take]; omega
  rw [zeros_cons (by omega)]
  have := mid_set (A := (words bs).take i) (Z := List.replicate (64 - (i + 1)) 0) (x := 0) (y := w)
  rw [ht] at this
  rw [this, List.take_add_one, hw]
  simp

end Go.Proofs.YtlodmlmlmkcpkaaGreatDoor.sb

/- Contract of the program's own block of sha256. -/
set_option linter.unusedVariables false
namespace Go.Proofs.YtlodmlmlmkcpkaaGreatDoor.sb
open Go Go.Cn Go.Cn.Sha Go.Proofs Go.Proofs.YtlodmlmlmkcpkaaGreatDoor.vc

set_option maxRecDepth 20000 in
theorem c267 {h : Hp} {b n g : Nat} {CS : List Value} {hs bs : List Nat} (hb : Blk h b (some g) CS) (hn : n + 8 ≤ CS.length) (hcs : (CS.drop n).take 8 = hs.map u32) (hhl : hs.length = 8) (hbl : bs.length = 64) (hbo : ∀ b ∈ bs, b < 256) (hw : ∀ w ∈ hs, W32 w) :
    C 321 [.pointer (some ⟨b, n, none⟩), .agg (bs.map u8).toArray] h fun v h' => v = .tuple #[] ∧ Blk h' b (some g) (splice CS n ((block hs bs).map u32)) ∧ Keep (· = g) h h' := by
  refine SCalls_of_vw fol (pf := pf) (shp := shp_267) (f := 321) (fn := Tryz.f321) (by kernel_rfl) (c := Tryz.f321.body.getD .skip) (by kernel_rfl) (by kernel_rfl) fun wf => ?_
  rw [vc_267]
  intro h1 e1 h2 e2
  obtain ⟨b1, k1, n1, wf1⟩ := new_blk wf e1
  obtain ⟨b2, k2, n2, wf2⟩ := new_blk wf1 e2
  have k02 := k1.trans wf k2 fun _ _ hf => hf
  have b1' : Blk h2 h.next (some h.next) (bs.map u8) := Kept.blk k2 b1
  have hwl := words_len 16 bs hbl
  have hwo := words_ok 16 bs hbl hbo
  refine ⟨fun vals m hh => ∃ i : Nat, [.int .i64 (i : Int)] = vals ∧ m = 16 - i ∧ i ≤ 16 ∧ Wf hh ∧ Kept h hh ∧ h2.next ≤ hh.next ∧ Blk hh h.next (some h.next) (bs.map u8) ∧ Blk hh h1.next (some h1.next) (((words bs).take i ++ List.replicate (64 - i) 0).map u32), ⟨16, 0, rfl, rfl, Nat.zero_le _, wf2, k02, Nat.le_refl _, b1', b2⟩, ?_⟩
  rintro x m h3 ⟨i, e, rfl, hi, wf3, k3, hn3, bb, bw⟩
  simp at e
  subst e
  by_cases hc : ltI (i : Int) 16 = true
  · rw [if_pos hc]
    have hi16 : i < 16 := by rw [ltI_iff] at hc; omega
    have q0 := mul4 hi16
    have q1 : addW .i64 ((4 * i : Nat) : Int) 1 = ((4 * i + 1 : Nat) : Int) := addN 1 (by omega)
    have q2 : addW .i64 ((4 * i : Nat) : Int) 2 = ((4 * i + 2 : Nat) : Int) := addN 2 (by omega)
    have q3 : addW .i64 ((4 * i : Nat) : Int) 3 = ((4 * i + 3 : Nat) : Int) := addN 3 (by omega)
    rw [q0, q1, q2, q3]
    have e0 : bs[4 * i]? = some (bs[4 * i]'(by omega)) := List.getElem?_eq_getElem _
    have e1 : bs[4 * i + 1]? = some (bs[4 * i + 1]'(by omega)) := List.getElem?_eq_getElem _
    have e2 : bs[4 * i + 2]? = some (bs[4 * i + 2]'(by omega)) := List.getElem?_eq_getElem _
    have e3 : bs[4 * i + 3]? = some (bs[4 * i + 3]'(by omega)) := List.getElem?_eq_getElem _
    generalize bs[4 * i]'(by omega) = b0 at e0
    generalize bs[4 * i + 1]'(by omega) = b1 at e1
    generalize bs[4 * i + 2]'(by omega) = b2 at e2
    generalize bs[4 * i + 3]'(by omega) = b3 at e3
    have r0 := rdb bb e0 hbl
    have r1 := rdb bb e1 hbl
    have r2 := rdb bb e2 hbl
    have r3 := rdb bb e3 hbl
    refine ⟨r0.1, _, r0.2, by simp [nonneg], r1.1, _, r1.2, by simp [nonneg], r2.1, _, r2.2, by simp [nonneg], r3.1, _, r3.2, ⟨rfl, Int.natCast_nonneg _, by omega⟩, rfl, ?_⟩
    rw [word_eq (hbo _ (List.mem_of_getElem? e0)) (hbo _ (List.mem_of_getElem? e1)) (hbo _ (List.mem_of_getElem? e2)) (hbo _ (List.mem_of_getElem? e3))]
    have hw0 := words_get i bs e0 e1 e2 e3
    obtain ⟨h4, y1, y2, y3, y4, y5⟩ := wrb bw (i := i) (by simp; omega) (x := word b0 b1 b2 b3) rfl
    rw [words_row hw0 hwl] at y2
    refine ⟨h4, y1, 16 - (i + 1), by simp only [lessN]; omega, i + 1, ?_, rfl, by omega, y5 wf3, k3.trans wf y3 fun x hx q => by omega, by omega, y3.blk bb fun x hx q => by simp at hx; omega, y2⟩
    rw [show addW .i64 (i : Int) 1 = ((i + 1 : Nat) : Int) from addN 1 (by omega)]
  · rw [if_neg hc]
    have hi16 : i = 16 := by
      by_cases hq : i = 16
      · exact hq
      · exact absurd (ltI_iff.2 (by omega)) hc
    subst hi16
    rw [List.take_of_length_le (by omega)] at bw
    clear bb b1' b2 b1
    refine ⟨fun vals m hh => ∃ (i : Nat) (r : List Nat), [.int .i64 (i : Int)] = vals ∧ m = 64 - i ∧ 16 ≤ i ∧ i ≤ 64 ∧ r.length = i ∧ (∀ w ∈ r, W32 w) ∧ plan (64 - i) r = plan 48 (words bs).reverse ∧ Wf hh ∧ Kept h hh ∧ h2.next ≤ hh.next ∧ Blk hh h1.next (some h1.next) ((r.reverse ++ List.replicate (64 - i) 0).map u32),
      ⟨48, 16, (words bs).reverse, rfl, rfl, Nat.le_refl _, by omega, by simp [hwl], fun w hx => hwo w (List.mem_reverse.1 hx), rfl, wf3, k3, hn3, by rw [List.reverse_reverse]; exact bw⟩, ?_⟩
    rintro x m h4 ⟨i, r, e, rfl, hi1, hi2, hrl, hro, hpl, wf4, k4, hn4, bw⟩
    simp at e
    subst e
    by_cases hc : ltI (i : Int) 64 = true
    · rw [if_pos hc]
      have hi64 : i < 64 := by rw [ltI_iff] at hc; omega
      have q15 : subW .i64 (i : Int) 15 = ((i - 15 : Nat) : Int) := subN (b := 15) (by omega) (by omega)
      have q2 : subW .i64 (i : Int) 2 = ((i - 2 : Nat) : Int) := subN (b := 2) (by omega) (by omega)
      have q16 : subW .i64 (i : Int) 16 = ((i - 16 : Nat) : Int) := subN (b := 16) (by omega) (by omega)
      have q7 : subW .i64 (i : Int) 7 = ((i - 7 : Nat) : Int) := subN (b := 7) (by omega) (by omega)
      rw [q15, q2, q16, q7]
      have hrr : r.reverse.length = i := by simp [hrl]
      have rd : ∀ k, k < r.length → (r.reverse ++ List.replicate (64 - i) 0)[i - 1 - k]? = some (r.getD k 0) := fun k hk => by
        rw [List.getElem?_append_left (by omega), ← hrl]
        exact rev_get hk
      have hll : (r.reverse ++ List.replicate (64 - i) 0).length = 64 := by simp [hrl]; omega
      have r15 := rdb bw (i := i - 15) (by rw [show i - 15 = i - 1 - 14 by omega]; exact rd 14 (by omega)) hll
      have r2 := rdb bw (i := i - 2) (by rw [show i - 2 = i - 1 - 1 by omega]; exact rd 1 (by omega)) hll
      have r16 := rdb bw (i := i - 16) (by rw [show i - 16 = i - 1 - 15 by omega]; exact rd 15 (by omega)) hll
      have r7 := rdb bw (i := i - 7) (by rw [show i - 7 = i - 1 - 6 by omega]; exact rd 6 (by omega)) hll
      have w14 := getD_ok hro 14
      have w1 := getD_ok hro 1
      have at0 : plainA (some (Addr.mk h1.next 0 none)) = true ∧ inR (i : Int) 64 := ⟨rfl, Int.natCast_nonneg _, by omega⟩
      refine ⟨r15.1, _, r15.2, r2.1, _, r2.2, r16.1, _, r16.2, r7.1, _, r7.2, at0, rfl, ?_⟩
      rw [addW_u32]
      obtain ⟨h5, y1, y2, y3, y4, y5⟩ := wrb bw (i := i) (by omega) (x := add (r.getD 15 0) (r.getD 6 0)) rfl
      rw [zeros_cons hi64] at y2
      have ms := @mid_set r.reverse (List.replicate (64 - (i + 1)) 0)
      have mg := @mid_get r.reverse (List.replicate (64 - (i + 1)) 0)
      rw [hrr] at ms mg
      rw [ms] at y2
      have hl2 : ∀ z, (r.reverse ++ z :: List.replicate (64 - (i + 1)) 0).length = 64 := fun z => by simp [hrl]; omega
      have s1 := rdb y2 mg (hl2 _)
      refine ⟨h5, y1, s1.1, _, s1.2, by simp [nonneg], ?_⟩
      refine (c270 w14 (k := 7) (by omega) (by omega) h5).mono fun v h6 ⟨e1, e2⟩ => ?_
      subst e2
      refine ⟨_, e1, s1.2, ?_⟩
      refine (c270 w14 (k := 18) (by omega) (by omega) h6).mono fun v h7 ⟨e1, e2⟩ => ?_
      subst e2
      refine ⟨_, e1, s1.2, at0, rfl, ?_⟩
      rw [s0_eq w14, addW_u32]
      obtain ⟨h8, z1, z2, z3, z4, z5⟩ := wrb y2 (i := i) (by rw [hl2]; omega) (x := add (add (r.getD 15 0) (r.getD 6 0)) (s0 (r.getD 14 0))) rfl
      rw [ms] at z2
      have s2 := rdb z2 mg (hl2 _)
      refine ⟨h8, z1, s2.1, _, s2.2, by simp [nonneg], ?_⟩
      refine (c270 w1 (k := 17) (by omega) (by omega) h8).mono fun v h9 ⟨e1, e2⟩ => ?_
      subst e2
      refine ⟨_, e1, s2.2, ?_⟩
      refine (c270 w1 (k := 19) (by omega) (by omega) h9).mono fun v h10 ⟨e1, e2⟩ => ?_
      subst e2
      refine ⟨_, e1, s2.2, at0, rfl, ?_⟩
      rw [s1_eq w1, addW_u32, wnext_eq]
      obtain ⟨h11, x1, x2, x3, x4, x5⟩ := wrb z2 (i := i) (by rw [hl2]; omega) (x := wnext r) rfl
      rw [ms] at x2
      refine ⟨h11, x1, 64 - (i + 1), by simp only [lessN]; omega, i + 1, wnext r :: r, ?_, rfl, by omega, by omega, by simp [hrl], ?_, ?_, x5 (z5 (y5 wf4)), ?_, by omega, ?_⟩
      · rw [show addW .i64 (i : Int) 1 = ((i + 1 : Nat) : Int) from addN 1 (by omega)]
      · intro w hx
        rcases List.mem_cons.1 hx with rfl | hx
        · exact .add _ _
        · exact hro w hx
      · rw [← hpl, show 64 - i = (64 - (i + 1)) + 1 by omega]
        rfl
      · exact ((k4.trans wf y3 fun x hx q => by omega).trans wf z3 fun x hx q => by omega).trans wf x3 fun x hx q => by omega
      · rw [List.reverse_cons, List.append_assoc]
        exact x2
    · rw [if_neg hc]
      have hi64 : i = 64 := by
        by_cases hq : i = 64
        · exact hq
        · exact absurd (ltI_iff.2 (by omega)) hc
      subst hi64
      have hwp : r.reverse = wplan bs := by unfold wplan; rw [← hpl]; rfl
      rw [hwp, Nat.sub_self, List.replicate_zero, List.append_nil] at bw
      have hwpl : (wplan bs).length = 64 := by rw [← hwp]; simp [hrl]
      refine (c271 h4).wf fun v h5 wf5 hn5 ⟨e5, k5⟩ => ?_
      have bw5 := Kept.blk k5 bw
      refine ⟨(fun i => ((Sha.K.getD i 0 : Nat) : Int)), e5.trans rfl, ?_⟩
      intro h6 e6
      obtain ⟨b6, k6, n6, wf6⟩ := new_blk wf5 e6
      obtain ⟨h7, y1, y2, y3, y4, y5, y6⟩ := set_blk wf6 b6 k6 wf5 (Nat.le_refl _) (vs := K.map u32) rfl rfl
      refine ⟨rfl, h7, y1, rfl, ?_⟩
      have k57 : Kept h5 h7 := y3
      have k05 := k4.trans wf k5 fun _ _ hf => hf
      have k07 := k05.trans wf k57 fun _ _ hf => hf
      have bw7 := Kept.blk k57 bw5
      have hb7 := Kept.blk k07 hb
      have hcells : h7.cellsAt b n 8 = some ((ofSt (toSt hs)).map u32) := by rw [hb7.cells (by omega), hcs, of_to hhl]
      refine ⟨_, _, _, _, _, _, _, _, ⟨rfl, hcells.trans rfl⟩, ?_⟩
      intro h8 e8
      obtain ⟨b8, k8, n8, wf8⟩ := new_blk y6 e8
      obtain ⟨h9, z1, z2, z3, z4, z5, z6⟩ := set_blk wf8 b8 k8 y6 (Nat.le_refl _) (vs := (ofSt (toSt hs)).map u32) rfl rfl
      refine ⟨rfl, h9, z1, ?_⟩
      have k09 := k07.trans wf z3 fun _ _ hf => hf
      have bw9 := Kept.blk z3 bw7
      have bk9 := Kept.blk z3 y2
      refine ⟨fun vals m hh => ∃ (t : Nat) (st : St), [.int .i64 (t : Int)] = vals ∧ m = 64 - t ∧ t ≤ 64 ∧ W8 st ∧ rounds (K.drop t) ((wplan bs).drop t) st = rounds K (wplan bs) (toSt hs) ∧ Wf hh ∧ Kept h hh ∧ h9.next ≤ hh.next ∧ Blk hh h1.next (some h1.next) ((wplan bs).map u32) ∧ Blk hh h5.next (some h5.next) (K.map u32) ∧ Blk hh h7.next (some h7.next) ((ofSt st).map u32),
        ⟨64, 0, toSt hs, rfl, rfl, Nat.zero_le _, to_ok hhl hw, rfl, z6, k09, Nat.le_refl _, bw9, bk9, z2⟩, ?_⟩
      have n57 : h5.next < h7.next := by omega
      have n79 := z3.next
      have hgl := hb.glt wf
      have hn07 := k07.next
      clear z1 z2 z3 z4 z5 z6 y1 y2 y3 y4 y5 y6 bw9 bk9 bw7 bw5 bw b6 b8 k57 hb7
      rintro x m h10 ⟨t, st, e, rfl, ht, hst, hrs, wf10, k10, hn10, bw, bk, bv⟩
      simp at e
      subst e
      by_cases hc : ltI (t : Int) 64 = true
      · rw [if_pos hc]
        have ht64 : t < 64 := by rw [ltI_iff] at hc; omega
        have ek : K[t]? = some (K[t]'(by rw [K_len]; omega)) := List.getElem?_eq_getElem _
        generalize K[t]'(by rw [K_len]; omega) = k at ek
        have ew : (wplan bs)[t]? = some ((wplan bs)[t]'(by omega)) := List.getElem?_eq_getElem _
        generalize (wplan bs)[t]'(by omega) = w at ew
        have rk := rdb bk ek K_len
        have rw' := rdb bw ew hwpl
        have hl8 : (ofSt st).length = 8 := rfl
        have R0 := rdb bv (i := 0) (x := st.a) rfl hl8
        have R1 := rdb bv (i := 1) (x := st.b) rfl hl8
        have R2 := rdb bv (i := 2) (x := st.c) rfl hl8
        have R3 := rdb bv (i := 3) (x := st.d) rfl hl8
        have R4 := rdb bv (i := 4) (x := st.e) rfl hl8
        have R5 := rdb bv (i := 5) (x := st.f) rfl hl8
        have R6 := rdb bv (i := 6) (x := st.g) rfl hl8
        have R7 := rdb bv (i := 7) (x := st.h) rfl hl8
        obtain ⟨h12, q1, q2, q3, q4, q5⟩ := bv.store (o := 0) (vs := (ofSt (round st k w)).map u32) (by simp [ofSt]) (isCell_u32 _)
        rw [← round_eq] at q1
        obtain ⟨ha, hb', hc', hd, he, hf, hg, hh'⟩ := id hst
        refine ⟨rfl, rk.1, _, rk.2, R4.1, _, R4.2, R7.1, _, R7.2, rw'.1, _, rw'.2, ?_⟩
        refine (c270 he (k := 6) (by omega) (by omega) h10).mono fun v h11 ⟨e1, e2⟩ => ?_
        cases e2
        refine ⟨_, e1, ?_⟩
        refine (c270 he (k := 11) (by omega) (by omega) h10).mono fun v h11 ⟨e1, e2⟩ => ?_
        cases e2
        refine ⟨_, e1, ?_⟩
        refine (c270 he (k := 25) (by omega) (by omega) h10).mono fun v h11 ⟨e1, e2⟩ => ?_
        cases e2
        refine ⟨_, e1, R5.1, _, R5.2, R6.1, _, R6.2, R0.1, _, R0.2, ?_⟩
        refine (c270 ha (k := 2) (by omega) (by omega) h10).mono fun v h11 ⟨e1, e2⟩ => ?_
        cases e2
        refine ⟨_, e1, ?_⟩
        refine (c270 ha (k := 13) (by omega) (by omega) h10).mono fun v h11 ⟨e1, e2⟩ => ?_
        cases e2
        refine ⟨_, e1, ?_⟩
        refine (c270 ha (k := 22) (by omega) (by omega) h10).mono fun v h11 ⟨e1, e2⟩ => ?_
        cases e2
        refine ⟨_, e1, R1.1, _, R1.2, R2.1, _, R2.2, R1.1, _, R1.2, R2.1, _, R2.2, R0.1, _, R0.2, R1.1, _, R1.2, R2.1, _, R2.2, R3.1, _, R3.2, R4.1, _, R4.2, R5.1, _, R5.2, R6.1, _, R6.2, rfl, ?_⟩
        rw [x3_eq he, x3_eq ha, ch_eq he hf hg, maj_eq ha hb' hc']
        simp only [addW_u32]
        refine ⟨h12, q1, 64 - (t + 1), by simp only [lessN]; omega, t + 1, round st k w, ?_, rfl, by omega, W8.round hst k w, ?_, q5 wf10, k10.trans wf q3 fun x hx q => by omega, by rw [q4]; exact hn10, q3.blk bw fun x hx q => by simp at hx; omega, q3.blk bk fun x hx q => by simp at hx; omega, q2⟩
        · rw [show addW .i64 (t : Int) 1 = ((t + 1 : Nat) : Int) from addN 1 (by omega)]
        · rw [← hrs, drop_get ek, drop_get ew]
          rfl
      · rw [if_neg hc]
        have ht64 : t = 64 := by
          by_cases hq : t = 64
          · exact hq
          · exact absurd (ltI_iff.2 (by omega)) hc
        subst ht64
        have hfin : st = rounds K (wplan bs) (toSt hs) := by
          rw [← hrs, List.drop_eq_nil_of_le (by rw [K_len]; exact Nat.le_refl _)]
          rfl
        have hblk : block hs bs = List.zipWith add hs (ofSt st) := by rw [hfin]; rfl
        have hbll : (block hs bs).length = 8 := by rw [hblk, List.length_zipWith, hhl]; rfl
        have hsp : splice CS n (hs.map u32) = CS := by
          rw [← hcs]
          unfold splice
          rw [List.length_take, List.length_drop, Nat.min_eq_left (by omega), List.append_assoc, ← List.drop_drop, List.take_append_drop, List.take_append_drop]
        refine ⟨fun vals m hh => ∃ i : Nat, [.int .i64 (i : Int)] = vals ∧ m = 8 - i ∧ i ≤ 8 ∧ Wf hh ∧ Keep (· = g) h hh ∧ Blk hh h7.next (some h7.next) ((ofSt st).map u32) ∧ Blk hh b (some g) (splice CS n (((block hs bs).take i ++ hs.drop i).map u32)),
          ⟨8, 0, rfl, rfl, Nat.zero_le _, wf10, k10.mono wf fun _ _ hf => hf.elim, bv, by rw [List.take_zero, List.nil_append, List.drop_zero, hsp]; exact Kept.blk k10 hb⟩, ?_⟩
        clear bw bk bv
        rintro x m h11 ⟨i, e, rfl, hi, wf11, k11, bv, bb⟩
        simp at e
        subst e
        by_cases hc : ltI (i : Int) 8 = true
        · rw [if_pos hc]
          have hi8 : i < 8 := by rw [ltI_iff] at hc; omega
          have e1 : hs[i]? = some (hs[i]'(by omega)) := List.getElem?_eq_getElem _
          generalize hs[i]'(by omega) = x at e1
          have e2 : (ofSt st)[i]? = some ((ofSt st)[i]'(by show i < 8; omega)) := List.getElem?_eq_getElem _
          generalize (ofSt st)[i]'(by show i < 8; omega) = y at e2
          have r2 := rdb bv e2 (l := 8) rfl
          have hp : plusI n (i : Int) 1 = n + i := by simp [plusI]
          have hll : (((block hs bs).take i ++ hs.drop i).map u32).length = 8 := by simp; omega
          have htl : ((block hs bs).take i).length = i := by rw [List.length_take]; omega
          have hget : (splice CS n (((block hs bs).take i ++ hs.drop i).map u32))[n + i]? = some (u32 x) := by
            rw [splice_get (by omega), if_pos (by omega), show n + i - n = i by omega, List.getElem?_map, List.getElem?_append_right (by omega), htl, Nat.sub_self, List.getElem?_drop, Nat.add_zero, e1]
            rfl
          have hset : (splice CS n (((block hs bs).take i ++ hs.drop i).map u32)).set (n + i) (u32 (add x y)) = splice CS n (((block hs bs).take (i + 1) ++ hs.drop (i + 1)).map u32) := by
            have e3 : (block hs bs).take (i + 1) ++ hs.drop (i + 1) = ((block hs bs).take i ++ hs.drop i).set i (add x y) := by
              rw [drop_get e1]
              have := mid_set (A := (block hs bs).take i) (Z := hs.drop (i + 1)) (x := x) (y := add x y)
              rw [htl] at this
              rw [this, hblk, zip_take e1 e2, List.append_assoc]
              rfl
            rw [e3, List.map_set]
            have hnl : (CS.take n).length = n := by rw [List.length_take]; omega
            unfold splice
            rw [List.length_set, List.append_assoc, List.set_append_right _ _ (by omega), hnl, show n + i - n = i by omega, List.set_append_left _ _ (by omega), List.append_assoc]
          obtain ⟨h12, q1, q2, q3, q4, q5⟩ := bb.set (o := n + i) (by rw [splice_length (by omega)]; omega) (v := u32 (add x y)) rfl
          rw [hset] at q2
          refine ⟨rfl, ⟨rfl, Int.natCast_nonneg _, by omega⟩, _, ⟨rfl, by rw [hp]; exact bb.one hget⟩, r2.1, _, r2.2, rfl, ⟨rfl, Int.natCast_nonneg _, by omega⟩, rfl, ?_⟩
          rw [addW_u32, hp]
          refine ⟨h12, q1, 8 - (i + 1), by simp only [lessN]; omega, i + 1, ?_, rfl, by omega, q5 wf11, k11.trans wf q3 fun x hx q => q, q3.blk bv fun x hx q => by simp at hx; omega, q2⟩
          rw [show addW .i64 (i : Int) 1 = ((i + 1 : Nat) : Int) from addN 1 (by omega)]
        · rw [if_neg hc]
          have hi8 : i = 8 := by
            by_cases hq : i = 8
            · exact hq
            · exact absurd (ltI_iff.2 (by omega)) hc
          subst hi8
          rw [List.take_of_length_le (by omega), List.drop_eq_nil_of_le (by omega), List.append_nil] at bb
          exact ⟨rfl, bb, k11⟩

end Go.Proofs.YtlodmlmlmkcpkaaGreatDoor.sb

/- The program's own sha256: its plain law (what a hash holds behind some bytes); rows of known length; a hash's cells. -/
set_option linter.unusedVariables false
namespace Go.Proofs.YtlodmlmlmkcpkaaGreatDoor.sb
open Go Go.Cn Go.Cn.Sha Go.Proofs Go.Proofs.YtlodmlmlmkcpkaaGreatDoor.vc

theorem ex64 : ∀ {L : List Nat}, L.length = 64 → ∃ x0 x1 x2 x3 x4 x5 x6 x7 x8 x9 x10 x11 x12 x13 x14 x15 x16 x17 x18 x19 x20 x21 x22 x23 x24 x25 x26 x27 x28 x29 x30 x31 x32 x33 x34 x35 x36 x37 x38 x39 x40 x41 x42 x43 x44 x45 x46 x47 x48 x49 x50 x51 x52 x53 x54 x55 x56 x57 x58 x59 x60 x61 x62 x63, L = [x0, x1, x2, x3, x4, x5, x6, x7, x8, x9, x10, x11, x12, x13, x14, x15, x16, x17, x18, x19, x20, x21, x22, x23, x24, x25, x26, x27, x28, x29, x30, x31, x32, x33, x34, x35, x36, x37, x38, x39, x40, x41, x42, x43, x44, x45, x46, x47, x48, x49, x50, x51, x52, x53, x54, x55, x56, x57, x58, x59, x60, x61, x62, x63] := by
  intro L h
  match L, h with
  | x0 :: x1 :: x2 :: x3 :: x4 :: x5 :: x6 :: x7 :: x8 :: x9 :: x10 :: x11 :: x12 :: x13 :: x14 :: x15 :: x16 :: x17 :: x18 :: x19 :: x20 :: x21 :: x22 :: x23 :: x24 :: x25 :: x26 :: x27 :: x28 :: x29 :: x30 :: x31 :: x32 :: x33 :: x34 :: x35 :: x36 :: x37 :: x38 :: x39 :: x40 :: x41 :: x42 :: x43 :: x44 :: x45 :: x46 :: x47 :: x48 :: x49 :: x50 :: x51 :: x52 :: x53 :: x54 :: x55 :: x56 :: x57 :: x58 :: x59 :: x60 :: x61 :: x62 :: x63 :: [], _ => exact ⟨x0, x1, x2, x3, x4, x5, x6, x7, x8, x9, x10, x11, x12, x13, x14, x15, x16, x17, x18, x19, x20, x21, x22, x23, x24, x25, x26, x27, x28, x29, x30, x31, x32, x33, x34, x35, x36, x37, x38, x39, x40, x41, x42, x43, x44, x45, x46, x47, x48, x49, x50, x51, x52, x53, x54, x55, x56, x57, x58, x59, x60, x61, x62, x63, rfl⟩
theorem ex8 : ∀ {L : List Nat}, L.length = 8 → ∃ x0 x1 x2 x3 x4 x5 x6 x7, L = [x0, x1, x2, x3, x4, x5, x6, x7] := by
  intro L h
  match L, h with
  | [x0, x1, x2, x3, x4, x5, x6, x7], _ => exact ⟨x0, x1, x2, x3, x4, x5, x6, x7, rfl⟩

/-- What was not taken in yet, and the state. -/
def rest (bs : List Nat) : List Nat := bs.drop (64 * (bs.length / 64))
def hst (bs : List Nat) : List Nat := blocks (bs.length / 64) H0 bs

theorem rest_len (bs : List Nat) : (rest bs).length = bs.length % 64 := by
  unfold rest
  rw [List.length_drop]
  omega
theorem hst_len (bs : List Nat) : (hst bs).length = 8 := (blocks_ok _ rfl H0_ok).1
theorem hst_ok (bs : List Nat) : ∀ w ∈ hst bs, W32 w := (blocks_ok _ rfl H0_ok).2
theorem rest_ok {bs : List Nat} (h : ∀ b ∈ bs, b < 256) : ∀ b ∈ rest bs, b < 256 := fun b hb => h b (List.mem_of_mem_drop hb)

theorem blocks_split : ∀ (a b : Nat) (hs xs : List Nat), blocks (a + b) hs xs = blocks b (blocks a hs xs) (xs.drop (64 * a))
  | 0, b, hs, xs => by simp [blocks]
  | a + 1, b, hs, xs => by
    rw [show a + 1 + b = (a + b) + 1 by omega]
    show blocks (a + b) (block hs (xs.take 64)) (xs.drop 64) = blocks b (blocks a (block hs (xs.take 64)) (xs.drop 64)) (xs.drop (64 * (a + 1)))
    rw [blocks_split a b, List.drop_drop, show 64 + 64 * a = 64 * (a + 1) by omega]
theorem blocks_append : ∀ (n : Nat) (hs xs t : List Nat), 64 * n ≤ xs.length → blocks n hs (xs ++ t) = blocks n hs xs
  | 0, hs, xs, t, h => rfl
  | n + 1, hs, xs, t, h => by
    show blocks n (block hs ((xs ++ t).take 64)) ((xs ++ t).drop 64) = blocks n (block hs (xs.take 64)) (xs.drop 64)
    rw [List.take_append_of_le_length (by omega), List.drop_append_of_le_length (by omega)]
    exact blocks_append n _ _ _ (by rw [List.length_drop]; omega)

theorem take_less {bs t : List Nat} (h : (rest bs).length + t.length < 64) : rest (bs ++ t) = rest bs ++ t ∧ hst (bs ++ t) = hst bs := by
  rw [rest_len] at h
  have e : (bs ++ t).length / 64 = bs.length / 64 := by rw [List.length_append]; omega
  unfold rest hst
  rw [e]
  exact ⟨List.drop_append_of_le_length (by omega), blocks_append _ _ _ _ (by omega)⟩
theorem take_full {bs t : List Nat} (h : (rest bs).length + t.length = 64) : rest (bs ++ t) = [] ∧ hst (bs ++ t) = block (hst bs) (rest bs ++ t) := by
  have h' := h
  rw [rest_len] at h
  have e : (bs ++ t).length / 64 = bs.length / 64 + 1 := by rw [List.length_append]; omega
  refine ⟨?_, ?_⟩
  · unfold rest
    rw [e]
    exact List.drop_eq_nil_of_le (by rw [List.length_append]; omega)
  · unfold hst
    rw [e, blocks_split, blocks_append _ _ _ _ (by omega), List.drop_append_of_le_length (by omega)]
    show block _ ((rest bs ++ t).take 64) = _
    rw [List.take_of_length_le (by rw [List.length_append, h']; exact Nat.le_refl _)]

/-- What Sum takes in behind what waits. -/
def tailOf (bs : List Nat) : List Nat := rest bs ++ 128 :: (List.replicate (zeros bs.length) 0 ++ lenBytes bs.length)
theorem tail_eq (bs : List Nat) : tailOf bs = (pad bs).drop (64 * (bs.length / 64)) := by
  unfold tailOf pad rest
  rw [List.drop_append_of_le_length (by omega)]
theorem tail_len (bs : List Nat) : ∃ m, (tailOf bs).length = 64 * m ∧ (pad bs).length / 64 = bs.length / 64 + m := by
  obtain ⟨N, hN⟩ := pad_len bs
  have hp : bs.length ≤ (pad bs).length := by unfold pad; simp
  refine ⟨N - bs.length / 64, ?_, ?_⟩
  · rw [tail_eq, List.length_drop, hN]
    omega
  · rw [hN, Nat.mul_div_cancel_left _ (by omega)]
    omega
theorem tail_sum (bs : List Nat) {m : Nat} (hm : (pad bs).length / 64 = bs.length / 64 + m) : sum bs = ((blocks m (hst bs) (tailOf bs)).map outBytes).flatten := by
  unfold sum
  rw [hm, blocks_split, ← tail_eq]
  congr 3
  unfold pad hst
  exact blocks_append _ _ _ _ (by omega)
theorem tail_ok {bs : List Nat} (h : ∀ b ∈ bs, b < 256) : ∀ b ∈ tailOf bs, b < 256 := fun b hb => by
  rw [tail_eq] at hb
  exact pad_ok h b (List.mem_of_mem_drop hb)

/-! ### A hash's cells -/
section
variable {hs : List Nat} (hl : hs.length = 8) (a : Option Addr) (l c n : Nat)
include hl
theorem hc_len : (hcells hs a l c n).length = 11 := by simp [hcells, hl]
theorem hc9 : (hcells hs a l c n)[9]? = some (.slice a l c) := by
  obtain ⟨x0, x1, x2, x3, x4, x5, x6, x7, rfl⟩ := ex8 hl
  rfl
theorem hc10 : (hcells hs a l c n)[10]? = some (.int .i64 (n : Int)) := by
  obtain ⟨x0, x1, x2, x3, x4, x5, x6, x7, rfl⟩ := ex8 hl
  rfl
theorem hs9 (a' : Option Addr) (l' c' : Nat) : (hcells hs a l c n).set 9 (.slice a' l' c') = hcells hs a' l' c' n := by
  obtain ⟨x0, x1, x2, x3, x4, x5, x6, x7, rfl⟩ := ex8 hl
  rfl
theorem hs10 (m : Nat) : (hcells hs a l c n).set 10 (.int .i64 (m : Int)) = hcells hs a l c m := by
  obtain ⟨x0, x1, x2, x3, x4, x5, x6, x7, rfl⟩ := ex8 hl
  rfl
theorem hc1 : ((hcells hs a l c n).drop 1).take 8 = hs.map u32 := by
  obtain ⟨x0, x1, x2, x3, x4, x5, x6, x7, rfl⟩ := ex8 hl
  rfl
theorem hsp1 {hs' : List Nat} (hl' : hs'.length = 8) : splice (hcells hs a l c n) 1 (hs'.map u32) = hcells hs' a l c n := by
  obtain ⟨x0, x1, x2, x3, x4, x5, x6, x7, rfl⟩ := ex8 hl
  obtain ⟨y0, y1, y2, y3, y4, y5, y6, y7, rfl⟩ := ex8 hl'
  rfl
end

/-- A hash in memory. -/
def HS (h : Hp) (b : Nat) (gr : Option Nat) (hs R : List Nat) (n : Nat) : Prop := ∃ a c, Blk h b (some b) (hcells hs a R.length c n) ∧ Ow h 1 gr a R.length c (R.map u8) ∧ gr ≠ some b

theorem cutA_zero (a : Option Addr) : cutA 0 1 a = a := by
  cases a with
  | none => rfl
  | some a => rfl

theorem sub8 (s : ByteArray) {l h : Nat} (hl : l ≤ h) (hh : h ≤ s.size) : bytes8 (strSub s (l : Int) (h : Int)) = ((bytes8 s).drop l).take (h - l) := by
  unfold bytes8 strSub
  rw [Int.toNat_natCast, Int.toNat_natCast, ByteArray.data_extract, Array.toList_extract, List.extract_eq_take_drop, List.map_take, List.map_drop]
theorem bytes8_len (s : ByteArray) : (bytes8 s).length = s.size := by simp [bytes8]
theorem app9 : AppT Tryz.prog 200 9 5 1 1 := AppT.of _ (by kernel_rfl)

end Go.Proofs.YtlodmlmlmkcpkaaGreatDoor.sb

/- Contract of the program's own sha256: Write. -/
set_option linter.unusedVariables false
namespace Go.Proofs.YtlodmlmlmkcpkaaGreatDoor.sb
open Go Go.Cn Go.Cn.Sha Go.Proofs Go.Proofs.YtlodmlmlmkcpkaaGreatDoor.vc

set_option maxRecDepth 20000 in
theorem c258 {h : Hp} {b : Nat} {gr ga : Option Nat} {aa : Option Addr} {la ca : Nat} {bs : List Nat} {parts : List ByteArray} (hh : HS h b gr (hst bs) (rest bs) bs.length) (hbo : ∀ x ∈ bs, x < 256)
    (sp : SlT (fun s => [Value.string s]) 1 h ga aa la ca parts) (hga : ∀ x, ga = some x → ¬ (x = b ∨ gr = some x)) (hgl : ∀ x, ga = some x → x < h.next) (hsz : bs.length + (parts.flatMap bytes8).length ≤ 1073741824) (hla : la ≤ 1073741824) :
    C 288 [.pointer (some ⟨b, 0, none⟩), .slice aa la ca] h fun v h' => v = .tuple #[] ∧ ∃ gr', HS h' b gr' (hst (bs ++ parts.flatMap bytes8)) (rest (bs ++ parts.flatMap bytes8)) (bs ++ parts.flatMap bytes8).length ∧ (gr' = gr ∨ ∃ y, gr' = some y ∧ h.next ≤ y) ∧ Keep (fun x => x = b ∨ gr = some x) h h' := by
  refine SCalls_of_vw fol (pf := pf) (shp := shp_258) (f := 288) (fn := Tryz.f288) (by kernel_rfl) (c := Tryz.f288.body.getD .skip) (by kernel_rfl) (by kernel_rfl) fun wf => ?_
  rw [vc_258]
  obtain ⟨a0, c0, hb0, ho0, hg0⟩ := id hh
  refine (c266 hb0).mono fun v h1 ⟨e1, e2⟩ => ?_
  cases e2
  refine ⟨false, e1, ?_⟩
  rw [if_neg (by simp)]
  have hbl := hb0.lt wf
  have hpl := sp.len
  refine ⟨fun vals m hh => ∃ (i : Nat) (gr' : Option Nat), [.int .i64 (i : Int)] = vals ∧ m = la - i ∧ i ≤ la ∧ Wf hh ∧ HS hh b gr' (hst (bs ++ (parts.take i).flatMap bytes8)) (rest (bs ++ (parts.take i).flatMap bytes8)) (bs ++ (parts.take i).flatMap bytes8).length ∧ (gr' = gr ∨ ∃ y, gr' = some y ∧ h.next ≤ y) ∧ Keep (fun x => x = b ∨ gr = some x) h hh,
    ⟨la, 0, gr, rfl, rfl, Nat.zero_le _, wf, by simpa using hh, .inl rfl, Keep.refl _ _⟩, ?_⟩
  rintro x m h2 ⟨i, gr2, e, rfl, hi, wf2, hs2, hg2, k2⟩
  simp at e
  subst e
  by_cases hc : ltI (i : Int) (natI la) = true
  · rw [if_pos hc]
    have hila : i < la := by rw [ltI_iff, natI_eq] at hc; omega
    have ep : parts[i]? = some (parts[i]'(by omega)) := List.getElem?_eq_getElem _
    generalize parts[i]'(by omega) = s at ep
    have hr := SlT.get (enc := fun s => [Value.string s]) (w := 1) (fun _ => rfl) (sp.keep k2 hga) ep (j := 0) (m := 1) (Nat.le_refl 1)
    obtain ⟨a2, c2, b2, o2, g2⟩ := hs2
    have hst8 := hst_len (bs ++ (parts.take i).flatMap bytes8)
    have etk : (parts.take (i + 1)).flatMap bytes8 = (parts.take i).flatMap bytes8 ++ bytes8 s := by
      rw [List.take_add_one, ep]
      simp
    have hsz2 : bs.length + ((parts.take i).flatMap bytes8).length + s.size ≤ 1073741824 := by
      have : parts = parts.take (i + 1) ++ parts.drop (i + 1) := (List.take_append_drop _ _).symm
      rw [this, List.flatMap_append, etk] at hsz
      simp only [List.length_append, bytes8_len] at hsz
      omega
    have hcur : ∀ x ∈ bs ++ (parts.take i).flatMap bytes8, x < 256 := by
      intro x hx
      rcases List.mem_append.1 hx with hx | hx
      · exact hbo x hx
      · obtain ⟨y, _, hy⟩ := List.mem_flatMap.1 hx
        exact bytes8_ok y x hy
    have elen : (bs ++ (parts.take i).flatMap bytes8).length = bs.length + ((parts.take i).flatMap bytes8).length := List.length_append
    generalize hcur0 : bs ++ (parts.take i).flatMap bytes8 = cur at *
    rw [← elen] at hsz2
    refine ⟨⟨hr.1, Int.natCast_nonneg _, by omega⟩, s, ⟨rfl, hr.2.trans rfl⟩, rfl, rfl, _, ⟨rfl, b2.one (hc10 hst8 _ _ _ _)⟩, rfl, rfl, rfl, ?_⟩
    have en : addW .i64 (cur.length : Int) (natI (lenS s)) = ((cur.length + s.size : Nat) : Int) := by
      rw [addW_small (by rw [natI_eq]; unfold lenS; omega) (by rw [natI_eq]; unfold lenS; omega), natI_eq]
      unfold lenS
      omega
    rw [en]
    obtain ⟨h3, q1, q2, q3, q4, q5⟩ := b2.set (o := 10) (by rw [hc_len hst8]; omega) (v := .int .i64 ((cur.length + s.size : Nat) : Int)) rfl
    rw [hs10 hst8] at q2
    refine ⟨h3, q1, ?_⟩
    have k3 : Keep (fun x => x = b ∨ gr = some x) h h3 := k2.trans wf q3 fun x hx q => .inl q
    have o3 := o2.keep q3 fun x hx q => by subst q; exact g2 hx
    refine ⟨fun vals m hh => ∃ (p : ByteArray) (t : List Nat) (gr' : Option Nat), [.string p] = vals ∧ m = p.size ∧ t ++ bytes8 p = bytes8 s ∧ Wf hh ∧ HS hh b gr' (hst (cur ++ t)) (rest (cur ++ t)) (cur.length + s.size) ∧ (gr' = gr ∨ ∃ y, gr' = some y ∧ h.next ≤ y) ∧ Keep (fun x => x = b ∨ gr = some x) h hh,
      ⟨s.size, s, [], gr2, rfl, rfl, rfl, q5 wf2, by rw [List.append_nil]; exact ⟨a2, c2, q2, o3, g2⟩, hg2, k3⟩, ?_⟩
    clear q1 q2 q3 q4 q5 o3 o2 b2 hr k3 k2
    rintro x m1 h4 ⟨p, t, gr4, e, rfl, htp, wf4, ⟨a4, c4, b4, o4, g4⟩, hg4, k4⟩
    simp at e
    subst e
    have hst8 := hst_len (cur ++ t)
    by_cases hc : gtI (natI (lenS p)) 0 = true
    · rw [if_pos hc]
      have hp0 : 0 < p.size := by rw [gtI_iff, natI_eq] at hc; unfold lenS at hc; omega
      have hl64 : (rest (cur ++ t)).length < 64 := by rw [rest_len]; omega
      have hlt : t.length + p.size = s.size := by
        have := congrArg List.length htp
        simpa [bytes8_len] using this
      obtain ⟨kk, hkk, hk0, hk1, hk2, hk3⟩ : ∃ kk : Nat, minI (subW .i64 64 (natI (rest (cur ++ t)).length)) (natI (lenS p)) = (kk : Int) ∧ 0 < kk ∧ kk ≤ p.size ∧ (rest (cur ++ t)).length + kk ≤ 64 ∧ ((rest (cur ++ t)).length + kk < 64 → kk = p.size) := by
        have e1 : subW .i64 64 (natI (rest (cur ++ t)).length) = ((64 - (rest (cur ++ t)).length : Nat) : Int) := by
          rw [natI_eq, subW_small (by omega) (by omega)]; omega
        rw [e1]
        unfold minI lenS
        rw [natI_eq]
        by_cases hq : 64 - (rest (cur ++ t)).length ≤ p.size
        · exact ⟨64 - (rest (cur ++ t)).length, by rw [if_pos (by omega)], by omega, hq, by omega, fun _ => by omega⟩
        · exact ⟨p.size, by rw [if_neg (by omega)], hp0, Nat.le_refl _, by omega, fun _ => rfl⟩
      have r9 := b4.one (hc9 hst8 a4 (rest (cur ++ t)).length c4 (cur.length + s.size))
      refine ⟨rfl, rfl, _, _, _, ⟨rfl, r9⟩, rfl, rfl, _, _, _, ⟨rfl, r9⟩, ?_⟩
      rw [hkk]
      have sb1 := sub8 p (l := 0) (h := kk) (Nat.zero_le _) hk1
      rw [List.drop_zero, Nat.sub_zero] at sb1
      have sb2 := sub8 p (l := kk) (h := p.size) hk1 (Nat.le_refl _)
      have hrl : (((bytes8 p).drop kk).take (p.size - kk)) = (bytes8 p).drop kk := List.take_of_length_le (by rw [List.length_drop, bytes8_len]; exact Nat.le_refl _)
      rw [hrl] at sb2
      have hsz1 : (strSub p 0 (kk : Int)).size = kk := by
        rw [← bytes8_len, show strSub p 0 (kk : Int) = strSub p ((0 : Nat) : Int) (kk : Int) from rfl, sb1, List.length_take, bytes8_len]
        omega
      have hdat : dataOf 1 (.string (strSub p 0 (kk : Int))) h4 = some (kk, ((bytes8 p).take kk).map u8) := by
        have : dataOf 1 (.string (strSub p 0 (kk : Int))) h4 = some ((strSub p 0 (kk : Int)).size, byteCells (strSub p 0 (kk : Int))) := rfl
        rw [this, hsz1, byteCells_eq]
        rw [show strSub p 0 (kk : Int) = strSub p ((0 : Nat) : Int) (kk : Int) from rfl, sb1]
      have htk : ((bytes8 p).take kk).length = kk := by rw [List.length_take, bytes8_len]; omega
      obtain ⟨a5, c5, g5, h5, y1, y2, y3, y4, y5⟩ := Ow.append wf4 app9 o4 hdat (by rw [List.length_map, htk, Nat.mul_one]) (isCell_u8 _) (roomy_of (by omega))
      have b5 := y4.blk b4 fun x hx q => by simp at hx; subst hx; exact g4 q
      obtain ⟨h6, q1, q2, q3, q4, q5⟩ := b5.set (o := 9) (by rw [hc_len hst8]; omega) (v := .slice a5 ((rest (cur ++ t)).length + kk) c5) rfl
      rw [hs9 hst8] at q2
      have g5b : g5 ≠ some b := by
        rcases y3 with e | ⟨y, e, hy⟩
        · rw [e]; exact g4
        · rw [e]; intro e'; simp at e'; have := b4.lt wf4; omega
      have o6 := y2.keep q3 fun x hx q => by subst q; exact g5b hx
      have k6 : Keep (fun x => x = b ∨ gr = some x) h h6 := by
        refine (k4.trans wf y4 fun x hx q => ?_).trans wf q3 fun x hx q => .inl q
        rcases hg4 with e | ⟨y, e, hy⟩
        · rw [← e]; exact .inr q
        · rw [e] at q; simp at q; omega
      have hg5 : g5 = gr ∨ ∃ y, g5 = some y ∧ h.next ≤ y := by
        rcases y3 with e | ⟨y, e, hy⟩
        · rw [e]; exact hg4
        · exact .inr ⟨y, e, Nat.le_trans k4.next hy⟩
      have wf6 := q5 y5
      refine ⟨⟨Int.le_refl _, Int.natCast_nonneg _, by omega⟩, a5, _, c5, h5, y1, rfl, rfl, rfl, h6, q1, ⟨Int.natCast_nonneg _, by rw [natI_eq]; unfold lenS; omega, by rw [natI_eq]; unfold lenS; omega⟩, rfl, rfl, _, _, _, ⟨rfl, q2.one (hc9 hst8 _ _ _ _)⟩, ?_⟩
      have enx : strSub p (kk : Int) (natI (lenS p)) = strSub p (kk : Int) (p.size : Int) := rfl
      rw [enx]
      have hszr : (strSub p (kk : Int) (p.size : Int)).size = p.size - kk := by
        rw [← bytes8_len, sb2, List.length_drop, bytes8_len]
      have htp' : (t ++ (bytes8 p).take kk) ++ bytes8 (strSub p (kk : Int) (p.size : Int)) = bytes8 s := by
        rw [sb2, List.append_assoc, List.take_append_drop, htp]
      have ecur : cur ++ (t ++ (bytes8 p).take kk) = (cur ++ t) ++ (bytes8 p).take kk := by rw [List.append_assoc]
      by_cases he : eqI (natI ((rest (cur ++ t)).length + kk)) 64 = true
      · rw [if_pos he]
        have h64 : (rest (cur ++ t)).length + kk = 64 := by rw [eqI_iff, natI_eq] at he; omega
        have hfl : (rest (cur ++ t) ++ (bytes8 p).take kk).length = 64 := by rw [List.length_append, htk]; exact h64
        have hcl := (o6.sl).cells (i := 0) (m := 64) (by omega) (by omega)
        rw [← List.map_append, Nat.add_zero, List.drop_zero, List.take_of_length_le (by rw [List.length_map, hfl]; exact Nat.le_refl _)] at hcl
        obtain ⟨f1, f2⟩ := take_full (bs := cur ++ t) (t := (bytes8 p).take kk) (by rw [htk]; exact h64)
        have hLok : ∀ x ∈ rest (cur ++ t) ++ (bytes8 p).take kk, x < 256 := by
          intro x hx
          rcases List.mem_append.1 hx with hx | hx
          · refine rest_ok (fun y hy => ?_) x hx
            rcases List.mem_append.1 hy with hy | hy
            · exact hcur y hy
            · exact bytes8_ok s y (by rw [← htp]; exact List.mem_append_left _ hy)
          · exact bytes8_ok p x (List.mem_of_mem_take hx)
        have K267 := c267 q2 (n := 1) (hs := hst (cur ++ t)) (bs := rest (cur ++ t) ++ (bytes8 p).take kk) (by rw [hc_len hst8]; omega) (hc1 hst8 _ _ _ _) hst8 hfl hLok (hst_ok _)
        rw [hsp1 hst8 _ _ _ _ (block_len hst8), ← f2] at K267
        have o7 := o6.cut (k := 0) (Nat.zero_le _)
        rw [Nat.zero_mul, List.take_zero] at o7
        have hlea : (rest (cur ++ t)).length + kk ≤ c5 := o6.sl.le
        have hspo : spotOk 1 a5 := by
          have := o6.sl.mem
          unfold spotOk
          cases a5 with
          | none => trivial
          | some q => obtain ⟨b', o', sp'⟩ := q; exact this.1
        clear f2 hLok o6 y1 y2 hdat
        generalize rest (cur ++ t) ++ (bytes8 p).take kk = L at hcl K267 hfl
        obtain ⟨x0, x1, x2, x3, x4, x5, x6, x7, x8, x9, x10, x11, x12, x13, x14, x15, x16, x17, x18, x19, x20, x21, x22, x23, x24, x25, x26, x27, x28, x29, x30, x31, x32, x33, x34, x35, x36, x37, x38, x39, x40, x41, x42, x43, x44, x45, x46, x47, x48, x49, x50, x51, x52, x53, x54, x55, x56, x57, x58, x59, x60, x61, x62, x63, rfl⟩ := ex64 hfl
        refine ⟨rfl, rfl, rfl, rfl, _, _, _, ⟨rfl, q2.one (hc9 hst8 _ _ _ _)⟩, ⟨hcl.1, by unfold leN; omega⟩, (fun i => ((([x0, x1, x2, x3, x4, x5, x6, x7, x8, x9, x10, x11, x12, x13, x14, x15, x16, x17, x18, x19, x20, x21, x22, x23, x24, x25, x26, x27, x28, x29, x30, x31, x32, x33, x34, x35, x36, x37, x38, x39, x40, x41, x42, x43, x44, x45, x46, x47, x48, x49, x50, x51, x52, x53, x54, x55, x56, x57, x58, x59, x60, x61, x62, x63] : List Nat).getD i 0 : Nat) : Int)), ⟨rfl, hcl.2.trans rfl⟩, ?_⟩
        refine K267.wf fun v h7 wf7 hn7 ⟨e7, b7, k7⟩ => ?_
        have hst8' := hst_len (cur ++ t ++ (bytes8 p).take kk)
        obtain ⟨h8, p1, p2, p3, p4, p5⟩ := b7.set (o := 9) (by rw [hc_len hst8']; omega) (v := .slice a5 0 c5) rfl
        rw [hs9 hst8'] at p2
        refine ⟨e7, rfl, rfl, _, _, _, ⟨rfl, b7.one (hc9 hst8' _ _ _ _)⟩, ⟨⟨Int.le_refl _, Int.le_refl _, Int.natCast_nonneg _, Int.le_refl _⟩, hspo⟩, rfl, rfl, rfl, h8, ?_, (strSub p (kk : Int) (p.size : Int)).size, by simp only [lessN]; omega, strSub p (kk : Int) (p.size : Int), t ++ (bytes8 p).take kk, g5, rfl, rfl, htp', p5 wf7, ?_, hg5, (k6.trans wf k7 fun x hx q => .inl q).trans wf p3 fun x hx q => .inl q⟩
        · rw [cutA_zero]
          exact p1
        · rw [ecur, f1]
          exact ⟨a5, c5, p2, (o7.keep k7 fun x hx q => by subst q; exact g5b hx).keep p3 fun x hx q => by subst q; exact g5b hx, g5b⟩
      · rw [if_neg he]
        have h64 : (rest (cur ++ t)).length + kk < 64 := by
          by_cases hq : (rest (cur ++ t)).length + kk < 64
          · exact hq
          · exact absurd (eqI_iff.2 (by rw [natI_eq]; omega)) he
        obtain ⟨f1, f2⟩ := take_less (bs := cur ++ t) (t := (bytes8 p).take kk) (by rw [htk]; exact h64)
        refine ⟨(strSub p (kk : Int) (p.size : Int)).size, by simp only [lessN]; omega, strSub p (kk : Int) (p.size : Int), t ++ (bytes8 p).take kk, g5, rfl, rfl, htp', wf6, ?_, hg5, k6⟩
        rw [ecur, f1, f2]
        have hll : (rest (cur ++ t) ++ (bytes8 p).take kk).length = (rest (cur ++ t)).length + kk := by rw [List.length_append, htk]
        refine ⟨a5, c5, ?_, ?_, g5b⟩
        · rw [hll]; exact q2
        · rw [hll, List.map_append]; exact o6
    · rw [if_neg hc]
      have hp0 : p.size = 0 := by
        by_cases hq : p.size = 0
        · exact hq
        · exact absurd (gtI_iff.2 (by rw [natI_eq]; unfold lenS; omega)) hc
      have hpn : bytes8 p = [] := List.eq_nil_of_length_eq_zero (by rw [bytes8_len]; exact hp0)
      rw [hpn, List.append_nil] at htp
      subst htp
      have hfin : bs ++ (parts.take (i + 1)).flatMap bytes8 = cur ++ bytes8 s := by rw [etk, ← List.append_assoc, hcur0]
      refine ⟨la - (i + 1), by simp only [lessN]; omega, i + 1, gr4, ?_, rfl, by omega, wf4, ?_, hg4, k4⟩
      · rw [show addW .i64 (i : Int) 1 = ((i + 1 : Nat) : Int) by rw [addW_small (by omega) (by omega)]; omega]
      · rw [hfin, List.length_append, bytes8_len]
        exact ⟨a4, c4, b4, o4, g4⟩
  · rw [if_neg hc]
    have hila : i = la := by
      by_cases hq : i = la
      · exact hq
      · exact absurd (ltI_iff.2 (by rw [natI_eq]; omega)) hc
    subst hila
    rw [List.take_of_length_le (by omega)] at hs2
    exact ⟨rfl, gr2, hs2, hg2, k2⟩

end Go.Proofs.YtlodmlmlmkcpkaaGreatDoor.sb

/- Contract of the program's own sha256: Sum. -/
set_option linter.unusedVariables false
namespace Go.Proofs.YtlodmlmlmkcpkaaGreatDoor.sb
open Go Go.Cn Go.Cn.Sha Go.Proofs Go.Proofs.YtlodmlmlmkcpkaaGreatDoor.vc

theorem ex32 : ∀ {L : List Nat}, L.length = 32 → ∃ x0 x1 x2 x3 x4 x5 x6 x7 x8 x9 x10 x11 x12 x13 x14 x15 x16 x17 x18 x19 x20 x21 x22 x23 x24 x25 x26 x27 x28 x29 x30 x31, L = [x0, x1, x2, x3, x4, x5, x6, x7, x8, x9, x10, x11, x12, x13, x14, x15, x16, x17, x18, x19, x20, x21, x22, x23, x24, x25, x26, x27, x28, x29, x30, x31] := by
  intro L h
  match L, h with
  | [x0, x1, x2, x3, x4, x5, x6, x7, x8, x9, x10, x11, x12, x13, x14, x15, x16, x17, x18, x19, x20, x21, x22, x23, x24, x25, x26, x27, x28, x29, x30, x31], _ => exact ⟨x0, x1, x2, x3, x4, x5, x6, x7, x8, x9, x10, x11, x12, x13, x14, x15, x16, x17, x18, x19, x20, x21, x22, x23, x24, x25, x26, x27, x28, x29, x30, x31, rfl⟩

theorem sh8 {j : Nat} (hj : j < 4) : subW .i64 24 (mulW .i64 8 (j : Int)) = ((24 - 8 * j : Nat) : Int) := by
  have e2 : mulW .i64 8 (j : Int) = ((8 * j : Nat) : Int) := by
    unfold mulW
    have := addW_small (a := ((8 * j : Nat) : Int)) (b := 0) (by omega) (by omega)
    unfold addW at this
    rw [show (8 * (j : Int)) = ((8 * j : Nat) : Int) by omega]
    simpa using this
  rw [e2]
  exact subN (a := 24) (by omega) (by omega)
theorem ix4 {i j : Nat} (hi : i < 8) (hj : j < 4) : addW .i64 (mulW .i64 4 (i : Int)) (j : Int) = ((4 * i + j : Nat) : Int) := by
  rw [mul4 (by omega)]
  exact addN j (by omega)

set_option maxRecDepth 20000 in
theorem c259 {h : Hp} {b : Nat} {gr : Option Nat} {bs : List Nat} (hh : HS h b gr (hst bs) (rest bs) bs.length) (hbo : ∀ x ∈ bs, x < 256) (hsz : bs.length ≤ 1073741824) :
    C 289 [.pointer (some ⟨b, 0, none⟩)] h fun v h' => v = .agg ((sum bs).map u8).toArray ∧ Kept h h' := by
  refine SCalls_of_vw fol (pf := pf) (shp := shp_259) (f := 289) (fn := Tryz.f289) (by kernel_rfl) (c := Tryz.f289.body.getD .skip) (by kernel_rfl) (by kernel_rfl) fun wf => ?_
  rw [vc_259]
  obtain ⟨a0, c0, hb0, ho0, hg0⟩ := hh
  have hbl := hb0.lt wf
  have hst8 := hst_len bs
  have hsok := hst_ok bs
  have hrl := rest_len bs
  intro h1 e1 h2 e2
  obtain ⟨b1, k1, n1, wf1⟩ := new_blk wf e1
  obtain ⟨b2, k2, n2, wf2⟩ := new_blk wf1 e2
  have k02 := k1.trans wf k2 fun _ _ hf => hf
  have b1' : Blk h2 h.next (some h.next) (List.replicate 32 (u8 0)) := Kept.blk k2 b1
  have b2' : Blk h2 h1.next (some h1.next) ((List.replicate 32 0).map u8) := b2
  have hb2 := Kept.blk k02 hb0
  have ho2 := ho0.keep k02 fun _ _ hf => hf
  clear b1 b2
  refine (c266 hb2).mono fun v h3 ⟨e3, e4⟩ => ?_
  cases e4
  refine ⟨false, e3, ?_⟩
  rw [if_neg (by simp)]
  obtain ⟨m, hm1, hm2⟩ := tail_len bs
  have hsum := tail_sum bs hm2
  have htok := tail_ok hbo
  have hcs8 : h2.cellsAt b 1 8 = some ((hst bs).map u32) := by rw [hb2.cells (by rw [hc_len hst8]; omega), hc1 hst8]
  have r9 : (hcells (hst bs) a0 (rest bs).length c0 bs.length)[9]? = some (.slice a0 (rest bs).length c0) := hc9 hst8 _ _ _ _
  have r10 : (hcells (hst bs) a0 (rest bs).length c0 bs.length)[10]? = some (.int .i64 (bs.length : Int)) := hc10 hst8 _ _ _ _
  generalize hcells (hst bs) a0 (rest bs).length c0 bs.length = HC at hb2 r9 r10
  have ex : ∃ v0 v1 v2 v3 v4 v5 v6 v7 : Nat, hst bs = [v0, v1, v2, v3, v4, v5, v6, v7] := ex8 hst8
  obtain ⟨v0, v1, v2, v3, v4, v5, v6, v7, hv⟩ := ex
  rw [hv] at hcs8
  refine ⟨rfl, rfl, _, _, _, _, _, _, _, _, ⟨rfl, hcs8.trans rfl⟩, ?_⟩
  intro h3 e3
  obtain ⟨b3, k3, n3, wf3⟩ := new_blk wf2 e3
  obtain ⟨h4, y1, y2, y3, y4, y5, y6⟩ := set_blk wf3 b3 k3 wf2 (Nat.le_refl _) (vs := (hst bs).map u32) (by simp [hst8]) (isCell_u32 _)
  have y1' : h3.store h2.next 0 ([v0, v1, v2, v3, v4, v5, v6, v7].map u32) = some h4 := by rw [← hv]; exact y1
  have b4 := Kept.blk y3 hb2
  have o4 := ho2.keep y3 fun _ _ hf => hf
  have k04 := k02.trans wf y3 fun _ _ hf => hf
  have bd4 := Kept.blk y3 b2'
  have br4 := Kept.blk y3 b1'
  refine ⟨rfl, h4, y1', rfl, rfl, _, _, _, ⟨rfl, b4.one r9⟩, ?_⟩
  clear y1 y1' hcs8 b3
  have hd := dataOf_sl o4.sl
  obtain ⟨a5, h5, z1, z2, z3, z4⟩ := Bd.append y6 app201 (S := (h4.next ≤ ·)) (fun g hg => hg) (Bd.nil _ _ _) hd (by simp) (isCell_u8 _) (roomy_of (by omega))
  rw [List.nil_append] at z2
  refine ⟨a5, _, _, h5, z1, ?_⟩
  intro h6 e6
  obtain ⟨a7, h7, w1, w2, w3, w4⟩ := Bd.append1 z4 app201 (S := (h4.next ≤ ·)) (fun g hg => Nat.le_trans z3.next hg) z2 e6 (new := [u8 128]) rfl rfl (roomy_of (by omega))
  refine ⟨a7, _, _, h7, w1, ?_⟩
  have k47 : Kept h4 h7 := (z3.trans y6 w3 fun x hx q => q).mono y6 fun x hx q => by omega
  have hz : zeros bs.length < 64 := Nat.mod_lt _ (by decide)
  generalize hR : (rest bs).length = R at *
  have hRl : R < 64 := by omega
  have h0R : 0 + R = R := Nat.zero_add R
  rw [h0R] at w2 ⊢
  refine ⟨fun vals m hh => ∃ (a : Option Addr) (j : Nat), [.slice a (R + 1 + j) (R + 1 + j)] = vals ∧ m = zeros bs.length - j ∧ j ≤ zeros bs.length ∧ Wf hh ∧ Kept h4 hh ∧ Bd hh 1 (h4.next ≤ ·) a (R + 1 + j) (R + 1 + j) ((rest bs ++ 128 :: List.replicate j 0).map u8), ⟨zeros bs.length, a7, 0, rfl, rfl, Nat.zero_le _, w4, k47, by simpa [u8] using w2⟩, ?_⟩
  clear z1 z2 z3 z4 w1 w2 w3 w4 hd o4 b4 ho2
  rintro a l c m1 h8 ⟨a8, j, e, rfl, hj, wf8, k8, bd⟩
  simp at e
  obtain ⟨rfl, rfl, rfl⟩ := e
  refine ⟨by simp [nonzero], ?_⟩
  rw [rem64]
  by_cases hc : neI (((R + 1 + j) % 64 : Nat) : Int) 56 = true
  · rw [if_pos hc]
    rw [neI_iff] at hc
    have hjz : j < zeros bs.length := by
      unfold zeros at *
      omega
    intro h9 e9
    obtain ⟨a2, h10, y1, y2, y3, y4⟩ := Bd.append1 wf8 app201 (S := (h4.next ≤ ·)) (fun g hg => by have := k8.next; omega) bd e9 rfl rfl (roomy_of (by omega))
    refine ⟨a2, _, _, h10, y1, zeros bs.length - (j + 1), by simp only [lessN]; omega, a2, j + 1, rfl, rfl, by omega, y4, k8.trans y6 y3 fun g hg hs => by omega, ?_⟩
    rw [List.replicate_succ']
    show Bd h10 1 (h4.next ≤ ·) a2 (R + 1 + j + 1) (R + 1 + j + 1) _
    simpa [u8] using y2
  · rw [if_neg hc]
    have hc' : ((R + 1 + j) % 64 : Nat) = 56 := by
      by_cases hq : ((R + 1 + j) % 64 : Nat) = 56
      · exact hq
      · exact absurd (neI_iff.2 (by omega)) hc
    have hjz : j = zeros bs.length := by
      unfold zeros at *
      omega
    subst hjz
    refine ⟨rfl, rfl, _, ⟨rfl, (Kept.blk k8 (Kept.blk y3 hb2)).one r10⟩, ?_⟩
    refine ⟨fun vals m hh => ∃ (a : Option Addr) (j : Nat), [.slice a (R + 1 + zeros bs.length + j) (R + 1 + zeros bs.length + j), .int .i64 (56 - 8 * (j : Int))] = vals ∧ m = 8 - j ∧ j ≤ 8 ∧ Wf hh ∧ Kept h4 hh ∧ Bd hh 1 (h4.next ≤ ·) a (R + 1 + zeros bs.length + j) (R + 1 + zeros bs.length + j) ((rest bs ++ 128 :: (List.replicate (zeros bs.length) 0 ++ (lenBytes bs.length).take j)).map u8), ⟨8, a8, 0, rfl, rfl, Nat.zero_le _, wf8, k8, by simpa using bd⟩, ?_⟩
    clear bd
    rintro a l c n m2 h9 ⟨a9, j, e, rfl, hj, wf9, k9, bd9⟩
    simp at e
    obtain ⟨⟨rfl, rfl, rfl⟩, rfl⟩ := e
    by_cases hg : geI (56 - 8 * (j : Int)) 0 = true
    · rw [if_pos hg]
      rw [geI_iff] at hg
      have hj8 : j < 8 := by omega
      have m1 : (56 - 8 * (j : Int)) = ((56 - 8 * j : Nat) : Int) := by omega
      have m3 : mulW .u64 (toW .u64 (bs.length : Int)) 8 = ((bs.length * 8 % 18446744073709551616 : Nat) : Int) := mul8 bs.length
      have m5 : subW .i64 (56 - 8 * (j : Int)) 8 = 56 - 8 * ((j + 1 : Nat) : Int) := by rw [subW_small (by omega) (by omega)]; omega
      rw [m5, m1, m3, shrW_nat _ _ _ (show 56 - 8 * j ≤ 64 by omega)]
      have m4 : ∀ x : Nat, toW .u8 (x : Int) = ((x % 256 : Nat) : Int) := fun x => by unfold toW; rw [wrap_u8]
      rw [m4]
      refine ⟨Int.natCast_nonneg _, ?_⟩
      have m6 := lenBytes_take bs.length j hj8
      generalize (bs.length * 8 % 18446744073709551616) >>> (56 - 8 * j) % 256 = bt at m6 ⊢
      clear m1 m3 m4 m5
      intro h10 e10
      obtain ⟨a2, h11, y1, y2, y3, y4⟩ := Bd.append1 wf9 app201 (S := (h4.next ≤ ·)) (fun g hg => by have := k9.next; omega) bd9 e10 rfl rfl (roomy_of (by omega))
      refine ⟨a2, _, _, h11, y1, 8 - (j + 1), by simp only [lessN]; omega, a2, j + 1, rfl, rfl, by omega, y4, k9.trans y6 y3 fun g hg hs => by omega, ?_⟩
      rw [m6]
      show Bd h11 1 (h4.next ≤ ·) a2 (R + 1 + zeros bs.length + j + 1) (R + 1 + zeros bs.length + j + 1) _
      simpa [u8] using y2
    · rw [if_neg hg]
      have hj8 : j = 8 := by
        by_cases hq : j = 8
        · exact hq
        · exact absurd (geI_iff.2 (by omega)) hg
      subst hj8
      have hl8 : (lenBytes bs.length).length = 8 := rfl
      have hp : (rest bs ++ 128 :: (List.replicate (zeros bs.length) 0 ++ (lenBytes bs.length).take 8)) = tailOf bs := by
        unfold tailOf
        rw [List.take_of_length_le (by rw [hl8]; omega)]
      rw [hp] at bd9
      have htl : (tailOf bs).length = R + 1 + zeros bs.length + 8 := by
        unfold tailOf
        simp only [List.length_append, List.length_cons, List.length_replicate, hR, hl8]
        omega
      generalize hT : tailOf bs = T at *
      rw [← htl] at bd9 ⊢
      have bd9' := bd9.bound wf9
      have bst := Kept.blk k9 y2
      have hn24 := y3.next
      refine ⟨fun vals mm hh => ∃ (a : Option Addr) (l c j : Nat) (cur : List Nat) (g : Option Nat), [.slice a l c] = vals ∧ mm = m - j ∧ j ≤ m ∧ l = T.length - 64 * j ∧ cur.length = 8 ∧ (∀ w ∈ cur, W32 w) ∧ blocks (m - j) cur (T.drop (64 * j)) = blocks m (hst bs) T ∧ Wf hh ∧ Kept h2 hh ∧ SL8 hh g a l c (T.drop (64 * j)) ∧ (∀ x, g = some x → h4.next ≤ x) ∧ Blk hh h2.next (some h2.next) (cur.map u32),
        ⟨m, a9, T.length, T.length, 0, hst bs, by
          rw [flat_map] at bd9
          obtain ⟨g, hg1, hg2⟩ := bd9.slT rfl
          exact ⟨g, rfl, rfl, Nat.zero_le _, rfl, hst8, hsok, rfl, wf9, y3.trans wf2 k9 fun _ _ hf => hf, hg2, hg1, bst⟩⟩, ?_⟩
      clear bd9 bd9' bst
      rintro a l c mm h10 ⟨a10, l10, c10, j, cur, g10, e, rfl, hj, hl, hcl, hco, hbk, wf10, k10, t10, hg10, bst⟩
      simp at e
      obtain ⟨rfl, rfl, rfl⟩ := e
      by_cases hc : gtI (natI l10) 0 = true
      · rw [if_pos hc]
        have hl0 : 0 < l10 := by rw [gtI_iff, natI_eq] at hc; omega
        have hjm : j < m := by omega
        have hl64 : 64 ≤ l10 := by omega
        have hlc := t10.sl.le
        have hspo : spotOk 1 a10 := by
          have := t10.sl.mem
          unfold spotOk
          cases a10 with
          | none => trivial
          | some q => obtain ⟨b', o', sp'⟩ := q; exact this.1
        have hcell := (t10.sl).cells (i := 0) (m := 64) (by omega) hl0
        rw [← flat_map, Nat.add_zero, List.drop_zero, ← List.map_take] at hcell
        have hfl : ((T.drop (64 * j)).take 64).length = 64 := by rw [List.length_take, List.length_drop]; omega
        have K267 := c267 bst (n := 0) (hs := cur) (bs := (T.drop (64 * j)).take 64) (by simp [hcl]) (by rw [List.drop_zero, List.take_of_length_le (by simp [hcl])]) hcl hfl (fun x hx => htok x (List.mem_of_mem_drop (List.mem_of_mem_take hx))) hco
        have hspl : splice (cur.map u32) 0 ((block cur ((T.drop (64 * j)).take 64)).map u32) = (block cur ((T.drop (64 * j)).take 64)).map u32 := by
          have := block_len (bs := (T.drop (64 * j)).take 64) hcl
          generalize block cur ((T.drop (64 * j)).take 64) = B at this ⊢
          unfold splice
          rw [List.take_zero, List.nil_append]
          have hd : (cur.map u32).drop (0 + (B.map u32).length) = [] := List.drop_eq_nil_of_le (by simp [hcl, this])
          rw [hd, List.append_nil]
        rw [hspl] at K267
        have hbs : blocks (m - (j + 1)) (block cur ((T.drop (64 * j)).take 64)) (T.drop (64 * (j + 1))) = blocks m (hst bs) T := by
          rw [← hbk, show m - j = (m - (j + 1)) + 1 by omega]
          show _ = blocks (m - (j + 1)) (block cur ((T.drop (64 * j)).take 64)) ((T.drop (64 * j)).drop 64)
          rw [List.drop_drop, show 64 * j + 64 = 64 * (j + 1) by omega]
        have hblen := block_len (bs := (T.drop (64 * j)).take 64) hcl
        have hbok := block_ok cur ((T.drop (64 * j)).take 64)
        have tcut := cut_sl t10 (i := 64) (k := l10 - 64) (by omega)
        have hdd : ((T.drop (64 * j)).drop 64).take (l10 - 64) = T.drop (64 * (j + 1)) := by
          rw [List.drop_drop, show 64 * j + 64 = 64 * (j + 1) by omega]
          exact List.take_of_length_le (by rw [List.length_drop]; omega)
        rw [hdd] at tcut
        have hd1 : diffN (natI l10) 64 = l10 - 64 := by unfold diffN; rw [natI_eq]; omega
        have hd2 : diffN (natI c10) 64 = c10 - 64 := by unfold diffN; rw [natI_eq]; omega
        generalize hB : block cur ((T.drop (64 * j)).take 64) = B at *
        clear hB
        generalize (T.drop (64 * j)).take 64 = L at hcell K267 hfl
        obtain ⟨x0, x1, x2, x3, x4, x5, x6, x7, x8, x9, x10, x11, x12, x13, x14, x15, x16, x17, x18, x19, x20, x21, x22, x23, x24, x25, x26, x27, x28, x29, x30, x31, x32, x33, x34, x35, x36, x37, x38, x39, x40, x41, x42, x43, x44, x45, x46, x47, x48, x49, x50, x51, x52, x53, x54, x55, x56, x57, x58, x59, x60, x61, x62, x63, rfl⟩ := ex64 hfl
        rw [cutA_zero, hd1, hd2]
        refine ⟨⟨⟨Int.le_refl _, by omega, by rw [natI_eq]; omega, Int.le_refl _⟩, hspo⟩, ⟨hcell.1, by unfold leN diffN; omega⟩, (fun i => ((([x0, x1, x2, x3, x4, x5, x6, x7, x8, x9, x10, x11, x12, x13, x14, x15, x16, x17, x18, x19, x20, x21, x22, x23, x24, x25, x26, x27, x28, x29, x30, x31, x32, x33, x34, x35, x36, x37, x38, x39, x40, x41, x42, x43, x44, x45, x46, x47, x48, x49, x50, x51, x52, x53, x54, x55, x56, x57, x58, x59, x60, x61, x62, x63] : List Nat).getD i 0 : Nat) : Int)), ⟨rfl, hcell.2.trans rfl⟩, ?_⟩
        refine K267.wf fun v h11 wf11 hn11 ⟨e11, b11, k11⟩ => ?_
        refine ⟨e11, ⟨⟨by omega, by rw [natI_eq]; omega, by rw [natI_eq, natI_eq]; omega, Int.le_refl _⟩, hspo⟩, m - (j + 1), by simp only [lessN]; omega, cutA 64 1 a10, l10 - 64, c10 - 64, j + 1, B, g10, rfl, rfl, by omega, by omega, hblen, hbok, hbs, wf11, k10.trans wf2 k11 fun x hx q => by omega, tcut.keep k11 fun x hx q => by have := hg10 x hx; omega, hg10, b11⟩
      · rw [if_neg hc]
        have hl0 : l10 = 0 := by
          by_cases hq : l10 = 0
          · exact hq
          · exact absurd (gtI_iff.2 (by rw [natI_eq]; omega)) hc
        have hjm : j = m := by omega
        subst hjm
        have hcur : cur = blocks j (hst bs) T := by rw [← hbk, Nat.sub_self]; rfl
        rw [← hcur] at hsum
        have hol : (sum bs).length = 32 := sum_len bs
        generalize hout : sum bs = out at *
        have hcc : h10.cellsAt h2.next 0 8 = some (cur.map u32) := by rw [bst.cells (by simp [hcl]), List.drop_zero, List.take_of_length_le (by simp [hcl])]
        have bd10 := Kept.blk k10 b2'
        have br10 := Kept.blk k10 b1'
        obtain ⟨v0, v1, v2, v3, v4, v5, v6, v7, hcv⟩ := ex8 hcl
        rw [hcv] at hcc
        refine ⟨_, _, _, _, _, _, _, _, ⟨rfl, hcc.trans rfl⟩, ?_⟩
        have k010 := k02.trans wf k10 fun _ _ hf => hf
        refine ⟨fun vals mm hh => ∃ i : Nat, [.int .i64 (i : Int)] = vals ∧ mm = 8 - i ∧ i ≤ 8 ∧ Wf hh ∧ Kept h hh ∧ Blk hh h.next (some h.next) (List.replicate 32 (u8 0)) ∧ Blk hh h1.next (some h1.next) ((out.take (4 * i) ++ List.replicate (32 - 4 * i) 0).map u8), ⟨8, 0, rfl, rfl, Nat.zero_le _, wf10, k010, br10, by simpa using bd10⟩, ?_⟩
        clear bd10 br10 bst t10
        rintro n mm h11 ⟨i, e, rfl, hi, wf11, k11, br11, bd11⟩
        simp at e
        subst e
        by_cases hc : ltI (i : Int) 8 = true
        · rw [if_pos hc]
          have hi8 : i < 8 := by rw [ltI_iff] at hc; omega
          have ew : cur[i]? = some (cur[i]'(by omega)) := List.getElem?_eq_getElem _
          generalize cur[i]'(by omega) = w at ew
          have hnth : (Array.mk ([v0, v1, v2, v3, v4, v5, v6, v7].map u32))[(i : Int).toNat]? = some (.int .u32 (w : Int)) := by
            rw [Int.toNat_natCast]
            show ([v0, v1, v2, v3, v4, v5, v6, v7].map u32).toArray[i]? = _
            rw [List.getElem?_toArray, ← hcv, List.getElem?_map, ew]
            rfl
          have hnv : nthI (Array.mk ([v0, v1, v2, v3, v4, v5, v6, v7].map u32)) (i : Int) = (w : Int) := by
            unfold nthI
            rw [hnth]
          have hnv' : nthI (Array.mk [Value.int IntKind.u32 (v0 : Int), Value.int IntKind.u32 (v1 : Int), Value.int IntKind.u32 (v2 : Int), Value.int IntKind.u32 (v3 : Int), Value.int IntKind.u32 (v4 : Int), Value.int IntKind.u32 (v5 : Int), Value.int IntKind.u32 (v6 : Int), Value.int IntKind.u32 (v7 : Int)]) (i : Int) = (w : Int) := hnv
          refine ⟨⟨⟨Int.natCast_nonneg _, by omega⟩, ?_⟩, ?_⟩
          · unfold isNth
            rw [hnv']
            exact hnth
          rw [hnv']
          refine ⟨fun vals mm hh => ∃ j : Nat, [.int .i64 (j : Int)] = vals ∧ mm = 4 - j ∧ j ≤ 4 ∧ Wf hh ∧ Kept h hh ∧ Blk hh h.next (some h.next) (List.replicate 32 (u8 0)) ∧ Blk hh h1.next (some h1.next) ((out.take (4 * i + j) ++ List.replicate (32 - (4 * i + j)) 0).map u8), ⟨4, 0, rfl, rfl, Nat.zero_le _, wf11, k11, br11, bd11⟩, ?_⟩
          rintro n mm h12 ⟨j', e, rfl, hj', wf12, k12, br12, bd12⟩
          simp at e
          subst e
          by_cases hc : ltI (j' : Int) 4 = true
          · rw [if_pos hc]
            have hj4 : j' < 4 := by rw [ltI_iff] at hc; omega
            rw [sh8 hj4, ix4 hi8 hj4]
            have eo : out[4 * i + j']? = some ((w >>> (24 - 8 * j')) % 256) := by
              rw [hsum]
              have := out_get (H := []) (show cur[(4 * i + j') / 4]? = some w by rw [show (4 * i + j') / 4 = i by omega]; exact ew)
              rw [this, show (4 * i + j') % 4 = j' by omega]
            have m4 : toW .u8 ((w >>> (24 - 8 * j') : Nat) : Int) = ((w >>> (24 - 8 * j') % 256 : Nat) : Int) := by unfold toW; rw [wrap_u8]
            rw [shrW_nat _ _ _ (show 24 - 8 * j' ≤ 32 by omega), m4]
            have hlen : ((out.take (4 * i + j') ++ List.replicate (32 - (4 * i + j')) 0).map u8).length = 32 := by simp; omega
            obtain ⟨h13, y1, y2, y3, y4, y5⟩ := bd12.set (o := 4 * i + j') (by omega) (v := u8 (w >>> (24 - 8 * j') % 256)) rfl
            rw [fill_step eo 32 hol] at y2
            have hpi : plusI 0 ((4 * i + j' : Nat) : Int) 1 = 4 * i + j' := by simp only [plusI, Int.toNat_natCast]; omega
            rw [hpi]
            refine ⟨Int.natCast_nonneg _, ⟨rfl, Int.natCast_nonneg _, by omega⟩, rfl, h13, y1, 4 - (j' + 1), by simp only [lessN]; omega, j' + 1, ?_, rfl, by omega, y5 wf12, k12.trans wf y3 fun g hg hs => by have := k1.next; omega, y3.blk br12 fun x hx q => by simp at hx; omega, y2⟩
            rw [show addW .i64 (j' : Int) 1 = ((j' + 1 : Nat) : Int) from addN 1 (by omega)]
          · rw [if_neg hc]
            have hj4 : j' = 4 := by
              by_cases hq : j' = 4
              · exact hq
              · exact absurd (ltI_iff.2 (by omega)) hc
            subst hj4
            refine ⟨8 - (i + 1), by simp only [lessN]; omega, i + 1, ?_, rfl, by omega, wf12, k12, br12, bd12⟩
            rw [show addW .i64 (i : Int) 1 = ((i + 1 : Nat) : Int) from addN 1 (by omega)]
        · rw [if_neg hc]
          have hi8 : i = 8 := by
            by_cases hq : i = 8
            · exact hq
            · exact absurd (ltI_iff.2 (by omega)) hc
          subst hi8
          rw [show 4 * 8 = 32 from rfl, List.take_of_length_le (by omega), Nat.sub_self, List.replicate_zero, List.append_nil] at bd11
          obtain ⟨h12, y1, y2, y3, y4, y5, y6⟩ := set_blk wf11 br11 k11 wf (Nat.le_refl _) (vs := out.map u8) (by simp [hol]) (isCell_u8 _)
          clear hout hsum hcur hbk
          obtain ⟨x0, x1, x2, x3, x4, x5, x6, x7, x8, x9, x10, x11, x12, x13, x14, x15, x16, x17, x18, x19, x20, x21, x22, x23, x24, x25, x26, x27, x28, x29, x30, x31, rfl⟩ := ex32 hol
          exact ⟨(fun i => ((([x0, x1, x2, x3, x4, x5, x6, x7, x8, x9, x10, x11, x12, x13, x14, x15, x16, x17, x18, x19, x20, x21, x22, x23, x24, x25, x26, x27, x28, x29, x30, x31] : List Nat).getD i 0 : Nat) : Int)), ⟨rfl, (bd11.cells (Nat.le_of_ble_eq_true rfl)).trans rfl⟩, rfl, h12, y1, (fun i => ((([x0, x1, x2, x3, x4, x5, x6, x7, x8, x9, x10, x11, x12, x13, x14, x15, x16, x17, x18, x19, x20, x21, x22, x23, x24, x25, x26, x27, x28, x29, x30, x31] : List Nat).getD i 0 : Nat) : Int)), ⟨rfl, (y2.cells (Nat.le_of_ble_eq_true rfl)).trans rfl⟩, rfl, y3⟩

end Go.Proofs.YtlodmlmlmkcpkaaGreatDoor.sb

/- Contract of the program's own sha256. -/
set_option linter.unusedVariables false
namespace Go.Proofs.YtlodmlmlmkcpkaaGreatDoor.sb
open Go Go.Cn Go.Cn.Sha Go.Proofs Go.Proofs.YtlodmlmlmkcpkaaGreatDoor.vc

set_option maxRecDepth 20000 in
theorem c244' (s : ByteArray) (h : Hp) (hs : s.size ≤ 1073741824) : C 238 [.string s] h fun v h' => v = sumV s ∧ Kept h h' := by
  refine SCalls_of_vw fol (pf := pf) (shp := shp_244) (f := 238) (fn := Tryz.f238) (by kernel_rfl) (c := Tryz.f238.body.getD .skip) (by kernel_rfl) (by kernel_rfl) fun wf => ?_
  rw [vc_244]
  intro h1 e1
  obtain ⟨b1, k1, n1, wf1⟩ := new_blk wf e1
  refine (c257 h1).wf fun v h2 wf2 hn2 ⟨b, e2, hb, bb, k2⟩ => ?_
  refine ⟨_, e2, ?_⟩
  intro h3 e3
  obtain ⟨b3, k3, n3, wf3⟩ := new_blk wf2 e3
  have k02 := k1.trans wf k2 fun _ _ hf => hf
  have k03 := k02.trans wf k3 fun _ _ hf => hf
  have hbl := bb.lt wf2
  have hs3 : HS h3 b none (hst []) (rest []) ([] : List Nat).length := ⟨none, 0, Kept.blk k3 bb, Ow.nil _ _, by simp⟩
  have sp : SlT (fun s => [Value.string s]) 1 h3 (some h2.next) (some ⟨h2.next, 0, none⟩) 1 1 [s] := ⟨⟨Nat.le_refl _, rfl, .inl rfl, fun _ => ⟨_, b3, Nat.le_refl _, rfl⟩⟩, rfl⟩
  refine (c258 hs3 (by simp) sp (fun x hx => by simp at hx; subst hx; simp; omega) (fun x hx => by simp at hx; omega) (by simp [bytes8_len]; omega) (by omega)).wf fun v h4 wf4 hn4 ⟨e4, gr', hs4, hg4, k4⟩ => ?_
  simp only [List.flatMap_cons, List.flatMap_nil, List.append_nil, List.nil_append] at hs4
  refine ⟨e4, ?_⟩
  refine (c259 hs4 (bytes8_ok s) (by rw [bytes8_len]; exact hs)).wf fun v h5 wf5 hn5 ⟨e5, k5⟩ => ?_
  have k04 : Kept h h4 := k03.trans wf k4 fun x hx q => by
    rcases q with q | q
    · omega
    · simp at q
  have k05 := k04.trans wf k5 fun _ _ hf => hf
  have b4 := k4.blk (Kept.blk k3 (Kept.blk k2 b1)) fun x hx q => by
    simp at hx
    rcases q with q | q
    · omega
    · simp at q
  have b5 := Kept.blk k5 b4
  have hl := sum_len (bytes8 s)
  obtain ⟨h6, y1, y2, y3, y4, y5, y6⟩ := set_blk wf5 b5 k05 wf (Nat.le_refl _) (vs := (sum (bytes8 s)).map u8) (by simp [hl]) (isCell_u8 _)
  unfold sumV
  generalize sum (bytes8 s) = out at *
  obtain ⟨x0, x1, x2, x3, x4, x5, x6, x7, x8, x9, x10, x11, x12, x13, x14, x15, x16, x17, x18, x19, x20, x21, x22, x23, x24, x25, x26, x27, x28, x29, x30, x31, rfl⟩ := ex32 hl
  exact ⟨(fun i => ((([x0, x1, x2, x3, x4, x5, x6, x7, x8, x9, x10, x11, x12, x13, x14, x15, x16, x17, x18, x19, x20, x21, x22, x23, x24, x25, x26, x27, x28, x29, x30, x31] : List Nat).getD i 0 : Nat) : Int)), e5, rfl, h6, y1, (fun i => ((([x0, x1, x2, x3, x4, x5, x6, x7, x8, x9, x10, x11, x12, x13, x14, x15, x16, x17, x18, x19, x20, x21, x22, x23, x24, x25, x26, x27, x28, x29, x30, x31] : List Nat).getD i 0 : Nat) : Int)), ⟨rfl, (y2.cells (Nat.le_of_ble_eq_true rfl)).trans rfl⟩, rfl, y3⟩

theorem c244 (s : ByteArray) (h : Hp) (hs : s.size ≤ 1073741824) : C 238 [.string s] h fun v h' => v = sumV s ∧ h' = h :=
  (c244' s h hs).trim (of_decide_eq_true (by kernel_rfl)) fun v h' ⟨e, k⟩ => ⟨stay_of k, by rw [e]; exact sumV_plain s, e⟩

end Go.Proofs.YtlodmlmlmkcpkaaGreatDoor.sb

/- Contract of the program's own cyclic sum: the bytes of a string fed to a register; the functions that answer by a law. -/
set_option linter.unusedVariables false
namespace Go.Proofs.YtlodmlmlmkcpkaaGreatDoor.sb
open Go Go.Cn Go.Cn.Sha Go.Cn.Crc Go.Proofs Go.Proofs.YtlodmlmlmkcpkaaGreatDoor.vc

theorem byteAt_eq {s : ByteArray} {i b : Nat} (h : (bytes8 s)[i]? = some b) : byteAt s (i : Int) = (b : Int) := by
  unfold bytes8 at h
  rw [List.getElem?_map] at h
  have hi : i < s.data.toList.length := by
    cases hx : s.data.toList[i]? with
    | none => rw [hx] at h; simp at h
    | some x => exact (List.getElem?_eq_some_iff.1 hx).1
  have hi' : i < s.size := by simpa using hi
  rw [List.getElem?_eq_getElem hi] at h
  simp only [Option.map_some, Option.some.injEq] at h
  unfold byteAt
  rw [Int.toNat_natCast, getElem?_pos s i hi', ← h]
  rfl

theorem odd_iff {y : Nat} (hy : W32 y) : eqI (andW .u32 (y : Int) 1) 1 = y.testBit 0 := by
  have e : andW .u32 (y : Int) 1 = ((y &&& 1 : Nat) : Int) := andW_u32 (b := 1) hy (by unfold W32; omega)
  rw [e, Nat.and_one_is_mod, Nat.testBit_zero, Bool.eq_iff_iff, eqI_iff, decide_eq_true_eq]
  omega

theorem c301 {r : Nat} (hr : W32 r) (s : ByteArray) (hs : s.size ≤ 1073741824) (h : Hp) : C 280 [.int .u32 r, .string s] h fun v h' => v = .int .u32 (feedN r (bytes8 s) : Nat) ∧ h' = h := by
  refine SCalls_of_vw fol (pf := pf) (shp := shp_301) (f := 280) (fn := Tryz.f280) (by kernel_rfl) (c := Tryz.f280.body.getD .skip) (by kernel_rfl) (by kernel_rfl) fun wf => ?_
  rw [vc_301]
  have hl : (bytes8 s).length = s.size := bytes8_len s
  refine ⟨fun vals m hh => ∃ (x i : Nat), [.int .u32 (x : Int), .int .i64 (i : Int)] = vals ∧ m = s.size - i ∧ i ≤ s.size ∧ W32 x ∧ x = feedN r ((bytes8 s).take i) ∧ hh = h, ⟨s.size, r, 0, rfl, rfl, Nat.zero_le _, hr, rfl, rfl⟩, ?_⟩
  rintro n n1 m hh ⟨x, i, e, rfl, hi, hx, hxe, rfl⟩
  simp at e
  obtain ⟨rfl, rfl⟩ := e
  by_cases hc : ltI (i : Int) (natI (lenS s)) = true
  · rw [if_pos hc]
    have his : i < s.size := by rw [ltI_iff, natI_eq] at hc; unfold lenS at hc; omega
    have eb : (bytes8 s)[i]? = some ((bytes8 s)[i]'(by omega)) := List.getElem?_eq_getElem _
    generalize (bytes8 s)[i]'(by omega) = b at eb
    have hb : b < 256 := bytes8_ok s b (List.mem_of_getElem? eb)
    have hbw : W32 b := by unfold W32; omega
    have e1 : toW .u32 (byteAt s (i : Int)) = (b : Int) := by rw [byteAt_eq eb]; unfold toW; rw [wrap_u32, Nat.mod_eq_of_lt hbw]
    rw [e1, xorW_u32 hx hbw]
    refine ⟨⟨Int.natCast_nonneg _, by unfold lenS; omega⟩, ?_⟩
    refine ⟨fun vals m hz => ∃ (y k : Nat), [.int .u32 (y : Int), .int .i64 (k : Int)] = vals ∧ m = 8 - k ∧ k ≤ 8 ∧ W32 y ∧ y = steps k (x ^^^ b) ∧ hz = hh, ⟨8, x ^^^ b, 0, rfl, rfl, Nat.zero_le _, hx.xor hbw, rfl, rfl⟩, ?_⟩
    rintro n n2 m1 hh' ⟨y, k, e, rfl, hk, hy, hye, rfl⟩
    simp at e
    obtain ⟨rfl, rfl⟩ := e
    by_cases hc : ltI (k : Int) 8 = true
    · rw [if_pos hc]
      have hk8 : k < 8 := by rw [ltI_iff] at hc; omega
      have hstep : steps (k + 1) (x ^^^ b) = step1 y := by rw [steps_succ, hye]
      have hkk : addW .i64 (k : Int) 1 = ((k + 1 : Nat) : Int) := addN 1 (by omega)
      have hsh : shrW .u32 (y : Int) 1 = ((y >>> 1 : Nat) : Int) := shrW_nat .u32 y 1 (by decide)
      refine ⟨by simp [nonneg], ?_⟩
      rw [odd_iff hy, hsh, hkk]
      cases hodd : y.testBit 0 with
      | true =>
        rw [if_pos rfl]
        have e3 : step1 y = (y >>> 1) ^^^ poly := by unfold step1; rw [hodd]; rfl
        have e4 : xorW .u32 ((y >>> 1 : Nat) : Int) 3988292384 = (((y >>> 1) ^^^ poly : Nat) : Int) := xorW_u32 (b := poly) (hy.shr 1) (by unfold W32 poly; omega)
        rw [e4]
        exact ⟨8 - (k + 1), by simp only [lessN]; omega, _, k + 1, rfl, rfl, by omega, by rw [← e3]; exact step1_ok hy, by rw [hstep, e3], rfl⟩
      | false =>
        rw [if_neg (by simp)]
        have e3 : step1 y = y >>> 1 := by unfold step1; rw [hodd]; rfl
        exact ⟨8 - (k + 1), by simp only [lessN]; omega, _, k + 1, rfl, rfl, by omega, hy.shr 1, by rw [hstep, e3], rfl⟩
    · rw [if_neg hc]
      have hk8 : k = 8 := by
        by_cases hq : k = 8
        · exact hq
        · exact absurd (ltI_iff.2 (by omega)) hc
      subst hk8
      refine ⟨s.size - (i + 1), by simp only [lessN]; omega, y, i + 1, ?_, rfl, by omega, hy, ?_, rfl⟩
      · rw [show addW .i64 (i : Int) 1 = ((i + 1 : Nat) : Int) from addN 1 (by omega)]
      · rw [List.take_add_one, eb, feedN_append, ← hxe, hye]
        rfl
  · rw [if_neg hc]
    have his : i = s.size := by
      by_cases hq : i = s.size
      · exact hq
      · exact absurd (ltI_iff.2 (by rw [natI_eq]; unfold lenS; omega)) hc
    subst his
    rw [List.take_of_length_le (by omega)] at hxe
    exact ⟨by rw [hxe], rfl⟩

/-- The functions that answer by a law. -/
def nat : FuncId → List Value → Hp → Option (Option Value) := fun f args _ =>
  match Nat.beq f 238 with
  | true => match args with
    | [.string s] => match Nat.ble s.size 1073741824 with
      | true => some (some (sumV s))
      | false => some none
    | _ => some none
  | false => match Nat.beq f 280 with
    | true => match args with
      | [.int .u32 (.ofNat r), .string s] => match Nat.ble s.size 1073741824 && Nat.blt r 4294967296 with
        | true => some (some (.int .u32 (.ofNat (fast r (bytes8 s)))))
        | false => some none
      | _ => some none
    | false => none

theorem nat_ok : NatOk Tryz.prog nat := by
  intro f args h v hn
  unfold nat at hn
  split at hn
  · rename_i hf
    have hf := Nat.eq_of_beq_eq_true hf
    subst hf
    split at hn
    · rename_i s
      split at hn
      · rename_i hs
        simp only [Option.some.injEq] at hn
        subst hn
        exact c244 s h (Nat.le_of_ble_eq_true hs)
      · simp at hn
    · simp at hn
  · split at hn
    · rename_i hf
      have hf := Nat.eq_of_beq_eq_true hf
      subst hf
      split at hn
      · rename_i r s
        split at hn
        · rename_i hs
          simp only [Bool.and_eq_true] at hs
          simp only [Option.some.injEq] at hn
          subst hn
          rw [fast_eq _ _ (bytes8_ok s)]
          exact c301 (r := r) (by have := hs.2; unfold W32; simpa [Nat.blt_eq] using this) s (Nat.le_of_ble_eq_true hs.1) h
        · simp at hn
      · simp at hn
    · simp at hn
end Go.Proofs.YtlodmlmlmkcpkaaGreatDoor.sb
