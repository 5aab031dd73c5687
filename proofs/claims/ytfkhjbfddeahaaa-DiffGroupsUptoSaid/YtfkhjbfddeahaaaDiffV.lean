/- The conditions of the symbolic runs of functions of the program (printed by a program of ours, vcgen.py; checked by the kernel). -/
import Derived.Test.YtfkhjbfddeahaaaCoA
import Derived.Test.YtfkhjbfddeahaaaProg
import Derived.KernelRfl
set_option linter.unusedVariables false
namespace Go.Proofs.Ytfkhjbfddeahaaa.vc
open Go Go.Cn Go.Proofs
def pf : FuncId → Bool := fun f => f == 18 || f == 24

def shp51 : Nat → List (Tmp × TypeId) := fun i => []
theorem vc51 (C : FuncId → List Value → Hp → (Value → Hp → Prop) → Prop) (k o n : ByteArray) (a b : Bool) (h : Hp) (K : Value → Hp → Prop) : vBody Try.prog C pf shp51 Try.f51 (Try.f51.body.getD .skip) [.agg #[.string k, .bool a, .bool b, .string o, .string n]] h K = (
  ∀ (h' : Hp),
    h' = h.alloc [Value.string k, Value.bool a, Value.bool b, Value.string o, Value.string n] 88 →
      plainA (some (Addr.mk h.next 0 none)) = true ∧
        ∃ (s : ByteArray),
          (plainA (some (Addr.mk h.next 0 none)) = true ∧ h'.cellsAt h.next 0 1 = some [Value.string s]) ∧
            (notB (strEq s (ByteArray.mk (Array.mk []))) = true → plainA (some (Addr.mk h.next 0 none)) = true) ∧
              ∃ (b : Bool),
                (notB (strEq s (ByteArray.mk (Array.mk []))) = true → plainA (some (Addr.mk h.next 1 none)) = true ∧ h'.cellsAt h.next 1 1 = some [Value.bool b]) ∧
                  (andB (notB b) (notB (strEq s (ByteArray.mk (Array.mk [])))) = true → plainA (some (Addr.mk h.next 0 none)) = true) ∧
                    ∃ (b_1 : Bool),
                      (andB (notB b) (notB (strEq s (ByteArray.mk (Array.mk [])))) = true → plainA (some (Addr.mk h.next 2 none)) = true ∧ h'.cellsAt h.next 2 1 = some [Value.bool b_1]) ∧
                        (notB (sel (strEq s (ByteArray.mk (Array.mk []))) true (sel (notB b) (notB b_1) false)) = true → plainA (some (Addr.mk h.next 0 none)) = true) ∧
                          ∃ (b_2 : Bool),
                            (notB (sel (strEq s (ByteArray.mk (Array.mk []))) true (sel (notB b) (notB b_1) false)) = true → plainA (some (Addr.mk h.next 1 none)) = true ∧ h'.cellsAt h.next 1 1 = some [Value.bool b_2]) ∧
                              (andB (notB b_2) (notB (sel (strEq s (ByteArray.mk (Array.mk []))) true (sel (notB b) (notB b_1) false))) = true → plainA (some (Addr.mk h.next 0 none)) = true) ∧
                                ∃ (s_1 : ByteArray),
                                  (andB (notB b_2) (notB (sel (strEq s (ByteArray.mk (Array.mk []))) true (sel (notB b) (notB b_1) false))) = true → plainA (some (Addr.mk h.next 3 none)) = true ∧ h'.cellsAt h.next 3 1 = some [Value.string s_1]) ∧
                                    (notB (sel (sel (strEq s (ByteArray.mk (Array.mk []))) true (sel (notB b) (notB b_1) false)) true (sel (notB b_2) (notB (strEq s_1 (ByteArray.mk (Array.mk [])))) false)) = true → plainA (some (Addr.mk h.next 0 none)) = true) ∧
                                      ∃ (b_3 : Bool),
                                        (notB (sel (sel (strEq s (ByteArray.mk (Array.mk []))) true (sel (notB b) (notB b_1) false)) true (sel (notB b_2) (notB (strEq s_1 (ByteArray.mk (Array.mk [])))) false)) = true → plainA (some (Addr.mk h.next 2 none)) = true ∧ h'.cellsAt h.next 2 1 = some [Value.bool b_3]) ∧
                                          (andB (notB b_3) (notB (sel (sel (strEq s (ByteArray.mk (Array.mk []))) true (sel (notB b) (notB b_1) false)) true (sel (notB b_2) (notB (strEq s_1 (ByteArray.mk (Array.mk [])))) false))) = true → plainA (some (Addr.mk h.next 0 none)) = true) ∧
                                            ∃ (s_2 : ByteArray),
                                              (andB (notB b_3) (notB (sel (sel (strEq s (ByteArray.mk (Array.mk []))) true (sel (notB b) (notB b_1) false)) true (sel (notB b_2) (notB (strEq s_1 (ByteArray.mk (Array.mk [])))) false))) = true → plainA (some (Addr.mk h.next 4 none)) = true ∧ h'.cellsAt h.next 4 1 = some [Value.string s_2]) ∧
                                                if sel (sel (sel (strEq s (ByteArray.mk (Array.mk []))) true (sel (notB b) (notB b_1) false)) true (sel (notB b_2) (notB (strEq s_1 (ByteArray.mk (Array.mk [])))) false)) true (sel (notB b_3) (notB (strEq s_2 (ByteArray.mk (Array.mk [])))) false) = true then K (Value.bool false) h'
                                                else
                                                  plainA (some (Addr.mk h.next 0 none)) = true ∧
                                                    ∃ (b : Bool),
                                                      (plainA (some (Addr.mk h.next 1 none)) = true ∧ h'.cellsAt h.next 1 1 = some [Value.bool b]) ∧
                                                        (b = true → plainA (some (Addr.mk h.next 0 none)) = true) ∧
                                                          ∃ (b_4 : Bool),
                                                            (b = true → plainA (some (Addr.mk h.next 2 none)) = true ∧ h'.cellsAt h.next 2 1 = some [Value.bool b_4]) ∧
                                                              (sel b b_4 false = true → plainA (some (Addr.mk h.next 0 none)) = true) ∧
                                                                ∃ (s : ByteArray),
                                                                  (sel b b_4 false = true → plainA (some (Addr.mk h.next 3 none)) = true ∧ h'.cellsAt h.next 3 1 = some [Value.string s]) ∧
                                                                    (sel b b_4 false = true → plainA (some (Addr.mk h.next 0 none)) = true) ∧ ∃ (s_3 : ByteArray), (sel b b_4 false = true → plainA (some (Addr.mk h.next 4 none)) = true ∧ h'.cellsAt h.next 4 1 = some [Value.string s_3]) ∧ K (Value.bool (notB (sel (sel b b_4 false) (strEq s s_3) false))) h') := by kernel_rfl

def shp52 : Nat → List (Tmp × TypeId) := fun i => []
theorem vc52 (C : FuncId → List Value → Hp → (Value → Hp → Prop) → Prop) (k o n : ByteArray) (a b : Bool) (h : Hp) (K : Value → Hp → Prop) : vBody Try.prog C pf shp52 Try.f52 (Try.f52.body.getD .skip) [.agg #[.string k, .bool a, .bool b, .string o, .string n]] h K = (
  ∀ (h' : Hp),
    h' = h.alloc [Value.string k, Value.bool a, Value.bool b, Value.string o, Value.string n] 88 →
      ∀ (h'_1 : Hp),
        h'_1 = h'.alloc [Value.string (ByteArray.mk (Array.mk [])), Value.bool false, Value.bool false, Value.string (ByteArray.mk (Array.mk [])), Value.string (ByteArray.mk (Array.mk []))] 88 →
          plainA (some (Addr.mk h.next 0 none)) = true ∧
            ∃ (s : ByteArray),
              (plainA (some (Addr.mk h.next 0 none)) = true ∧ h'_1.cellsAt h.next 0 1 = some [Value.string s]) ∧
                plainA (some (Addr.mk h.next 0 none)) = true ∧
                  ∃ (b : Bool),
                    (plainA (some (Addr.mk h.next 2 none)) = true ∧ h'_1.cellsAt h.next 2 1 = some [Value.bool b]) ∧
                      plainA (some (Addr.mk h.next 0 none)) = true ∧
                        ∃ (b_1 : Bool),
                          (plainA (some (Addr.mk h.next 1 none)) = true ∧ h'_1.cellsAt h.next 1 1 = some [Value.bool b_1]) ∧
                            plainA (some (Addr.mk h.next 0 none)) = true ∧
                              ∃ (s_1 : ByteArray),
                                (plainA (some (Addr.mk h.next 4 none)) = true ∧ h'_1.cellsAt h.next 4 1 = some [Value.string s_1]) ∧
                                  plainA (some (Addr.mk h.next 0 none)) = true ∧
                                    ∃ (s_2 : ByteArray),
                                      (plainA (some (Addr.mk h.next 3 none)) = true ∧ h'_1.cellsAt h.next 3 1 = some [Value.string s_2]) ∧
                                        plainA (some (Addr.mk h'.next 0 none)) = true ∧
                                          ∃ (h'_2 : Hp),
                                            h'_1.store h'.next 0 [Value.string s, Value.bool b, Value.bool b_1, Value.string s_1, Value.string s_2] = some h'_2 ∧
                                              ∃ (s : ByteArray),
                                                ∃ (b : Bool), ∃ (b_2 : Bool), ∃ (s_3 : ByteArray), ∃ (s_4 : ByteArray), (plainA (some (Addr.mk h'.next 0 none)) = true ∧ h'_2.cellsAt h'.next 0 5 = some [Value.string s, Value.bool b, Value.bool b_2, Value.string s_3, Value.string s_4]) ∧ K (Value.agg (Array.mk [Value.string s, Value.bool b, Value.bool b_2, Value.string s_3, Value.string s_4])) h'_2) := by kernel_rfl

def shp17 : Nat → List (Tmp × TypeId) := fun i => if i = 2 then [(3, 3)] else []
theorem vc17 (C : FuncId → List Value → Hp → (Value → Hp → Prop) → Prop) (a : Option Addr) (l c : Nat) (h : Hp) (K : Value → Hp → Prop) : vBody Try.prog C pf shp17 Try.f17 (Try.f17.body.getD .skip) [.slice a l c] h K = (
  ∃ (I : List Value → Nat → Hp → Prop),
    (∃ (m : Nat), I [Value.int IntKind.i64 0] m h) ∧
      ∀ (n : Int) (m : Nat) (h : Hp),
        I [Value.int IntKind.i64 n] m h →
          if ltI n (natI l) = true then
            (a.isSome = true ∧ inR n l) ∧
              ∃ (s : ByteArray),
                ∃ (b : Bool),
                  ∃ (b_1 : Bool),
                    ∃ (s_1 : ByteArray),
                      ∃ (s_2 : ByteArray),
                        (plainA (some (Addr.mk (blk a) (plusI (off a) n 5) none)) = true ∧ h.cellsAt (blk a) (plusI (off a) n 5) 5 = some [Value.string s, Value.bool b, Value.bool b_1, Value.string s_1, Value.string s_2]) ∧
                          C 51 [Value.agg (Array.mk [Value.string s, Value.bool b, Value.bool b_1, Value.string s_1, Value.string s_2])] h fun (v : Value) (h' : Hp) =>
                            ∃ (b : Bool),
                              v = Value.bool b ∧
                                (andB (gtI n 0) (notB (notB b)) = true → a.isSome = true ∧ inR (subW IntKind.i64 n 1) l) ∧
                                  (andB (gtI n 0) (notB (notB b)) = true → plainA (some (Addr.mk (blk a) (plusI (off a) (subW IntKind.i64 n 1) 5) none)) = true) ∧
                                    ∃ (s : ByteArray),
                                      (andB (gtI n 0) (notB (notB b)) = true → plainA (some (Addr.mk (blk a) (plusI (off a) (subW IntKind.i64 n 1) 5) none)) = true ∧ h'.cellsAt (blk a) (plusI (off a) (subW IntKind.i64 n 1) 5) 1 = some [Value.string s]) ∧
                                        (andB (gtI n 0) (notB (notB b)) = true → a.isSome = true ∧ inR n l) ∧
                                          (andB (gtI n 0) (notB (notB b)) = true → plainA (some (Addr.mk (blk a) (plusI (off a) n 5) none)) = true) ∧
                                            ∃ (s_3 : ByteArray),
                                              (andB (gtI n 0) (notB (notB b)) = true → plainA (some (Addr.mk (blk a) (plusI (off a) n 5) none)) = true ∧ h'.cellsAt (blk a) (plusI (off a) n 5) 1 = some [Value.string s_3]) ∧
                                                if sel (notB b) true (sel (gtI n 0) (notB (strLt s s_3)) false) = true then K (Value.int IntKind.i64 230) h' else ∃ (m' : Nat), lessN m' m ∧ I [Value.int IntKind.i64 (addW IntKind.i64 n 1)] m' h'
          else K (Value.int IntKind.i64 0) h) := by kernel_rfl

def shp16 : Nat → List (Tmp × TypeId) := fun i => if i = 2 then [(8, 3)] else []
theorem vc16 (C : FuncId → List Value → Hp → (Value → Hp → Prop) → Prop) (a : Option Addr) (l c : Nat) (h : Hp) (K : Value → Hp → Prop) : vBody Try.prog C pf shp16 Try.f16 (Try.f16.body.getD .skip) [.slice a l c] h K = (
  ∃ (I : List Value → Nat → Hp → Prop),
    (∃ (m : Nat), I [Value.int IntKind.i64 0] m h) ∧
      ∀ (n : Int) (m : Nat) (h : Hp),
        I [Value.int IntKind.i64 n] m h →
          if ltI n (natI l) = true then
            (a.isSome = true ∧ inR n l) ∧
              ∃ (s : ByteArray),
                ∃ (b : Bool),
                  ∃ (b_1 : Bool),
                    ∃ (s_1 : ByteArray),
                      ∃ (s_2 : ByteArray),
                        (plainA (some (Addr.mk (blk a) (plusI (off a) n 5) none)) = true ∧ h.cellsAt (blk a) (plusI (off a) n 5) 5 = some [Value.string s, Value.bool b, Value.bool b_1, Value.string s_1, Value.string s_2]) ∧
                          ∀ (h' : Hp),
                            h' = h.alloc [Value.string (ByteArray.mk (Array.mk [])), Value.bool false, Value.bool false, Value.string (ByteArray.mk (Array.mk [])), Value.string (ByteArray.mk (Array.mk []))] 88 →
                              plainA (some (Addr.mk h.next 0 none)) = true ∧
                                ∃ (h'_1 : Hp),
                                  h'.store h.next 0 [Value.string s, Value.bool b, Value.bool b_1, Value.string s_1, Value.string s_2] = some h'_1 ∧
                                    plainA (some (Addr.mk h.next 0 none)) = true ∧
                                      ∃ (b : Bool),
                                        (plainA (some (Addr.mk h.next 1 none)) = true ∧ h'_1.cellsAt h.next 1 1 = some [Value.bool b]) ∧
                                          plainA (some (Addr.mk h.next 0 none)) = true ∧
                                            ∃ (b_2 : Bool),
                                              (plainA (some (Addr.mk h.next 2 none)) = true ∧ h'_1.cellsAt h.next 2 1 = some [Value.bool b_2]) ∧
                                                (eqB b b_2 = true → plainA (some (Addr.mk h.next 0 none)) = true) ∧
                                                  ∃ (s : ByteArray),
                                                    (eqB b b_2 = true → plainA (some (Addr.mk h.next 3 none)) = true ∧ h'_1.cellsAt h.next 3 1 = some [Value.string s]) ∧
                                                      (eqB b b_2 = true → plainA (some (Addr.mk h.next 0 none)) = true) ∧
                                                        ∃ (s_3 : ByteArray),
                                                          (eqB b b_2 = true → plainA (some (Addr.mk h.next 4 none)) = true ∧ h'_1.cellsAt h.next 4 1 = some [Value.string s_3]) ∧
                                                            plainA (some (Addr.mk h.next 0 none)) = true ∧
                                                              ∃ (s_4 : ByteArray),
                                                                (plainA (some (Addr.mk h.next 0 none)) = true ∧ h'_1.cellsAt h.next 0 1 = some [Value.string s_4]) ∧
                                                                  (notB (strEq s_4 (ByteArray.mk (Array.mk []))) = true → plainA (some (Addr.mk h.next 0 none)) = true) ∧
                                                                    ∃ (b_3 : Bool),
                                                                      (notB (strEq s_4 (ByteArray.mk (Array.mk []))) = true → plainA (some (Addr.mk h.next 1 none)) = true ∧ h'_1.cellsAt h.next 1 1 = some [Value.bool b_3]) ∧
                                                                        (andB (notB b_3) (notB (strEq s_4 (ByteArray.mk (Array.mk [])))) = true → plainA (some (Addr.mk h.next 0 none)) = true) ∧
                                                                          ∃ (b_4 : Bool),
                                                                            (andB (notB b_3) (notB (strEq s_4 (ByteArray.mk (Array.mk [])))) = true → plainA (some (Addr.mk h.next 2 none)) = true ∧ h'_1.cellsAt h.next 2 1 = some [Value.bool b_4]) ∧
                                                                              (notB (sel (strEq s_4 (ByteArray.mk (Array.mk []))) true (sel (notB b_3) (notB b_4) false)) = true → plainA (some (Addr.mk h.next 0 none)) = true) ∧
                                                                                ∃ (b_5 : Bool),
                                                                                  (notB (sel (strEq s_4 (ByteArray.mk (Array.mk []))) true (sel (notB b_3) (notB b_4) false)) = true → plainA (some (Addr.mk h.next 1 none)) = true ∧ h'_1.cellsAt h.next 1 1 = some [Value.bool b_5]) ∧
                                                                                    (andB (notB b_5) (notB (sel (strEq s_4 (ByteArray.mk (Array.mk []))) true (sel (notB b_3) (notB b_4) false))) = true → plainA (some (Addr.mk h.next 0 none)) = true) ∧
                                                                                      ∃ (s_5 : ByteArray),
                                                                                        (andB (notB b_5) (notB (sel (strEq s_4 (ByteArray.mk (Array.mk []))) true (sel (notB b_3) (notB b_4) false))) = true → plainA (some (Addr.mk h.next 3 none)) = true ∧ h'_1.cellsAt h.next 3 1 = some [Value.string s_5]) ∧
                                                                                          (notB (sel (sel (strEq s_4 (ByteArray.mk (Array.mk []))) true (sel (notB b_3) (notB b_4) false)) true (sel (notB b_5) (notB (strEq s_5 (ByteArray.mk (Array.mk [])))) false)) = true → plainA (some (Addr.mk h.next 0 none)) = true) ∧
                                                                                            ∃ (b_6 : Bool),
                                                                                              (notB (sel (sel (strEq s_4 (ByteArray.mk (Array.mk []))) true (sel (notB b_3) (notB b_4) false)) true (sel (notB b_5) (notB (strEq s_5 (ByteArray.mk (Array.mk [])))) false)) = true → plainA (some (Addr.mk h.next 2 none)) = true ∧ h'_1.cellsAt h.next 2 1 = some [Value.bool b_6]) ∧
                                                                                                (andB (notB b_6) (notB (sel (sel (strEq s_4 (ByteArray.mk (Array.mk []))) true (sel (notB b_3) (notB b_4) false)) true (sel (notB b_5) (notB (strEq s_5 (ByteArray.mk (Array.mk [])))) false))) = true → plainA (some (Addr.mk h.next 0 none)) = true) ∧
                                                                                                  ∃ (s_6 : ByteArray),
                                                                                                    (andB (notB b_6) (notB (sel (sel (strEq s_4 (ByteArray.mk (Array.mk []))) true (sel (notB b_3) (notB b_4) false)) true (sel (notB b_5) (notB (strEq s_5 (ByteArray.mk (Array.mk [])))) false))) = true → plainA (some (Addr.mk h.next 4 none)) = true ∧ h'_1.cellsAt h.next 4 1 = some [Value.string s_6]) ∧
                                                                                                      (andB (gtI n 0)
                                                                                                              (notB
                                                                                                                (sel (sel (sel (sel (strEq s_4 (ByteArray.mk (Array.mk []))) true (sel (notB b_3) (notB b_4) false)) true (sel (notB b_5) (notB (strEq s_5 (ByteArray.mk (Array.mk [])))) false)) true (sel (notB b_6) (notB (strEq s_6 (ByteArray.mk (Array.mk [])))) false)) true
                                                                                                                  (sel (eqB b b_2) (strEq s s_3) false))) =
                                                                                                            true →
                                                                                                          a.isSome = true ∧ inR (subW IntKind.i64 n 1) l) ∧
                                                                                                        (andB (gtI n 0)
                                                                                                                (notB
                                                                                                                  (sel (sel (sel (sel (strEq s_4 (ByteArray.mk (Array.mk []))) true (sel (notB b_3) (notB b_4) false)) true (sel (notB b_5) (notB (strEq s_5 (ByteArray.mk (Array.mk [])))) false)) true (sel (notB b_6) (notB (strEq s_6 (ByteArray.mk (Array.mk [])))) false)) true
                                                                                                                    (sel (eqB b b_2) (strEq s s_3) false))) =
                                                                                                              true →
                                                                                                            plainA (some (Addr.mk (blk a) (plusI (off a) (subW IntKind.i64 n 1) 5) none)) = true) ∧
                                                                                                          ∃ (s_7 : ByteArray),
                                                                                                            (andB (gtI n 0)
                                                                                                                    (notB
                                                                                                                      (sel (sel (sel (sel (strEq s_4 (ByteArray.mk (Array.mk []))) true (sel (notB b_3) (notB b_4) false)) true (sel (notB b_5) (notB (strEq s_5 (ByteArray.mk (Array.mk [])))) false)) true (sel (notB b_6) (notB (strEq s_6 (ByteArray.mk (Array.mk [])))) false)) true
                                                                                                                        (sel (eqB b b_2) (strEq s s_3) false))) =
                                                                                                                  true →
                                                                                                                plainA (some (Addr.mk (blk a) (plusI (off a) (subW IntKind.i64 n 1) 5) none)) = true ∧ h'_1.cellsAt (blk a) (plusI (off a) (subW IntKind.i64 n 1) 5) 1 = some [Value.string s_7]) ∧
                                                                                                              (andB (gtI n 0)
                                                                                                                      (notB
                                                                                                                        (sel (sel (sel (sel (strEq s_4 (ByteArray.mk (Array.mk []))) true (sel (notB b_3) (notB b_4) false)) true (sel (notB b_5) (notB (strEq s_5 (ByteArray.mk (Array.mk [])))) false)) true (sel (notB b_6) (notB (strEq s_6 (ByteArray.mk (Array.mk [])))) false)) true
                                                                                                                          (sel (eqB b b_2) (strEq s s_3) false))) =
                                                                                                                    true →
                                                                                                                  plainA (some (Addr.mk h.next 0 none)) = true) ∧
                                                                                                                ∃ (s_8 : ByteArray),
                                                                                                                  (andB (gtI n 0)
                                                                                                                          (notB
                                                                                                                            (sel (sel (sel (sel (strEq s_4 (ByteArray.mk (Array.mk []))) true (sel (notB b_3) (notB b_4) false)) true (sel (notB b_5) (notB (strEq s_5 (ByteArray.mk (Array.mk [])))) false)) true (sel (notB b_6) (notB (strEq s_6 (ByteArray.mk (Array.mk [])))) false)) true
                                                                                                                              (sel (eqB b b_2) (strEq s s_3) false))) =
                                                                                                                        true →
                                                                                                                      plainA (some (Addr.mk h.next 0 none)) = true ∧ h'_1.cellsAt h.next 0 1 = some [Value.string s_8]) ∧
                                                                                                                    if
                                                                                                                        sel
                                                                                                                            (sel (sel (sel (sel (strEq s_4 (ByteArray.mk (Array.mk []))) true (sel (notB b_3) (notB b_4) false)) true (sel (notB b_5) (notB (strEq s_5 (ByteArray.mk (Array.mk [])))) false)) true (sel (notB b_6) (notB (strEq s_6 (ByteArray.mk (Array.mk [])))) false)) true
                                                                                                                              (sel (eqB b b_2) (strEq s s_3) false))
                                                                                                                            true (sel (gtI n 0) (notB (strLt s_7 s_8)) false) =
                                                                                                                          true then
                                                                                                                      K (Value.int IntKind.i64 230) h'_1
                                                                                                                    else ∃ (m' : Nat), lessN m' m ∧ I [Value.int IntKind.i64 (addW IntKind.i64 n 1)] m' h'_1
          else K (Value.int IntKind.i64 0) h) := by kernel_rfl

def shp24 : Nat → List (Tmp × TypeId) := fun i => if i = 4 then [(5, 3)] else []
theorem vc24 (C : FuncId → List Value → Hp → (Value → Hp → Prop) → Prop) (a b : Option Addr) (l c l' c' : Nat) (h : Hp) (K : Value → Hp → Prop) : vBody Try.prog C pf shp24 Try.f24 (Try.f24.body.getD .skip) [.slice a l c, .slice b l' c'] h K = (
  if neI (natI l) (natI l') = true then K (Value.bool false) h
  else
    ∃ (I : List Value → Nat → Hp → Prop),
      (∃ (m : Nat), I [Value.int IntKind.i64 0] m h) ∧
        ∀ (n : Int) (m : Nat) (h : Hp),
          I [Value.int IntKind.i64 n] m h →
            if ltI n (natI l) = true then
              (a.isSome = true ∧ inR n l) ∧
                ∃ (s : ByteArray),
                  ∃ (b_1 : Bool),
                    ∃ (b_2 : Bool),
                      ∃ (s_1 : ByteArray),
                        ∃ (s_2 : ByteArray),
                          (plainA (some (Addr.mk (blk a) (plusI (off a) n 5) none)) = true ∧ h.cellsAt (blk a) (plusI (off a) n 5) 5 = some [Value.string s, Value.bool b_1, Value.bool b_2, Value.string s_1, Value.string s_2]) ∧
                            (b.isSome = true ∧ inR n l') ∧
                              ∃ (s_3 : ByteArray),
                                ∃ (b_3 : Bool),
                                  ∃ (b_4 : Bool),
                                    ∃ (s_4 : ByteArray),
                                      ∃ (s_5 : ByteArray),
                                        (plainA (some (Addr.mk (blk b) (plusI (off b) n 5) none)) = true ∧ h.cellsAt (blk b) (plusI (off b) n 5) 5 = some [Value.string s_3, Value.bool b_3, Value.bool b_4, Value.string s_4, Value.string s_5]) ∧
                                          if notB (andB (strSame s s_3) (andB (eqB b_1 b_3) (andB (eqB b_2 b_4) (andB (strSame s_1 s_4) (andB (strSame s_2 s_5) true))))) = true then K (Value.bool false) h else ∃ (m' : Nat), lessN m' m ∧ I [Value.int IntKind.i64 (addW IntKind.i64 n 1)] m' h
            else K (Value.bool true) h) := by kernel_rfl

def shp15 : Nat → List (Tmp × TypeId) := fun i => if i = 4 then [(3, 23), (4, 3)] else []
theorem vc15 (C : FuncId → List Value → Hp → (Value → Hp → Prop) → Prop) (a : Option Addr) (l c : Nat) (h : Hp) (K : Value → Hp → Prop) : vBody Try.prog C pf shp15 Try.f15 (Try.f15.body.getD .skip) [.slice a l c] h K = (
  ∃ (a_1 : Option Addr),
    ∃ (m : Nat),
      ∃ (n : Nat),
        ∃ (h' : Hp),
          cappend Try.prog 23 23 (Value.slice none 0 0) (Value.slice a l c) h = some (Value.slice a_1 m n, h') ∧
            ∃ (I : List Value → Nat → Hp → Prop),
              (∃ (m_1 : Nat), I [Value.slice a_1 m n, Value.int IntKind.i64 0] m_1 h') ∧
                ∀ (a : Option Addr) (l_1 c : Nat) (n : Int) (m : Nat) (h : Hp),
                  I [Value.slice a l_1 c, Value.int IntKind.i64 n] m h →
                    if ltI n 4 = true then
                      ∀ (h' : Hp),
                        h' = h.alloc [Value.string (ByteArray.mk (Array.mk [109, 97, 114, 107])), Value.bool false, Value.bool false, Value.string (ByteArray.mk (Array.mk [])), Value.string (ByteArray.mk (Array.mk []))] 88 →
                          ∃ (a_4 : Option Addr), ∃ (m_1 : Nat), ∃ (n_1 : Nat), ∃ (h'_1 : Hp), cappend Try.prog 23 23 (Value.slice a l_1 c) (Value.slice (some (Addr.mk h.next 0 none)) 1 1) h' = some (Value.slice a_4 m_1 n_1, h'_1) ∧ ∃ (m' : Nat), lessN m' m ∧ I [Value.slice a_4 m_1 n_1, Value.int IntKind.i64 (addW IntKind.i64 n 1)] m' h'_1
                    else (cutOk 0 (natI l) (natI c) (natI c) ∧ spotOk 5 a) ∧ K (Value.slice (cutA 0 5 a) (diffN (natI l) 0) (diffN (natI c) 0)) h) := by kernel_rfl

def shp18 : Nat → List (Tmp × TypeId) := fun i => if i = 3 then [(6, 3)] else []
theorem vc18 (C : FuncId → List Value → Hp → (Value → Hp → Prop) → Prop) (a b : Option Addr) (l c l' c' : Nat) (h : Hp) (K : Value → Hp → Prop) : vBody Try.prog C pf shp18 Try.f18 (Try.f18.body.getD .skip) [.slice a l c, .slice b l' c'] h K = (
  (cutOk 0 (addW IntKind.i64 (natI l') 4) (natI c) (natI c) ∧ spotOk 5 a) ∧
    ∃ (I : List Value → Nat → Hp → Prop),
      (∃ (m : Nat), I [Value.int IntKind.i64 0] m h) ∧
        ∀ (n : Int) (m : Nat) (h : Hp),
          I [Value.int IntKind.i64 n] m h →
            if ltI n 4 = true then
              ((cutA 0 5 a).isSome = true ∧ inR (addW IntKind.i64 (natI l') n) (diffN (addW IntKind.i64 (natI l') 4) 0)) ∧
                ∃ (s : ByteArray),
                  ∃ (b : Bool),
                    ∃ (b_1 : Bool),
                      ∃ (s_1 : ByteArray),
                        ∃ (s_2 : ByteArray),
                          (plainA (some (Addr.mk (blk (cutA 0 5 a)) (plusI (off (cutA 0 5 a)) (addW IntKind.i64 (natI l') n) 5) none)) = true ∧ h.cellsAt (blk (cutA 0 5 a)) (plusI (off (cutA 0 5 a)) (addW IntKind.i64 (natI l') n) 5) 5 = some [Value.string s, Value.bool b, Value.bool b_1, Value.string s_1, Value.string s_2]) ∧
                            if notB (andB (strSame s (ByteArray.mk (Array.mk [109, 97, 114, 107]))) (andB (eqB b false) (andB (eqB b_1 false) (andB (strSame s_1 (ByteArray.mk (Array.mk []))) (andB (strSame s_2 (ByteArray.mk (Array.mk []))) true))))) = true then K (Value.bool false) h else ∃ (m' : Nat), lessN m' m ∧ I [Value.int IntKind.i64 (addW IntKind.i64 n 1)] m' h
            else C 24 [Value.slice a l c, Value.slice b l' c'] h fun (v : Value) (h' : Hp) => ∃ (b : Bool), v = Value.bool b ∧ K (Value.bool b) h') := by kernel_rfl

def shp19 : Nat → List (Tmp × TypeId) := fun i => if i = 6 then [(5, 23), (15, 3)] else []
theorem vc19 (C : FuncId → List Value → Hp → (Value → Hp → Prop) → Prop) (a : Option Addr) (l c : Nat) (h : Hp) (K : Value → Hp → Prop) : vBody Try.prog C pf shp19 Try.f19 (Try.f19.body.getD .skip) [.slice a l c] h K = (
  C 16 [Value.slice a l c] h fun (v : Value) (h' : Hp) =>
    ∃ (n : Int),
      v = Value.int IntKind.i64 n ∧
        if neI n 0 = true then K (Value.tuple (Array.mk [Value.slice none 0 0, Value.int IntKind.i64 n])) h'
        else
          ∃ (I : List Value → Nat → Hp → Prop),
            (∃ (m : Nat), I [Value.slice none 0 0, Value.int IntKind.i64 0] m h') ∧
              ∀ (a_1 : Option Addr) (l_1 c : Nat) (n : Int) (m : Nat) (h : Hp),
                I [Value.slice a_1 l_1 c, Value.int IntKind.i64 n] m h →
                  if ltI n (natI l) = true then
                    (a.isSome = true ∧ inR n l) ∧
                      ∃ (s : ByteArray),
                        ∃ (b : Bool),
                          ∃ (b_1 : Bool),
                            ∃ (s_1 : ByteArray),
                              ∃ (s_2 : ByteArray),
                                (plainA (some (Addr.mk (blk a) (plusI (off a) n 5) none)) = true ∧ h.cellsAt (blk a) (plusI (off a) n 5) 5 = some [Value.string s, Value.bool b, Value.bool b_1, Value.string s_1, Value.string s_2]) ∧
                                  ∀ (h' : Hp),
                                    h' = h.alloc [Value.string (ByteArray.mk (Array.mk [])), Value.bool false, Value.bool false, Value.string (ByteArray.mk (Array.mk [])), Value.string (ByteArray.mk (Array.mk []))] 88 →
                                      plainA (some (Addr.mk h.next 0 none)) = true ∧
                                        ∃ (h'_1 : Hp),
                                          h'.store h.next 0 [Value.string s, Value.bool b, Value.bool b_1, Value.string s_1, Value.string s_2] = some h'_1 ∧
                                            ∃ (s : ByteArray),
                                              ∃ (b : Bool),
                                                ∃ (b_2 : Bool),
                                                  ∃ (s_3 : ByteArray),
                                                    ∃ (s_4 : ByteArray),
                                                      (plainA (some (Addr.mk h.next 0 none)) = true ∧ h'_1.cellsAt h.next 0 5 = some [Value.string s, Value.bool b, Value.bool b_2, Value.string s_3, Value.string s_4]) ∧
                                                        C 52 [Value.agg (Array.mk [Value.string s, Value.bool b, Value.bool b_2, Value.string s_3, Value.string s_4])] h'_1 fun (v : Value) (h' : Hp) =>
                                                          ∃ (s : ByteArray),
                                                            ∃ (b : Bool),
                                                              ∃ (b_3 : Bool),
                                                                ∃ (s_5 : ByteArray),
                                                                  ∃ (s_6 : ByteArray),
                                                                    v = Value.agg (Array.mk [Value.string s, Value.bool b, Value.bool b_3, Value.string s_5, Value.string s_6]) ∧
                                                                      ∀ (h'_2 : Hp),
                                                                        h'_2 = h'.alloc [Value.string s, Value.bool b, Value.bool b_3, Value.string s_5, Value.string s_6] 88 →
                                                                          ∃ (a : Option Addr), ∃ (m_1 : Nat), ∃ (n_1 : Nat), ∃ (h'_3 : Hp), cappend Try.prog 23 23 (Value.slice a_1 l_1 c) (Value.slice (some (Addr.mk h'.next 0 none)) 1 1) h'_2 = some (Value.slice a m_1 n_1, h'_3) ∧ ∃ (m' : Nat), lessN m' m ∧ I [Value.slice a m_1 n_1, Value.int IntKind.i64 (addW IntKind.i64 n 1)] m' h'_3
                  else K (Value.tuple (Array.mk [Value.slice a_1 l_1 c, Value.int IntKind.i64 0])) h) := by kernel_rfl

def shp20 : Nat → List (Tmp × TypeId) := fun i => if i = 5 then [(4, 23), (5, 3)] else []
theorem vc20 (C : FuncId → List Value → Hp → (Value → Hp → Prop) → Prop) (a : Option Addr) (l c : Nat) (h : Hp) (K : Value → Hp → Prop) : vBody Try.prog C pf shp20 Try.f20 (Try.f20.body.getD .skip) [.slice a l c] h K = (
  C 17 [Value.slice a l c] h fun (v : Value) (h' : Hp) =>
    ∃ (n : Int),
      v = Value.int IntKind.i64 n ∧
        if neI n 0 = true then K (Value.tuple (Array.mk [Value.slice none 0 0, Value.int IntKind.i64 230])) h'
        else
          ∃ (I : List Value → Nat → Hp → Prop),
            (∃ (m : Nat), I [Value.slice none 0 0, Value.int IntKind.i64 0] m h') ∧
              ∀ (a_1 : Option Addr) (l_1 c : Nat) (n : Int) (m : Nat) (h : Hp),
                I [Value.slice a_1 l_1 c, Value.int IntKind.i64 n] m h →
                  if ltI n (natI l) = true then
                    (a.isSome = true ∧ inR n l) ∧
                      plainA (some (Addr.mk (blk a) (plusI (off a) n 5) none)) = true ∧
                        ∃ (s : ByteArray),
                          (plainA (some (Addr.mk (blk a) (plusI (off a) n 5) none)) = true ∧ h.cellsAt (blk a) (plusI (off a) n 5) 1 = some [Value.string s]) ∧
                            (a.isSome = true ∧ inR n l) ∧
                              plainA (some (Addr.mk (blk a) (plusI (off a) n 5) none)) = true ∧
                                ∃ (b : Bool),
                                  (plainA (some (Addr.mk (blk a) (plusN (plusI (off a) n 5) 2) none)) = true ∧ h.cellsAt (blk a) (plusN (plusI (off a) n 5) 2) 1 = some [Value.bool b]) ∧
                                    (a.isSome = true ∧ inR n l) ∧
                                      plainA (some (Addr.mk (blk a) (plusI (off a) n 5) none)) = true ∧
                                        ∃ (b_1 : Bool),
                                          (plainA (some (Addr.mk (blk a) (plusN (plusI (off a) n 5) 1) none)) = true ∧ h.cellsAt (blk a) (plusN (plusI (off a) n 5) 1) 1 = some [Value.bool b_1]) ∧
                                            (a.isSome = true ∧ inR n l) ∧
                                              plainA (some (Addr.mk (blk a) (plusI (off a) n 5) none)) = true ∧
                                                ∃ (s_1 : ByteArray),
                                                  (plainA (some (Addr.mk (blk a) (plusN (plusI (off a) n 5) 4) none)) = true ∧ h.cellsAt (blk a) (plusN (plusI (off a) n 5) 4) 1 = some [Value.string s_1]) ∧
                                                    (a.isSome = true ∧ inR n l) ∧
                                                      plainA (some (Addr.mk (blk a) (plusI (off a) n 5) none)) = true ∧
                                                        ∃ (s_2 : ByteArray),
                                                          (plainA (some (Addr.mk (blk a) (plusN (plusI (off a) n 5) 3) none)) = true ∧ h.cellsAt (blk a) (plusN (plusI (off a) n 5) 3) 1 = some [Value.string s_2]) ∧
                                                            ∀ (h' : Hp),
                                                              h' = h.alloc [Value.string s, Value.bool b, Value.bool b_1, Value.string s_1, Value.string s_2] 88 →
                                                                ∃ (a : Option Addr), ∃ (m_1 : Nat), ∃ (n_1 : Nat), ∃ (h'_1 : Hp), cappend Try.prog 23 23 (Value.slice a_1 l_1 c) (Value.slice (some (Addr.mk h.next 0 none)) 1 1) h' = some (Value.slice a m_1 n_1, h'_1) ∧ ∃ (m' : Nat), lessN m' m ∧ I [Value.slice a m_1 n_1, Value.int IntKind.i64 (addW IntKind.i64 n 1)] m' h'_1
                  else K (Value.tuple (Array.mk [Value.slice a_1 l_1 c, Value.int IntKind.i64 0])) h) := by kernel_rfl

def shp21 : Nat → List (Tmp × TypeId) := fun i => if i = 4 then [(7, 3)] else if i = 8 then [(0, 23), (8, 3)] else []
theorem vc21 (C : FuncId → List Value → Hp → (Value → Hp → Prop) → Prop) (a b d : Option Addr) (l c l' c' m n : Nat) (h : Hp) (K : Value → Hp → Prop) : vBody Try.prog C pf shp21 Try.f21 (Try.f21.body.getD .skip) [.slice a l c, .slice b l' c', .slice d m n] h K = (
  C 24 [Value.slice a l c, Value.slice d m n] h fun (v : Value) (h' : Hp) =>
    ∃ (b_1 : Bool),
      v = Value.bool b_1 ∧
        ∃ (b_2 : Bool),
          (notB (notB b_1) = true → C 24 [Value.slice b l' c', Value.slice d m n] h' fun (v : Value) (h'_1 : Hp) => v = Value.bool b_2 ∧ h'_1 = h') ∧
            if sel (notB b_1) true (notB b_2) = true then K (Value.bool false) h'
            else
              ∃ (I : List Value → Nat → Hp → Prop),
                (∃ (m : Nat), I [Value.int IntKind.i64 0] m h') ∧
                  ∀ (n_1 : Int) (m_1 : Nat) (h : Hp),
                    I [Value.int IntKind.i64 n_1] m_1 h →
                      if ltI n_1 (natI l) = true then
                        (a.isSome = true ∧ inR n_1 l) ∧
                          plainA (some (Addr.mk (blk a) (plusI (off a) n_1 5) none)) = true ∧
                            ∃ (h' : Hp), h.store (blk a) (plusI (off a) n_1 5) [Value.string (ByteArray.mk (Array.mk [111, 118, 101, 114])), Value.bool false, Value.bool false, Value.string (ByteArray.mk (Array.mk [])), Value.string (ByteArray.mk (Array.mk []))] = some h' ∧ ∃ (m' : Nat), lessN m' m_1 ∧ I [Value.int IntKind.i64 (addW IntKind.i64 n_1 1)] m' h'
                      else
                        ∃ (I : List Value → Nat → Hp → Prop),
                          (∃ (m : Nat), I [Value.slice a l c, Value.int IntKind.i64 0] m h) ∧
                            ∀ (a : Option Addr) (l c : Nat) (n_2 : Int) (m_2 : Nat) (h : Hp),
                              I [Value.slice a l c, Value.int IntKind.i64 n_2] m_2 h →
                                if ltI n_2 5 = true then
                                  ∀ (h' : Hp),
                                    h' = h.alloc [Value.string (ByteArray.mk (Array.mk [109, 111, 114, 101])), Value.bool false, Value.bool false, Value.string (ByteArray.mk (Array.mk [])), Value.string (ByteArray.mk (Array.mk []))] 88 →
                                      ∃ (a_4 : Option Addr), ∃ (m : Nat), ∃ (n : Nat), ∃ (h'_1 : Hp), cappend Try.prog 23 23 (Value.slice a l c) (Value.slice (some (Addr.mk h.next 0 none)) 1 1) h' = some (Value.slice a_4 m n, h'_1) ∧ ∃ (m' : Nat), lessN m' m_2 ∧ I [Value.slice a_4 m n, Value.int IntKind.i64 (addW IntKind.i64 n_2 1)] m' h'_1
                                else ∃ (b_3 : Bool), (eqI (natI l) (addW IntKind.i64 (natI m) 5) = true → C 24 [Value.slice b l' c', Value.slice d m n] h fun (v : Value) (h' : Hp) => v = Value.bool b_3 ∧ h' = h) ∧ K (Value.bool (sel (eqI (natI l) (addW IntKind.i64 (natI m) 5)) b_3 false)) h) := by kernel_rfl

def shp4 : Nat → List (Tmp × TypeId) := fun i => []
theorem vc4 (C : FuncId → List Value → Hp → (Value → Hp → Prop) → Prop) (a : Option Addr) (l c : Nat) (h : Hp) (K : Value → Hp → Prop) : vBody Try.prog C pf shp4 Try.f4 (Try.f4.body.getD .skip) [.slice a l c] h K = (
  C 15 [Value.slice a l c] h fun (v : Value) (h' : Hp) =>
    ∃ (a_1 : Option Addr),
      ∃ (l_1 : Nat),
        ∃ (c_1 : Nat),
          v = Value.slice a_1 l_1 c_1 ∧
            C 16 [Value.slice a_1 l_1 c_1] h' fun (v : Value) (h' : Hp) =>
              ∃ (n : Int),
                v = Value.int IntKind.i64 n ∧
                  C 17 [Value.slice a l c] h' fun (v : Value) (h' : Hp) =>
                    ∃ (n_1 : Int),
                      v = Value.int IntKind.i64 n_1 ∧
                        ∃ (b : Bool),
                          (eqI n n_1 = true → C 18 [Value.slice a_1 l_1 c_1, Value.slice a l c] h' fun (v : Value) (h'_1 : Hp) => v = Value.bool b ∧ h'_1 = h') ∧
                            ∃ (Q : Value → Hp → Prop), (sel (eqI n n_1) b false = true → C 14 [] h' fun (v : Value) (h' : Hp) => ∃ (b : Bool), v = Value.bool b ∧ Q (Value.bool b) h') ∧ (sel (eqI n n_1) b false = false → ∃ (b : Bool), Q (Value.bool b) h') ∧ ∀ (b_1 : Bool) (h' : Hp), Q (Value.bool b_1) h' → K (Value.bool (sel (sel (eqI n n_1) b false) b_1 false)) h') := by kernel_rfl

def shp5 : Nat → List (Tmp × TypeId) := fun i => []
theorem vc5 (C : FuncId → List Value → Hp → (Value → Hp → Prop) → Prop) (a : Option Addr) (l c : Nat) (h : Hp) (K : Value → Hp → Prop) : vBody Try.prog C pf shp5 Try.f5 (Try.f5.body.getD .skip) [.slice a l c] h K = (
  C 15 [Value.slice a l c] h fun (v : Value) (h' : Hp) =>
    ∃ (a_1 : Option Addr),
      ∃ (l_1 : Nat),
        ∃ (c_1 : Nat),
          v = Value.slice a_1 l_1 c_1 ∧
            C 19 [Value.slice a_1 l_1 c_1] h' fun (v : Value) (h' : Hp) =>
              ∃ (a_2 : Option Addr),
                ∃ (l_2 : Nat),
                  ∃ (c_2 : Nat),
                    ∃ (n : Int),
                      v = Value.tuple (Array.mk [Value.slice a_2 l_2 c_2, Value.int IntKind.i64 n]) ∧
                        C 19 [Value.slice a_1 l_1 c_1] h' fun (v : Value) (h' : Hp) =>
                          ∃ (a_3 : Option Addr),
                            ∃ (l_3 : Nat),
                              ∃ (c_3 : Nat),
                                ∃ (n_1 : Int),
                                  v = Value.tuple (Array.mk [Value.slice a_3 l_3 c_3, Value.int IntKind.i64 n_1]) ∧
                                    C 20 [Value.slice a l c] h' fun (v : Value) (h' : Hp) =>
                                      ∃ (a_4 : Option Addr),
                                        ∃ (l_4 : Nat),
                                          ∃ (c_4 : Nat),
                                            ∃ (n_2 : Int),
                                              v = Value.tuple (Array.mk [Value.slice a_4 l_4 c_4, Value.int IntKind.i64 n_2]) ∧
                                                ∃ (b : Bool),
                                                  (sel (eqI n n_2) (eqI n_1 n_2) false = true → C 18 [Value.slice a_1 l_1 c_1, Value.slice a l c] h' fun (v : Value) (h'_1 : Hp) => v = Value.bool b ∧ h'_1 = h') ∧
                                                    ∃ (Q : Value → Hp → Prop),
                                                      (sel (sel (eqI n n_2) (eqI n_1 n_2) false) b false = true → C 21 [Value.slice a_2 l_2 c_2, Value.slice a_3 l_3 c_3, Value.slice a_4 l_4 c_4] h' fun (v : Value) (h' : Hp) => ∃ (b : Bool), v = Value.bool b ∧ Q (Value.bool b) h') ∧
                                                        (sel (sel (eqI n n_2) (eqI n_1 n_2) false) b false = false → ∃ (b : Bool), Q (Value.bool b) h') ∧
                                                          ∀ (b_1 : Bool) (h' : Hp),
                                                            Q (Value.bool b_1) h' →
                                                              ∃ (b_2 : Bool),
                                                                (sel (sel (sel (eqI n n_2) (eqI n_1 n_2) false) b false) b_1 false = true → C 18 [Value.slice a_1 l_1 c_1, Value.slice a l c] h' fun (v : Value) (h'_1 : Hp) => v = Value.bool b_2 ∧ h'_1 = h') ∧
                                                                  ∃ (Q : Value → Hp → Prop),
                                                                    (sel (sel (sel (sel (eqI n n_2) (eqI n_1 n_2) false) b false) b_1 false) b_2 false = true → C 14 [] h' fun (v : Value) (h' : Hp) => ∃ (b : Bool), v = Value.bool b ∧ Q (Value.bool b) h') ∧
                                                                      (sel (sel (sel (sel (eqI n n_2) (eqI n_1 n_2) false) b false) b_1 false) b_2 false = false → ∃ (b : Bool), Q (Value.bool b) h') ∧ ∀ (b_3 : Bool) (h' : Hp), Q (Value.bool b_3) h' → K (Value.bool (sel (sel (sel (sel (sel (eqI n n_2) (eqI n_1 n_2) false) b false) b_1 false) b_2 false) b_3 false)) h') := by kernel_rfl

def shp22 : Nat → List (Tmp × TypeId) := fun i => if i = 4 then [(0, 23), (1, 23), (6, 23)] else []
theorem vc22 (C : FuncId → List Value → Hp → (Value → Hp → Prop) → Prop) (a b : Option Addr) (l c l' c' : Nat) (h : Hp) (K : Value → Hp → Prop) : vBody Try.prog C pf shp22 Try.f22 (Try.f22.body.getD .skip) [.slice a l c, .slice b l' c'] h K = (
  C 16 [Value.slice a l c] h fun (v : Value) (h' : Hp) =>
    ∃ (n : Int),
      v = Value.int IntKind.i64 n ∧
        ∃ (Q : Value → Hp → Prop),
          (notB (neI n 0) = true → C 16 [Value.slice b l' c'] h' fun (v : Value) (h' : Hp) => ∃ (n : Int), v = Value.int IntKind.i64 n ∧ Q (Value.int IntKind.i64 n) h') ∧
            (notB (neI n 0) = false → ∃ (n : Int), Q (Value.int IntKind.i64 n) h') ∧
              ∀ (n_1 : Int) (h' : Hp),
                Q (Value.int IntKind.i64 n_1) h' →
                  if sel (neI n 0) true (neI n_1 0) = true then K (Value.tuple (Array.mk [Value.slice none 0 0, Value.int IntKind.i64 230])) h'
                  else
                    ∃ (I : List Value → Nat → Hp → Prop),
                      (∃ (m : Nat), I [Value.slice a l c, Value.slice b l' c', Value.slice none 0 0] m h') ∧
                        ∀ (a : Option Addr) (l c : Nat) (a_2 : Option Addr) (l_1 c_1 : Nat) (a_3 : Option Addr) (l_2 c_2 m : Nat) (h : Hp),
                          I [Value.slice a l c, Value.slice a_2 l_1 c_1, Value.slice a_3 l_2 c_2] m h →
                            if sel (gtI (natI l) 0) true (gtI (natI l_1) 0) = true then
                              (andB (gtI (natI l) 0) (notB (eqI (natI l_1) 0)) = true → a.isSome = true ∧ inR 0 l) ∧
                                (andB (gtI (natI l) 0) (notB (eqI (natI l_1) 0)) = true → plainA (some (Addr.mk (blk a) (plusI (off a) 0 5) none)) = true) ∧
                                  ∃ (s : ByteArray),
                                    (andB (gtI (natI l) 0) (notB (eqI (natI l_1) 0)) = true → plainA (some (Addr.mk (blk a) (plusI (off a) 0 5) none)) = true ∧ h.cellsAt (blk a) (plusI (off a) 0 5) 1 = some [Value.string s]) ∧
                                      (andB (gtI (natI l) 0) (notB (eqI (natI l_1) 0)) = true → a_2.isSome = true ∧ inR 0 l_1) ∧
                                        (andB (gtI (natI l) 0) (notB (eqI (natI l_1) 0)) = true → plainA (some (Addr.mk (blk a_2) (plusI (off a_2) 0 5) none)) = true) ∧
                                          ∃ (s_1 : ByteArray),
                                            (andB (gtI (natI l) 0) (notB (eqI (natI l_1) 0)) = true → plainA (some (Addr.mk (blk a_2) (plusI (off a_2) 0 5) none)) = true ∧ h.cellsAt (blk a_2) (plusI (off a_2) 0 5) 1 = some [Value.string s_1]) ∧
                                              if sel (eqI (natI l_1) 0) true (sel (gtI (natI l) 0) (strLt s s_1) false) = true then
                                                (a.isSome = true ∧ inR 0 l) ∧
                                                  ∃ (s : ByteArray),
                                                    ∃ (b : Bool),
                                                      ∃ (b_1 : Bool),
                                                        ∃ (s_2 : ByteArray),
                                                          ∃ (s_3 : ByteArray),
                                                            (plainA (some (Addr.mk (blk a) (plusI (off a) 0 5) none)) = true ∧ h.cellsAt (blk a) (plusI (off a) 0 5) 5 = some [Value.string s, Value.bool b, Value.bool b_1, Value.string s_2, Value.string s_3]) ∧
                                                              ∀ (h' : Hp),
                                                                h' = h.alloc [Value.string s, Value.bool b, Value.bool b_1, Value.string s_2, Value.string s_3] 88 →
                                                                  ∃ (a_6 : Option Addr),
                                                                    ∃ (m_1 : Nat),
                                                                      ∃ (n : Nat),
                                                                        ∃ (h'_1 : Hp),
                                                                          cappend Try.prog 23 23 (Value.slice a_3 l_2 c_2) (Value.slice (some (Addr.mk h.next 0 none)) 1 1) h' = some (Value.slice a_6 m_1 n, h'_1) ∧
                                                                            (cutOk 1 (natI l) (natI c) (natI c) ∧ spotOk 5 a) ∧ ∃ (m' : Nat), lessN m' m ∧ I [Value.slice (cutA 1 5 a) (diffN (natI l) 1) (diffN (natI c) 1), Value.slice a_2 l_1 c_1, Value.slice a_6 m_1 n] m' h'_1
                                              else
                                                (notB (eqI (natI l) 0) = true → a_2.isSome = true ∧ inR 0 l_1) ∧
                                                  (notB (eqI (natI l) 0) = true → plainA (some (Addr.mk (blk a_2) (plusI (off a_2) 0 5) none)) = true) ∧
                                                    ∃ (s : ByteArray),
                                                      (notB (eqI (natI l) 0) = true → plainA (some (Addr.mk (blk a_2) (plusI (off a_2) 0 5) none)) = true ∧ h.cellsAt (blk a_2) (plusI (off a_2) 0 5) 1 = some [Value.string s]) ∧
                                                        (notB (eqI (natI l) 0) = true → a.isSome = true ∧ inR 0 l) ∧
                                                          (notB (eqI (natI l) 0) = true → plainA (some (Addr.mk (blk a) (plusI (off a) 0 5) none)) = true) ∧
                                                            ∃ (s_2 : ByteArray),
                                                              (notB (eqI (natI l) 0) = true → plainA (some (Addr.mk (blk a) (plusI (off a) 0 5) none)) = true ∧ h.cellsAt (blk a) (plusI (off a) 0 5) 1 = some [Value.string s_2]) ∧
                                                                if sel (eqI (natI l) 0) true (strLt s s_2) = true then
                                                                  (a_2.isSome = true ∧ inR 0 l_1) ∧
                                                                    ∃ (s : ByteArray),
                                                                      ∃ (b : Bool),
                                                                        ∃ (b_1 : Bool),
                                                                          ∃ (s_3 : ByteArray),
                                                                            ∃ (s_4 : ByteArray),
                                                                              (plainA (some (Addr.mk (blk a_2) (plusI (off a_2) 0 5) none)) = true ∧ h.cellsAt (blk a_2) (plusI (off a_2) 0 5) 5 = some [Value.string s, Value.bool b, Value.bool b_1, Value.string s_3, Value.string s_4]) ∧
                                                                                ∀ (h' : Hp),
                                                                                  h' = h.alloc [Value.string s, Value.bool b, Value.bool b_1, Value.string s_3, Value.string s_4] 88 →
                                                                                    ∃ (a_6 : Option Addr),
                                                                                      ∃ (m_1 : Nat),
                                                                                        ∃ (n : Nat),
                                                                                          ∃ (h'_1 : Hp),
                                                                                            cappend Try.prog 23 23 (Value.slice a_3 l_2 c_2) (Value.slice (some (Addr.mk h.next 0 none)) 1 1) h' = some (Value.slice a_6 m_1 n, h'_1) ∧
                                                                                              (cutOk 1 (natI l_1) (natI c_1) (natI c_1) ∧ spotOk 5 a_2) ∧ ∃ (m' : Nat), lessN m' m ∧ I [Value.slice a l c, Value.slice (cutA 1 5 a_2) (diffN (natI l_1) 1) (diffN (natI c_1) 1), Value.slice a_6 m_1 n] m' h'_1
                                                                else
                                                                  ∀ (h' : Hp),
                                                                    h' =
                                                                        (h.alloc [Value.string (ByteArray.mk (Array.mk [])), Value.bool false, Value.bool false, Value.string (ByteArray.mk (Array.mk [])), Value.string (ByteArray.mk (Array.mk []))] 88).alloc
                                                                          [Value.string (ByteArray.mk (Array.mk [])), Value.bool false, Value.bool false, Value.string (ByteArray.mk (Array.mk [])), Value.string (ByteArray.mk (Array.mk []))] 88 →
                                                                      (a.isSome = true ∧ inR 0 l) ∧
                                                                        ∃ (s : ByteArray),
                                                                          ∃ (b : Bool),
                                                                            ∃ (b_1 : Bool),
                                                                              ∃ (s_3 : ByteArray),
                                                                                ∃ (s_4 : ByteArray),
                                                                                  (plainA (some (Addr.mk (blk a) (plusI (off a) 0 5) none)) = true ∧ h'.cellsAt (blk a) (plusI (off a) 0 5) 5 = some [Value.string s, Value.bool b, Value.bool b_1, Value.string s_3, Value.string s_4]) ∧
                                                                                    (a_2.isSome = true ∧ inR 0 l_1) ∧
                                                                                      ∃ (s_5 : ByteArray),
                                                                                        ∃ (b_2 : Bool),
                                                                                          ∃ (b_3 : Bool),
                                                                                            ∃ (s_6 : ByteArray),
                                                                                              ∃ (s_7 : ByteArray),
                                                                                                (plainA (some (Addr.mk (blk a_2) (plusI (off a_2) 0 5) none)) = true ∧ h'.cellsAt (blk a_2) (plusI (off a_2) 0 5) 5 = some [Value.string s_5, Value.bool b_2, Value.bool b_3, Value.string s_6, Value.string s_7]) ∧
                                                                                                  plainA (some (Addr.mk h.next 0 none)) = true ∧
                                                                                                    ∃ (h'_1 : Hp),
                                                                                                      h'.store h.next 0 [Value.string s, Value.bool b, Value.bool b_1, Value.string s_3, Value.string s_4] = some h'_1 ∧
                                                                                                        (plainA (some (Addr.mk (blk a_2) (plusI (off a_2) 0 5) none)) = true ∧ h'_1.cellsAt (blk a_2) (plusI (off a_2) 0 5) 5 = some [Value.string s_5, Value.bool b_2, Value.bool b_3, Value.string s_6, Value.string s_7]) ∧
                                                                                                          plainA (some (Addr.mk (h.next + 1) 0 none)) = true ∧
                                                                                                            ∃ (h' : Hp),
                                                                                                              h'_1.store (h.next + 1) 0 [Value.string s_5, Value.bool b_2, Value.bool b_3, Value.string s_6, Value.string s_7] = some h' ∧
                                                                                                                plainA (some (Addr.mk h.next 0 none)) = true ∧
                                                                                                                  ∃ (b : Bool),
                                                                                                                    (plainA (some (Addr.mk h.next 2 none)) = true ∧ h'.cellsAt h.next 2 1 = some [Value.bool b]) ∧
                                                                                                                      plainA (some (Addr.mk (h.next + 1) 0 none)) = true ∧
                                                                                                                        ∃ (b_4 : Bool),
                                                                                                                          (plainA (some (Addr.mk (h.next + 1) 1 none)) = true ∧ h'.cellsAt (h.next + 1) 1 1 = some [Value.bool b_4]) ∧
                                                                                                                            (notB (notB (eqB b b_4)) = true → plainA (some (Addr.mk h.next 0 none)) = true) ∧
                                                                                                                              ∃ (s : ByteArray),
                                                                                                                                (notB (notB (eqB b b_4)) = true → plainA (some (Addr.mk h.next 4 none)) = true ∧ h'.cellsAt h.next 4 1 = some [Value.string s]) ∧
                                                                                                                                  (notB (notB (eqB b b_4)) = true → plainA (some (Addr.mk (h.next + 1) 0 none)) = true) ∧
                                                                                                                                    ∃ (s_8 : ByteArray),
                                                                                                                                      (notB (notB (eqB b b_4)) = true → plainA (some (Addr.mk (h.next + 1) 3 none)) = true ∧ h'.cellsAt (h.next + 1) 3 1 = some [Value.string s_8]) ∧
                                                                                                                                        if sel (notB (eqB b b_4)) true (notB (strEq s s_8)) = true then K (Value.tuple (Array.mk [Value.slice none 0 0, Value.int IntKind.i64 230])) h'
                                                                                                                                        else
                                                                                                                                          plainA (some (Addr.mk h.next 0 none)) = true ∧
                                                                                                                                            ∃ (s : ByteArray),
                                                                                                                                              (plainA (some (Addr.mk h.next 0 none)) = true ∧ h'.cellsAt h.next 0 1 = some [Value.string s]) ∧
                                                                                                                                                plainA (some (Addr.mk h.next 0 none)) = true ∧
                                                                                                                                                  ∃ (b : Bool),
                                                                                                                                                    (plainA (some (Addr.mk h.next 1 none)) = true ∧ h'.cellsAt h.next 1 1 = some [Value.bool b]) ∧
                                                                                                                                                      plainA (some (Addr.mk h.next 0 none)) = true ∧
                                                                                                                                                        ∃ (s_9 : ByteArray),
                                                                                                                                                          (plainA (some (Addr.mk h.next 3 none)) = true ∧ h'.cellsAt h.next 3 1 = some [Value.string s_9]) ∧
                                                                                                                                                            plainA (some (Addr.mk (h.next + 1) 0 none)) = true ∧
                                                                                                                                                              ∃ (b_5 : Bool),
                                                                                                                                                                (plainA (some (Addr.mk (h.next + 1) 2 none)) = true ∧ h'.cellsAt (h.next + 1) 2 1 = some [Value.bool b_5]) ∧
                                                                                                                                                                  plainA (some (Addr.mk (h.next + 1) 0 none)) = true ∧
                                                                                                                                                                    ∃ (s_10 : ByteArray),
                                                                                                                                                                      (plainA (some (Addr.mk (h.next + 1) 4 none)) = true ∧ h'.cellsAt (h.next + 1) 4 1 = some [Value.string s_10]) ∧
                                                                                                                                                                        ∀ (h'_2 : Hp),
                                                                                                                                                                          h'_2 = h'.alloc [Value.string (ByteArray.mk (Array.mk [])), Value.bool false, Value.bool false, Value.string (ByteArray.mk (Array.mk [])), Value.string (ByteArray.mk (Array.mk []))] 88 →
                                                                                                                                                                            plainA (some (Addr.mk h'.next 0 none)) = true ∧
                                                                                                                                                                              ∃ (h'_3 : Hp),
                                                                                                                                                                                h'_2.store h'.next 0 [Value.string s, Value.bool b, Value.bool b_5, Value.string s_9, Value.string s_10] = some h'_3 ∧
                                                                                                                                                                                  plainA (some (Addr.mk h'.next 0 none)) = true ∧
                                                                                                                                                                                    ∃ (b : Bool),
                                                                                                                                                                                      (plainA (some (Addr.mk h'.next 1 none)) = true ∧ h'_3.cellsAt h'.next 1 1 = some [Value.bool b]) ∧
                                                                                                                                                                                        plainA (some (Addr.mk h'.next 0 none)) = true ∧
                                                                                                                                                                                          ∃ (b_6 : Bool),
                                                                                                                                                                                            (plainA (some (Addr.mk h'.next 2 none)) = true ∧ h'_3.cellsAt h'.next 2 1 = some [Value.bool b_6]) ∧
                                                                                                                                                                                              (notB (notB (eqB b b_6)) = true → plainA (some (Addr.mk h'.next 0 none)) = true) ∧
                                                                                                                                                                                                ∃ (s : ByteArray),
                                                                                                                                                                                                  (notB (notB (eqB b b_6)) = true → plainA (some (Addr.mk h'.next 3 none)) = true ∧ h'_3.cellsAt h'.next 3 1 = some [Value.string s]) ∧
                                                                                                                                                                                                    (notB (notB (eqB b b_6)) = true → plainA (some (Addr.mk h'.next 0 none)) = true) ∧
                                                                                                                                                                                                      ∃ (s_11 : ByteArray),
                                                                                                                                                                                                        (notB (notB (eqB b b_6)) = true → plainA (some (Addr.mk h'.next 4 none)) = true ∧ h'_3.cellsAt h'.next 4 1 = some [Value.string s_11]) ∧
                                                                                                                                                                                                          if sel (notB (eqB b b_6)) true (notB (strEq s s_11)) = true then
                                                                                                                                                                                                            ∃ (s : ByteArray),
                                                                                                                                                                                                              ∃ (b : Bool),
                                                                                                                                                                                                                ∃ (b_7 : Bool),
                                                                                                                                                                                                                  ∃ (s_12 : ByteArray),
                                                                                                                                                                                                                    ∃ (s_13 : ByteArray),
                                                                                                                                                                                                                      (plainA (some (Addr.mk h'.next 0 none)) = true ∧ h'_3.cellsAt h'.next 0 5 = some [Value.string s, Value.bool b, Value.bool b_7, Value.string s_12, Value.string s_13]) ∧
                                                                                                                                                                                                                        ∀ (h' : Hp),
                                                                                                                                                                                                                          h' = h'_3.alloc [Value.string s, Value.bool b, Value.bool b_7, Value.string s_12, Value.string s_13] 88 →
                                                                                                                                                                                                                            ∃ (a_8 : Option Addr),
                                                                                                                                                                                                                              ∃ (m_1 : Nat),
                                                                                                                                                                                                                                ∃ (n : Nat),
                                                                                                                                                                                                                                  ∃ (h'_4 : Hp),
                                                                                                                                                                                                                                    cappend Try.prog 23 23 (Value.slice a_3 l_2 c_2) (Value.slice (some (Addr.mk h'_3.next 0 none)) 1 1) h' = some (Value.slice a_8 m_1 n, h'_4) ∧
                                                                                                                                                                                                                                      (cutOk 1 (natI l) (natI c) (natI c) ∧ spotOk 5 a) ∧
                                                                                                                                                                                                                                        (cutOk 1 (natI l_1) (natI c_1) (natI c_1) ∧ spotOk 5 a_2) ∧
                                                                                                                                                                                                                                          ∃ (m' : Nat),
                                                                                                                                                                                                                                            lessN m' m ∧
                                                                                                                                                                                                                                              I [Value.slice (cutA 1 5 a) (diffN (natI l) 1) (diffN (natI c) 1), Value.slice (cutA 1 5 a_2) (diffN (natI l_1) 1) (diffN (natI c_1) 1), Value.slice a_8 m_1 n] m'
                                                                                                                                                                                                                                                h'_4
                                                                                                                                                                                                          else
                                                                                                                                                                                                            (cutOk 1 (natI l) (natI c) (natI c) ∧ spotOk 5 a) ∧
                                                                                                                                                                                                              (cutOk 1 (natI l_1) (natI c_1) (natI c_1) ∧ spotOk 5 a_2) ∧
                                                                                                                                                                                                                ∃ (m' : Nat),
                                                                                                                                                                                                                  lessN m' m ∧ I [Value.slice (cutA 1 5 a) (diffN (natI l) 1) (diffN (natI c) 1), Value.slice (cutA 1 5 a_2) (diffN (natI l_1) 1) (diffN (natI c_1) 1), Value.slice a_3 l_2 c_2] m' h'_3
                            else K (Value.tuple (Array.mk [Value.slice a_3 l_2 c_2, Value.int IntKind.i64 0])) h) := by kernel_rfl

def shp23 : Nat → List (Tmp × TypeId) := fun i => if i = 6 then [(6, 23), (7, 3), (8, 3)] else []
theorem vc23 (C : FuncId → List Value → Hp → (Value → Hp → Prop) → Prop) (a b : Option Addr) (l c l' c' : Nat) (h : Hp) (K : Value → Hp → Prop) : vBody Try.prog C pf shp23 Try.f23 (Try.f23.body.getD .skip) [.slice a l c, .slice b l' c'] h K = (
  C 17 [Value.slice a l c] h fun (v : Value) (h' : Hp) =>
    ∃ (n : Int),
      v = Value.int IntKind.i64 n ∧
        ∃ (Q : Value → Hp → Prop),
          (notB (neI n 0) = true → C 17 [Value.slice b l' c'] h' fun (v : Value) (h' : Hp) => ∃ (n : Int), v = Value.int IntKind.i64 n ∧ Q (Value.int IntKind.i64 n) h') ∧
            (notB (neI n 0) = false → ∃ (n : Int), Q (Value.int IntKind.i64 n) h') ∧
              ∀ (n_1 : Int) (h' : Hp),
                Q (Value.int IntKind.i64 n_1) h' →
                  if sel (neI n 0) true (neI n_1 0) = true then K (Value.tuple (Array.mk [Value.slice none 0 0, Value.int IntKind.i64 230])) h'
                  else
                    ∃ (I : List Value → Nat → Hp → Prop),
                      (∃ (m : Nat), I [Value.slice none 0 0, Value.int IntKind.i64 0, Value.int IntKind.i64 0] m h') ∧
                        ∀ (a_2 : Option Addr) (l_1 c : Nat) (n n_2 : Int) (m : Nat) (h : Hp),
                          I [Value.slice a_2 l_1 c, Value.int IntKind.i64 n, Value.int IntKind.i64 n_2] m h →
                            if sel (ltI n (natI l)) true (ltI n_2 (natI l')) = true then
                              (andB (ltI n (natI l)) (notB (eqI n_2 (natI l'))) = true → a.isSome = true ∧ inR n l) ∧
                                (andB (ltI n (natI l)) (notB (eqI n_2 (natI l'))) = true → plainA (some (Addr.mk (blk a) (plusI (off a) n 5) none)) = true) ∧
                                  ∃ (s : ByteArray),
                                    (andB (ltI n (natI l)) (notB (eqI n_2 (natI l'))) = true → plainA (some (Addr.mk (blk a) (plusI (off a) n 5) none)) = true ∧ h.cellsAt (blk a) (plusI (off a) n 5) 1 = some [Value.string s]) ∧
                                      (andB (ltI n (natI l)) (notB (eqI n_2 (natI l'))) = true → b.isSome = true ∧ inR n_2 l') ∧
                                        (andB (ltI n (natI l)) (notB (eqI n_2 (natI l'))) = true → plainA (some (Addr.mk (blk b) (plusI (off b) n_2 5) none)) = true) ∧
                                          ∃ (s_1 : ByteArray),
                                            (andB (ltI n (natI l)) (notB (eqI n_2 (natI l'))) = true → plainA (some (Addr.mk (blk b) (plusI (off b) n_2 5) none)) = true ∧ h.cellsAt (blk b) (plusI (off b) n_2 5) 1 = some [Value.string s_1]) ∧
                                              if sel (eqI n_2 (natI l')) true (sel (ltI n (natI l)) (strLt s s_1) false) = true then
                                                (a.isSome = true ∧ inR n l) ∧
                                                  ∃ (s : ByteArray),
                                                    ∃ (b : Bool),
                                                      ∃ (b_1 : Bool),
                                                        ∃ (s_2 : ByteArray),
                                                          ∃ (s_3 : ByteArray),
                                                            (plainA (some (Addr.mk (blk a) (plusI (off a) n 5) none)) = true ∧ h.cellsAt (blk a) (plusI (off a) n 5) 5 = some [Value.string s, Value.bool b, Value.bool b_1, Value.string s_2, Value.string s_3]) ∧
                                                              ∀ (h' : Hp),
                                                                h' = h.alloc [Value.string s, Value.bool b, Value.bool b_1, Value.string s_2, Value.string s_3] 88 →
                                                                  ∃ (a : Option Addr),
                                                                    ∃ (m_1 : Nat), ∃ (n_3 : Nat), ∃ (h'_1 : Hp), cappend Try.prog 23 23 (Value.slice a_2 l_1 c) (Value.slice (some (Addr.mk h.next 0 none)) 1 1) h' = some (Value.slice a m_1 n_3, h'_1) ∧ ∃ (m' : Nat), lessN m' m ∧ I [Value.slice a m_1 n_3, Value.int IntKind.i64 (addW IntKind.i64 n 1), Value.int IntKind.i64 n_2] m' h'_1
                                              else
                                                (notB (eqI n (natI l)) = true → b.isSome = true ∧ inR n_2 l') ∧
                                                  (notB (eqI n (natI l)) = true → plainA (some (Addr.mk (blk b) (plusI (off b) n_2 5) none)) = true) ∧
                                                    ∃ (s : ByteArray),
                                                      (notB (eqI n (natI l)) = true → plainA (some (Addr.mk (blk b) (plusI (off b) n_2 5) none)) = true ∧ h.cellsAt (blk b) (plusI (off b) n_2 5) 1 = some [Value.string s]) ∧
                                                        (notB (eqI n (natI l)) = true → a.isSome = true ∧ inR n l) ∧
                                                          (notB (eqI n (natI l)) = true → plainA (some (Addr.mk (blk a) (plusI (off a) n 5) none)) = true) ∧
                                                            ∃ (s_2 : ByteArray),
                                                              (notB (eqI n (natI l)) = true → plainA (some (Addr.mk (blk a) (plusI (off a) n 5) none)) = true ∧ h.cellsAt (blk a) (plusI (off a) n 5) 1 = some [Value.string s_2]) ∧
                                                                if sel (eqI n (natI l)) true (strLt s s_2) = true then
                                                                  (b.isSome = true ∧ inR n_2 l') ∧
                                                                    ∃ (s : ByteArray),
                                                                      ∃ (b_1 : Bool),
                                                                        ∃ (b_2 : Bool),
                                                                          ∃ (s_3 : ByteArray),
                                                                            ∃ (s_4 : ByteArray),
                                                                              (plainA (some (Addr.mk (blk b) (plusI (off b) n_2 5) none)) = true ∧ h.cellsAt (blk b) (plusI (off b) n_2 5) 5 = some [Value.string s, Value.bool b_1, Value.bool b_2, Value.string s_3, Value.string s_4]) ∧
                                                                                ∀ (h' : Hp),
                                                                                  h' = h.alloc [Value.string s, Value.bool b_1, Value.bool b_2, Value.string s_3, Value.string s_4] 88 →
                                                                                    ∃ (a : Option Addr),
                                                                                      ∃ (m_1 : Nat), ∃ (n_3 : Nat), ∃ (h'_1 : Hp), cappend Try.prog 23 23 (Value.slice a_2 l_1 c) (Value.slice (some (Addr.mk h.next 0 none)) 1 1) h' = some (Value.slice a m_1 n_3, h'_1) ∧ ∃ (m' : Nat), lessN m' m ∧ I [Value.slice a m_1 n_3, Value.int IntKind.i64 n, Value.int IntKind.i64 (addW IntKind.i64 n_2 1)] m' h'_1
                                                                else
                                                                  (a.isSome = true ∧ inR n l) ∧
                                                                    plainA (some (Addr.mk (blk a) (plusI (off a) n 5) none)) = true ∧
                                                                      ∃ (b_1 : Bool),
                                                                        (plainA (some (Addr.mk (blk a) (plusN (plusI (off a) n 5) 2) none)) = true ∧ h.cellsAt (blk a) (plusN (plusI (off a) n 5) 2) 1 = some [Value.bool b_1]) ∧
                                                                          (b.isSome = true ∧ inR n_2 l') ∧
                                                                            plainA (some (Addr.mk (blk b) (plusI (off b) n_2 5) none)) = true ∧
                                                                              ∃ (b_2 : Bool),
                                                                                (plainA (some (Addr.mk (blk b) (plusN (plusI (off b) n_2 5) 1) none)) = true ∧ h.cellsAt (blk b) (plusN (plusI (off b) n_2 5) 1) 1 = some [Value.bool b_2]) ∧
                                                                                  (notB (notB (eqB b_1 b_2)) = true → a.isSome = true ∧ inR n l) ∧
                                                                                    (notB (notB (eqB b_1 b_2)) = true → plainA (some (Addr.mk (blk a) (plusI (off a) n 5) none)) = true) ∧
                                                                                      ∃ (s : ByteArray),
                                                                                        (notB (notB (eqB b_1 b_2)) = true → plainA (some (Addr.mk (blk a) (plusN (plusI (off a) n 5) 4) none)) = true ∧ h.cellsAt (blk a) (plusN (plusI (off a) n 5) 4) 1 = some [Value.string s]) ∧
                                                                                          (notB (notB (eqB b_1 b_2)) = true → b.isSome = true ∧ inR n_2 l') ∧
                                                                                            (notB (notB (eqB b_1 b_2)) = true → plainA (some (Addr.mk (blk b) (plusI (off b) n_2 5) none)) = true) ∧
                                                                                              ∃ (s_3 : ByteArray),
                                                                                                (notB (notB (eqB b_1 b_2)) = true → plainA (some (Addr.mk (blk b) (plusN (plusI (off b) n_2 5) 3) none)) = true ∧ h.cellsAt (blk b) (plusN (plusI (off b) n_2 5) 3) 1 = some [Value.string s_3]) ∧
                                                                                                  if sel (notB (eqB b_1 b_2)) true (notB (strEq s s_3)) = true then K (Value.tuple (Array.mk [Value.slice none 0 0, Value.int IntKind.i64 230])) h
                                                                                                  else
                                                                                                    ∀ (h' : Hp),
                                                                                                      h' = h.alloc [Value.string (ByteArray.mk (Array.mk [])), Value.bool false, Value.bool false, Value.string (ByteArray.mk (Array.mk [])), Value.string (ByteArray.mk (Array.mk []))] 88 →
                                                                                                        (a.isSome = true ∧ inR n l) ∧
                                                                                                          plainA (some (Addr.mk (blk a) (plusI (off a) n 5) none)) = true ∧
                                                                                                            ∃ (s : ByteArray),
                                                                                                              (plainA (some (Addr.mk (blk a) (plusI (off a) n 5) none)) = true ∧ h'.cellsAt (blk a) (plusI (off a) n 5) 1 = some [Value.string s]) ∧
                                                                                                                (a.isSome = true ∧ inR n l) ∧
                                                                                                                  plainA (some (Addr.mk (blk a) (plusI (off a) n 5) none)) = true ∧
                                                                                                                    ∃ (b_3 : Bool),
                                                                                                                      (plainA (some (Addr.mk (blk a) (plusN (plusI (off a) n 5) 1) none)) = true ∧ h'.cellsAt (blk a) (plusN (plusI (off a) n 5) 1) 1 = some [Value.bool b_3]) ∧
                                                                                                                        (a.isSome = true ∧ inR n l) ∧
                                                                                                                          plainA (some (Addr.mk (blk a) (plusI (off a) n 5) none)) = true ∧
                                                                                                                            ∃ (s_4 : ByteArray),
                                                                                                                              (plainA (some (Addr.mk (blk a) (plusN (plusI (off a) n 5) 3) none)) = true ∧ h'.cellsAt (blk a) (plusN (plusI (off a) n 5) 3) 1 = some [Value.string s_4]) ∧
                                                                                                                                (b.isSome = true ∧ inR n_2 l') ∧
                                                                                                                                  plainA (some (Addr.mk (blk b) (plusI (off b) n_2 5) none)) = true ∧
                                                                                                                                    ∃ (b_4 : Bool),
                                                                                                                                      (plainA (some (Addr.mk (blk b) (plusN (plusI (off b) n_2 5) 2) none)) = true ∧ h'.cellsAt (blk b) (plusN (plusI (off b) n_2 5) 2) 1 = some [Value.bool b_4]) ∧
                                                                                                                                        (b.isSome = true ∧ inR n_2 l') ∧
                                                                                                                                          plainA (some (Addr.mk (blk b) (plusI (off b) n_2 5) none)) = true ∧
                                                                                                                                            ∃ (s_5 : ByteArray),
                                                                                                                                              (plainA (some (Addr.mk (blk b) (plusN (plusI (off b) n_2 5) 4) none)) = true ∧ h'.cellsAt (blk b) (plusN (plusI (off b) n_2 5) 4) 1 = some [Value.string s_5]) ∧
                                                                                                                                                plainA (some (Addr.mk h.next 0 none)) = true ∧
                                                                                                                                                  ∃ (h'_1 : Hp),
                                                                                                                                                    h'.store h.next 0 [Value.string s, Value.bool b_3, Value.bool b_4, Value.string s_4, Value.string s_5] = some h'_1 ∧
                                                                                                                                                      ∃ (s : ByteArray),
                                                                                                                                                        ∃ (b : Bool),
                                                                                                                                                          ∃ (b_5 : Bool),
                                                                                                                                                            ∃ (s_6 : ByteArray),
                                                                                                                                                              ∃ (s_7 : ByteArray),
                                                                                                                                                                (plainA (some (Addr.mk h.next 0 none)) = true ∧ h'_1.cellsAt h.next 0 5 = some [Value.string s, Value.bool b, Value.bool b_5, Value.string s_6, Value.string s_7]) ∧
                                                                                                                                                                  C 51 [Value.agg (Array.mk [Value.string s, Value.bool b, Value.bool b_5, Value.string s_6, Value.string s_7])] h'_1 fun (v : Value) (h' : Hp) =>
                                                                                                                                                                    ∃ (b : Bool),
                                                                                                                                                                      v = Value.bool b ∧
                                                                                                                                                                        if b = true then
                                                                                                                                                                          ∃ (s : ByteArray),
                                                                                                                                                                            ∃ (b : Bool),
                                                                                                                                                                              ∃ (b_6 : Bool),
                                                                                                                                                                                ∃ (s_8 : ByteArray),
                                                                                                                                                                                  ∃ (s_9 : ByteArray),
                                                                                                                                                                                    (plainA (some (Addr.mk h.next 0 none)) = true ∧ h'.cellsAt h.next 0 5 = some [Value.string s, Value.bool b, Value.bool b_6, Value.string s_8, Value.string s_9]) ∧
                                                                                                                                                                                      ∀ (h'_2 : Hp),
                                                                                                                                                                                        h'_2 = h'.alloc [Value.string s, Value.bool b, Value.bool b_6, Value.string s_8, Value.string s_9] 88 →
                                                                                                                                                                                          ∃ (a : Option Addr),
                                                                                                                                                                                            ∃ (m_1 : Nat),
                                                                                                                                                                                              ∃ (n_3 : Nat),
                                                                                                                                                                                                ∃ (h'_3 : Hp),
                                                                                                                                                                                                  cappend Try.prog 23 23 (Value.slice a_2 l_1 c) (Value.slice (some (Addr.mk h'.next 0 none)) 1 1) h'_2 = some (Value.slice a m_1 n_3, h'_3) ∧
                                                                                                                                                                                                    ∃ (m' : Nat), lessN m' m ∧ I [Value.slice a m_1 n_3, Value.int IntKind.i64 (addW IntKind.i64 n 1), Value.int IntKind.i64 (addW IntKind.i64 n_2 1)] m' h'_3
                                                                                                                                                                        else ∃ (m' : Nat), lessN m' m ∧ I [Value.slice a_2 l_1 c, Value.int IntKind.i64 (addW IntKind.i64 n 1), Value.int IntKind.i64 (addW IntKind.i64 n_2 1)] m' h'
                            else K (Value.tuple (Array.mk [Value.slice a_2 l_1 c, Value.int IntKind.i64 0])) h) := by kernel_rfl

def shp6 : Nat → List (Tmp × TypeId) := fun i => []
theorem vc6 (C : FuncId → List Value → Hp → (Value → Hp → Prop) → Prop) (a b : Option Addr) (l c l' c' : Nat) (h : Hp) (K : Value → Hp → Prop) : vBody Try.prog C pf shp6 Try.f6 (Try.f6.body.getD .skip) [.slice a l c, .slice b l' c'] h K = (
  C 15 [Value.slice a l c] h fun (v : Value) (h' : Hp) =>
    ∃ (a_1 : Option Addr),
      ∃ (l_1 : Nat),
        ∃ (c_1 : Nat),
          v = Value.slice a_1 l_1 c_1 ∧
            C 15 [Value.slice b l' c'] h' fun (v : Value) (h' : Hp) =>
              ∃ (a_2 : Option Addr),
                ∃ (l_2 : Nat),
                  ∃ (c_2 : Nat),
                    v = Value.slice a_2 l_2 c_2 ∧
                      C 22 [Value.slice a_1 l_1 c_1, Value.slice a_2 l_2 c_2] h' fun (v : Value) (h' : Hp) =>
                        ∃ (a_3 : Option Addr),
                          ∃ (l_3 : Nat),
                            ∃ (c_3 : Nat),
                              ∃ (n : Int),
                                v = Value.tuple (Array.mk [Value.slice a_3 l_3 c_3, Value.int IntKind.i64 n]) ∧
                                  C 22 [Value.slice a_1 l_1 c_1, Value.slice a_2 l_2 c_2] h' fun (v : Value) (h' : Hp) =>
                                    ∃ (a_4 : Option Addr),
                                      ∃ (l_4 : Nat),
                                        ∃ (c_4 : Nat),
                                          ∃ (n_1 : Int),
                                            v = Value.tuple (Array.mk [Value.slice a_4 l_4 c_4, Value.int IntKind.i64 n_1]) ∧
                                              C 23 [Value.slice a l c, Value.slice b l' c'] h' fun (v : Value) (h' : Hp) =>
                                                ∃ (a_5 : Option Addr),
                                                  ∃ (l_5 : Nat),
                                                    ∃ (c_5 : Nat),
                                                      ∃ (n_2 : Int),
                                                        v = Value.tuple (Array.mk [Value.slice a_5 l_5 c_5, Value.int IntKind.i64 n_2]) ∧
                                                          ∃ (Q : Value → Hp → Prop),
                                                            (sel (eqI n n_2) (eqI n_1 n_2) false = true → C 21 [Value.slice a_3 l_3 c_3, Value.slice a_4 l_4 c_4, Value.slice a_5 l_5 c_5] h' fun (v : Value) (h' : Hp) => ∃ (b : Bool), v = Value.bool b ∧ Q (Value.bool b) h') ∧
                                                              (sel (eqI n n_2) (eqI n_1 n_2) false = false → ∃ (b : Bool), Q (Value.bool b) h') ∧
                                                                ∀ (b_1 : Bool) (h' : Hp),
                                                                  Q (Value.bool b_1) h' →
                                                                    ∃ (b_2 : Bool),
                                                                      (sel (sel (eqI n n_2) (eqI n_1 n_2) false) b_1 false = true → C 18 [Value.slice a_1 l_1 c_1, Value.slice a l c] h' fun (v : Value) (h'_1 : Hp) => v = Value.bool b_2 ∧ h'_1 = h') ∧
                                                                        ∃ (b_3 : Bool),
                                                                          (sel (sel (sel (eqI n n_2) (eqI n_1 n_2) false) b_1 false) b_2 false = true → C 18 [Value.slice a_2 l_2 c_2, Value.slice b l' c'] h' fun (v : Value) (h'_1 : Hp) => v = Value.bool b_3 ∧ h'_1 = h') ∧
                                                                            ∃ (Q : Value → Hp → Prop),
                                                                              (sel (sel (sel (sel (eqI n n_2) (eqI n_1 n_2) false) b_1 false) b_2 false) b_3 false = true → C 14 [] h' fun (v : Value) (h' : Hp) => ∃ (b : Bool), v = Value.bool b ∧ Q (Value.bool b) h') ∧
                                                                                (sel (sel (sel (sel (eqI n n_2) (eqI n_1 n_2) false) b_1 false) b_2 false) b_3 false = false → ∃ (b : Bool), Q (Value.bool b) h') ∧ ∀ (b : Bool) (h' : Hp), Q (Value.bool b) h' → K (Value.bool (sel (sel (sel (sel (sel (eqI n n_2) (eqI n_1 n_2) false) b_1 false) b_2 false) b_3 false) b false)) h') := by kernel_rfl

def shp7 : Nat → List (Tmp × TypeId) := fun i => []
theorem vc7 (C : FuncId → List Value → Hp → (Value → Hp → Prop) → Prop) (a b d : Option Addr) (l c l' c' m n : Nat) (h : Hp) (K : Value → Hp → Prop) : vBody Try.prog C pf shp7 Try.f7 (Try.f7.body.getD .skip) [.slice a l c, .slice b l' c', .slice d m n] h K = (
  C 16 [Value.slice a l c] h fun (v : Value) (h' : Hp) =>
    ∃ (n_1 : Int),
      v = Value.int IntKind.i64 n_1 ∧
        if eqI n_1 0 = true then
          C 19 [Value.slice a l c] h' fun (v : Value) (h' : Hp) =>
            ∃ (a_1 : Option Addr),
              ∃ (l_1 : Nat),
                ∃ (c_1 : Nat),
                  ∃ (n_2 : Int),
                    v = Value.tuple (Array.mk [Value.slice a_1 l_1 c_1, Value.int IntKind.i64 n_2]) ∧
                      C 19 [Value.slice a_1 l_1 c_1] h' fun (v : Value) (h' : Hp) =>
                        ∃ (a_2 : Option Addr),
                          ∃ (l_2 : Nat),
                            ∃ (c_2 : Nat),
                              ∃ (n_3 : Int),
                                v = Value.tuple (Array.mk [Value.slice a_2 l_2 c_2, Value.int IntKind.i64 n_3]) ∧
                                  C 22 [Value.slice a l c, Value.slice a_1 l_1 c_1] h' fun (v : Value) (h' : Hp) =>
                                    ∃ (a_3 : Option Addr),
                                      ∃ (l_3 : Nat),
                                        ∃ (c_3 : Nat),
                                          ∃ (n_4 : Int),
                                            v = Value.tuple (Array.mk [Value.slice a_3 l_3 c_3, Value.int IntKind.i64 n_4]) ∧
                                              ∃ (b_1 : Bool),
                                                (notB (sel (sel (neI n_2 0) true (neI n_3 0)) true (neI n_4 0)) = true → C 24 [Value.slice a_2 l_2 c_2, Value.slice a l c] h' fun (v : Value) (h'_1 : Hp) => v = Value.bool b_1 ∧ h'_1 = h') ∧
                                                  if sel (sel (sel (sel (neI n_2 0) true (neI n_3 0)) true (neI n_4 0)) true (notB b_1)) true (neI (natI l_3) 0) = true then K (Value.bool false) h'
                                                  else
                                                    C 22 [Value.slice a l c, Value.slice b l' c'] h' fun (v : Value) (h' : Hp) =>
                                                      ∃ (a_4 : Option Addr),
                                                        ∃ (l_4 : Nat),
                                                          ∃ (c_4 : Nat),
                                                            ∃ (n_5 : Int),
                                                              v = Value.tuple (Array.mk [Value.slice a_4 l_4 c_4, Value.int IntKind.i64 n_5]) ∧
                                                                C 22 [Value.slice a_4 l_4 c_4, Value.slice d m n] h' fun (v : Value) (h' : Hp) =>
                                                                  ∃ (a_5 : Option Addr),
                                                                    ∃ (l_5 : Nat),
                                                                      ∃ (c_5 : Nat),
                                                                        ∃ (n_6 : Int),
                                                                          v = Value.tuple (Array.mk [Value.slice a_5 l_5 c_5, Value.int IntKind.i64 n_6]) ∧
                                                                            C 22 [Value.slice b l' c', Value.slice d m n] h' fun (v : Value) (h' : Hp) =>
                                                                              ∃ (a_6 : Option Addr),
                                                                                ∃ (l_6 : Nat),
                                                                                  ∃ (c_6 : Nat),
                                                                                    ∃ (n : Int),
                                                                                      v = Value.tuple (Array.mk [Value.slice a_6 l_6 c_6, Value.int IntKind.i64 n]) ∧
                                                                                        C 22 [Value.slice a l c, Value.slice a_6 l_6 c_6] h' fun (v : Value) (h' : Hp) =>
                                                                                          ∃ (a : Option Addr),
                                                                                            ∃ (l : Nat),
                                                                                              ∃ (c : Nat),
                                                                                                ∃ (n_7 : Int),
                                                                                                  v = Value.tuple (Array.mk [Value.slice a l c, Value.int IntKind.i64 n_7]) ∧
                                                                                                    if sel (sel (sel (neI n_5 0) true (neI n_6 0)) true (neI n 0)) true (neI n_7 0) = true then C 14 [] h' fun (v : Value) (h' : Hp) => ∃ (b : Bool), v = Value.bool b ∧ K (Value.bool b) h'
                                                                                                    else
                                                                                                      C 24 [Value.slice a_5 l_5 c_5, Value.slice a l c] h' fun (v : Value) (h' : Hp) =>
                                                                                                        ∃ (b : Bool),
                                                                                                          v = Value.bool b ∧ ∃ (Q : Value → Hp → Prop), (b = true → C 14 [] h' fun (v : Value) (h' : Hp) => ∃ (b : Bool), v = Value.bool b ∧ Q (Value.bool b) h') ∧ (b = false → ∃ (b : Bool), Q (Value.bool b) h') ∧ ∀ (b_2 : Bool) (h' : Hp), Q (Value.bool b_2) h' → K (Value.bool (sel b b_2 false)) h'
        else
          C 22 [Value.slice a l c, Value.slice b l' c'] h' fun (v : Value) (h' : Hp) =>
            ∃ (a_1 : Option Addr),
              ∃ (l_1 : Nat),
                ∃ (c_1 : Nat),
                  ∃ (n_2 : Int),
                    v = Value.tuple (Array.mk [Value.slice a_1 l_1 c_1, Value.int IntKind.i64 n_2]) ∧
                      C 22 [Value.slice a_1 l_1 c_1, Value.slice d m n] h' fun (v : Value) (h' : Hp) =>
                        ∃ (a_2 : Option Addr),
                          ∃ (l_2 : Nat),
                            ∃ (c_2 : Nat),
                              ∃ (n_3 : Int),
                                v = Value.tuple (Array.mk [Value.slice a_2 l_2 c_2, Value.int IntKind.i64 n_3]) ∧
                                  C 22 [Value.slice b l' c', Value.slice d m n] h' fun (v : Value) (h' : Hp) =>
                                    ∃ (a_3 : Option Addr),
                                      ∃ (l_3 : Nat),
                                        ∃ (c_3 : Nat),
                                          ∃ (n : Int),
                                            v = Value.tuple (Array.mk [Value.slice a_3 l_3 c_3, Value.int IntKind.i64 n]) ∧
                                              C 22 [Value.slice a l c, Value.slice a_3 l_3 c_3] h' fun (v : Value) (h' : Hp) =>
                                                ∃ (a : Option Addr),
                                                  ∃ (l : Nat),
                                                    ∃ (c : Nat),
                                                      ∃ (n_4 : Int),
                                                        v = Value.tuple (Array.mk [Value.slice a l c, Value.int IntKind.i64 n_4]) ∧
                                                          if sel (sel (sel (neI n_2 0) true (neI n_3 0)) true (neI n 0)) true (neI n_4 0) = true then C 14 [] h' fun (v : Value) (h' : Hp) => ∃ (b : Bool), v = Value.bool b ∧ K (Value.bool b) h'
                                                          else
                                                            C 24 [Value.slice a_2 l_2 c_2, Value.slice a l c] h' fun (v : Value) (h' : Hp) =>
                                                              ∃ (b : Bool), v = Value.bool b ∧ ∃ (Q : Value → Hp → Prop), (b = true → C 14 [] h' fun (v : Value) (h' : Hp) => ∃ (b : Bool), v = Value.bool b ∧ Q (Value.bool b) h') ∧ (b = false → ∃ (b : Bool), Q (Value.bool b) h') ∧ ∀ (b_1 : Bool) (h' : Hp), Q (Value.bool b_1) h' → K (Value.bool (sel b b_1 false)) h') := by kernel_rfl
end Go.Proofs.Ytfkhjbfddeahaaa.vc
