/- The conditions of the symbolic runs of functions of the program (printed by a program of ours, vcgen.py; checked by the kernel). -/
import Derived.Test.YtfkhjbfddeahaaaDiskW
import Derived.Test.YtfkhjbfddeahaaaProg
import Derived.KernelRfl
set_option linter.unusedVariables false
set_option maxRecDepth 100000
namespace Go.Proofs.Ytfkhjbfddeahaaa.vc
open Go Go.Cn Go.Proofs

def shp9 : Nat → List (Tmp × TypeId) := fun i => if i = 7 then [(7, 40), (8, 41), (9, 3)] else if i = 26 then [(17, 36), (18, 3)] else if i = 34 then [(20, 3), (21, 3)] else if i = 44 then [(23, 3)] else if i = 52 then [(25, 3)] else if i = 1000016 then [(7, 40), (8, 41)] else if i = 1000008 then [(7, 40), (8, 41)] else if i = 1000038 then [(20, 3)] else if i = 1000035 then [(20, 3)] else if i = 1000049 then [(24, 9)] else []
theorem vc9 (C : FuncId → List Value → Hp → (Value → Hp → Prop) → Prop) (a : Option Addr) (l c : Nat) (fa : Option Addr) (fl fc : Nat) (h : Hp) (K : Value → Hp → Prop) : vBody Try.prog C pf shp9 Try.f9 (Try.f9.body.getD .skip) [.slice a l c, .slice fa fl fc] h K = (
  C 26 [Value.int IntKind.i64 1024, Value.int IntKind.i64 8] h fun (v : Value) (h' : Hp) =>
    ∃ (a_1 : Option Addr),
      ∃ (n : Int),
        v = Value.tuple (Array.mk [Value.pointer a_1, Value.int IntKind.i64 n]) ∧
          ∃ (Q : Value → Hp → Prop),
            (notB (sel (neI n 0) true (isN a_1)) = true → C 25 [] h' fun (v : Value) (h' : Hp) => ∃ (b : Bool), v = Value.bool b ∧ Q (Value.bool b) h') ∧
              (notB (sel (neI n 0) true (isN a_1)) = false → ∃ (b : Bool), Q (Value.bool b) h') ∧
                ∀ (b : Bool) (h' : Hp),
                  Q (Value.bool b) h' →
                    if sel (sel (neI n 0) true (isN a_1)) true (notB b) = true then K (Value.bool false) h'
                    else
                      ∃ (a_3 : Option Addr),
                        ∃ (m : Nat),
                          ∃ (n : Nat),
                            ∃ (h'_1 : Hp),
                              cmakeSlice Try.prog 41 (Value.int IntKind.i64 8) (Value.int IntKind.i64 8) h' = some (Value.slice a_3 m n, h'_1) ∧
                                ∃ (I : List Value → Nat → Hp → Prop),
                                  (∃ (m_1 : Nat), I [Value.slice none 0 0, Value.slice a_3 m n, Value.int IntKind.i64 0] m_1 h'_1) ∧
                                    ∀ (a_4 : Option Addr) (l_1 c : Nat) (a_5 : Option Addr) (l_2 c_1 : Nat) (n : Int) (m : Nat) (h : Hp),
                                      I [Value.slice a_4 l_1 c, Value.slice a_5 l_2 c_1, Value.int IntKind.i64 n] m h →
                                        if ltI n (natI l) = true then
                                          ∃ (J : List Value → Hp → Prop),
                                            ((a.isSome = true ∧ inR n l) ∧
                                                ∃ (n_1 : Int),
                                                  ∃ (n_2 : Int),
                                                    ∃ (n_3 : Int),
                                                      ∃ (n_4 : Int),
                                                        ∃ (n_5 : Int),
                                                          ∃ (n_6 : Int),
                                                            ∃ (n_7 : Int),
                                                              ∃ (a_7 : Option Addr),
                                                                ∃ (l : Nat),
                                                                  ∃ (c_2 : Nat),
                                                                    ∃ (a_8 : Option Addr),
                                                                      ∃ (l_3 : Nat),
                                                                        ∃ (c_3 : Nat),
                                                                          (plainA (some (Addr.mk (blk a) (plusI (off a) n 9) none)) = true ∧
                                                                              h.cellsAt (blk a) (plusI (off a) n 9) 9 = some [Value.int IntKind.i64 n_1, Value.int IntKind.i64 n_2, Value.int IntKind.u32 n_3, Value.int IntKind.i64 n_4, Value.int IntKind.i64 n_5, Value.int IntKind.u8 n_6, Value.int IntKind.u8 n_7, Value.slice a_7 l c_2, Value.slice a_8 l_3 c_3]) ∧
                                                                            ∀ (h' : Hp),
                                                                              h' = h.alloc [Value.int IntKind.i64 (Int.ofNat 0), Value.int IntKind.i64 (Int.ofNat 0), Value.int IntKind.u32 (Int.ofNat 0), Value.int IntKind.i64 (Int.ofNat 0), Value.int IntKind.i64 (Int.ofNat 0), Value.int IntKind.u8 (Int.ofNat 0), Value.int IntKind.u8 (Int.ofNat 0), Value.slice none 0 0, Value.slice none 0 0] 47 →
                                                                                plainA (some (Addr.mk h.next 0 none)) = true ∧
                                                                                  ∃ (h'_2 : Hp),
                                                                                    h'.store h.next 0 [Value.int IntKind.i64 n_1, Value.int IntKind.i64 n_2, Value.int IntKind.u32 n_3, Value.int IntKind.i64 n_4, Value.int IntKind.i64 n_5, Value.int IntKind.u8 n_6, Value.int IntKind.u8 n_7, Value.slice a_7 l c_2, Value.slice a_8 l_3 c_3] = some h'_2 ∧
                                                                                      ∃ (n : Int),
                                                                                        ∃ (n_8 : Int),
                                                                                          ∃ (n_9 : Int),
                                                                                            ∃ (n_10 : Int),
                                                                                              ∃ (n_11 : Int),
                                                                                                ∃ (n_12 : Int),
                                                                                                  ∃ (n_13 : Int),
                                                                                                    ∃ (a : Option Addr),
                                                                                                      ∃ (l : Nat),
                                                                                                        ∃ (c_4 : Nat),
                                                                                                          ∃ (a_9 : Option Addr),
                                                                                                            ∃ (l_4 : Nat),
                                                                                                              ∃ (c_5 : Nat),
                                                                                                                (plainA (some (Addr.mk h.next 0 none)) = true ∧
                                                                                                                    h'_2.cellsAt h.next 0 9 = some [Value.int IntKind.i64 n, Value.int IntKind.i64 n_8, Value.int IntKind.u32 n_9, Value.int IntKind.i64 n_10, Value.int IntKind.i64 n_11, Value.int IntKind.u8 n_12, Value.int IntKind.u8 n_13, Value.slice a l c_4, Value.slice a_9 l_4 c_5]) ∧
                                                                                                                  C 27 [Value.pointer a_1, Value.agg (Array.mk [Value.int IntKind.i64 n, Value.int IntKind.i64 n_8, Value.int IntKind.u32 n_9, Value.int IntKind.i64 n_10, Value.int IntKind.i64 n_11, Value.int IntKind.u8 n_12, Value.int IntKind.u8 n_13, Value.slice a l c_4, Value.slice a_9 l_4 c_5])] h'_2
                                                                                                                    fun (v : Value) (h' : Hp) =>
                                                                                                                    ∃ (b : Bool),
                                                                                                                      v = Value.bool b ∧
                                                                                                                        ∃ (J_1 : List Value → Hp → Prop),
                                                                                                                          (plainA (some (Addr.mk h.next 0 none)) = true ∧
                                                                                                                              ∃ (n : Int),
                                                                                                                                (plainA (some (Addr.mk h.next 0 none)) = true ∧ h'.cellsAt h.next 0 1 = some [Value.int IntKind.i64 n]) ∧
                                                                                                                                  if eqI n 3 = true then
                                                                                                                                    if notB b = true then K (Value.bool false) h'
                                                                                                                                    else
                                                                                                                                      C 28 [Value.pointer a_1] h' fun (v : Value) (h' : Hp) =>
                                                                                                                                        ∃ (a : Option Addr),
                                                                                                                                          ∃ (l : Nat),
                                                                                                                                            ∃ (c : Nat),
                                                                                                                                              v = Value.slice a l c ∧ ∃ (a_10 : Option Addr), ∃ (m : Nat), ∃ (n : Nat), ∃ (h'_3 : Hp), cmakeSlice Try.prog 41 (Value.int IntKind.i64 8) (Value.int IntKind.i64 8) h' = some (Value.slice a_10 m n, h'_3) ∧ J_1 [Value.slice a l c, Value.slice a_10 m n] h'_3
                                                                                                                                  else J_1 [Value.slice a_4 l_1 c, Value.slice a_5 l_2 c_1] h') ∧
                                                                                                                            ∀ (a : Option Addr) (l c : Nat) (a_10 : Option Addr) (l_5 c_6 : Nat) (h_1 : Hp),
                                                                                                                              J_1 [Value.slice a l c, Value.slice a_10 l_5 c_6] h_1 →
                                                                                                                                plainA (some (Addr.mk h.next 0 none)) = true ∧
                                                                                                                                  ∃ (n : Int),
                                                                                                                                    (plainA (some (Addr.mk h.next 0 none)) = true ∧ h_1.cellsAt h.next 0 1 = some [Value.int IntKind.i64 n]) ∧
                                                                                                                                      if sel (eqI n 1) b false = true then
                                                                                                                                        plainA (some (Addr.mk h.next 0 none)) = true ∧
                                                                                                                                          ∃ (n : Int),
                                                                                                                                            (plainA (some (Addr.mk h.next 2 none)) = true ∧ h_1.cellsAt h.next 2 1 = some [Value.int IntKind.u32 n]) ∧
                                                                                                                                              nonzero 8 ∧
                                                                                                                                                (a_10.isSome = true ∧ inR (toW IntKind.i64 (remW n 8)) l_5) ∧
                                                                                                                                                  ∃ (a_12 : Option Addr),
                                                                                                                                                    ∃ (l_6 : Nat),
                                                                                                                                                      ∃ (c_7 : Nat),
                                                                                                                                                        (plainA (some (Addr.mk (blk a_10) (plusI (off a_10) (toW IntKind.i64 (remW n 8)) 1) none)) = true ∧ h_1.cellsAt (blk a_10) (plusI (off a_10) (toW IntKind.i64 (remW n 8)) 1) 1 = some [Value.slice a_12 l_6 c_7]) ∧
                                                                                                                                                          plainA (some (Addr.mk h.next 0 none)) = true ∧
                                                                                                                                                            ∃ (n_14 : Int),
                                                                                                                                                              ∃ (n_15 : Int),
                                                                                                                                                                ∃ (n_16 : Int),
                                                                                                                                                                  (plainA (some (Addr.mk h.next 4 none)) = true ∧ h_1.cellsAt h.next 4 3 = some [Value.int IntKind.i64 n_14, Value.int IntKind.u8 n_15, Value.int IntKind.u8 n_16]) ∧
                                                                                                                                                                    C 29 [Value.agg (Array.mk [Value.int IntKind.i64 n_14, Value.int IntKind.u8 n_15, Value.int IntKind.u8 n_16]), Value.int IntKind.i64 1024] h_1 fun (v : Value) (h' : Hp) =>
                                                                                                                                                                      ∃ (s : ByteArray),
                                                                                                                                                                        v = Value.string s ∧
                                                                                                                                                                          (plainA (some (Addr.mk (blk a_10) (plusI (off a_10) (toW IntKind.i64 (remW n 8)) 1) none)) = true ∧ h'.cellsAt (blk a_10) (plusI (off a_10) (toW IntKind.i64 (remW n 8)) 1) 1 = some [Value.slice a_12 l_6 c_7]) ∧
                                                                                                                                                                            ∀ (h'_3 : Hp),
                                                                                                                                                                              h'_3 = h'.alloc [Value.string s] 9 →
                                                                                                                                                                                (plainA (some (Addr.mk (blk a_10) (plusI (off a_10) (toW IntKind.i64 (remW n 8)) 1) none)) = true ∧ h'_3.cellsAt (blk a_10) (plusI (off a_10) (toW IntKind.i64 (remW n 8)) 1) 1 = some [Value.slice a_12 l_6 c_7]) ∧
                                                                                                                                                                                  ∃ (a_14 : Option Addr),
                                                                                                                                                                                    ∃ (m : Nat),
                                                                                                                                                                                      ∃ (n_17 : Nat),
                                                                                                                                                                                        ∃ (h'_4 : Hp),
                                                                                                                                                                                          cappend Try.prog 40 40 (Value.slice a_12 l_6 c_7) (Value.slice (some (Addr.mk h'.next 0 none)) 1 1) h'_3 = some (Value.slice a_14 m n_17, h'_4) ∧
                                                                                                                                                                                            (a_10.isSome = true ∧ inR (toW IntKind.i64 (remW n 8)) l_5) ∧
                                                                                                                                                                                              plainA (some (Addr.mk (blk a_10) (plusI (off a_10) (toW IntKind.i64 (remW n 8)) 1) none)) = true ∧
                                                                                                                                                                                                ∃ (h' : Hp), h'_4.store (blk a_10) (plusI (off a_10) (toW IntKind.i64 (remW n 8)) 1) [Value.slice a_14 m n_17] = some h' ∧ J [Value.slice a l c, Value.slice a_10 l_5 c_6] h'
                                                                                                                                      else J [Value.slice a l c, Value.slice a_10 l_5 c_6] h_1) ∧
                                              ∀ (a : Option Addr) (l c : Nat) (a_7 : Option Addr) (l_3 c_2 : Nat) (h : Hp), J [Value.slice a l c, Value.slice a_7 l_3 c_2] h → ∃ (m' : Nat), lessN m' m ∧ I [Value.slice a l c, Value.slice a_7 l_3 c_2, Value.int IntKind.i64 (addW IntKind.i64 n 1)] m' h
                                        else
                                          C 28 [Value.pointer a_1] h fun (v : Value) (h' : Hp) =>
                                            ∃ (a : Option Addr),
                                              ∃ (l : Nat),
                                                ∃ (c_2 : Nat),
                                                  v = Value.slice a l c_2 ∧
                                                    C 30 [Value.pointer a_1] h' fun (v : Value) (h' : Hp) =>
                                                      ∃ (a_7 : Option Addr),
                                                        ∃ (l_3 : Nat),
                                                          ∃ (c_3 : Nat),
                                                            v = Value.slice a_7 l_3 c_3 ∧
                                                              C 31 [Value.pointer a_1] h' fun (v : Value) (h' : Hp) =>
                                                                ∃ (a_8 : Option Addr),
                                                                  v = Value.pointer a_8 ∧
                                                                    C 31 [Value.pointer a_1] h' fun (v : Value) (h' : Hp) =>
                                                                      ∃ (a_9 : Option Addr),
                                                                        v = Value.pointer a_9 ∧
                                                                          ∃ (Q : Value → Hp → Prop),
                                                                            (notB (sel (isN a_8) true (isN a_9)) = true → C 32 [Value.pointer a_8, Value.slice none 0 0] h' fun (v : Value) (h' : Hp) => ∃ (n : Int), v = Value.int IntKind.i64 n ∧ Q (Value.int IntKind.i64 n) h') ∧
                                                                              (notB (sel (isN a_8) true (isN a_9)) = false → ∃ (n : Int), Q (Value.int IntKind.i64 n) h') ∧
                                                                                ∀ (n : Int) (h' : Hp),
                                                                                  Q (Value.int IntKind.i64 n) h' →
                                                                                    ∃ (Q : Value → Hp → Prop),
                                                                                      (notB (sel (sel (isN a_8) true (isN a_9)) true (neI n 0)) = true → C 34 [Value.pointer a_8] h' fun (v : Value) (h' : Hp) => ∃ (a : Option Addr), ∃ (l : Nat), ∃ (c : Nat), v = Value.slice a l c ∧ Q (Value.slice a l c) h') ∧
                                                                                        (notB (sel (sel (isN a_8) true (isN a_9)) true (neI n 0)) = false → ∃ (a : Option Addr), ∃ (l : Nat), ∃ (c : Nat), Q (Value.slice a l c) h') ∧
                                                                                          ∀ (a_11 : Option Addr) (l_4 c_4 : Nat) (h' : Hp),
                                                                                            Q (Value.slice a_11 l_4 c_4) h' →
                                                                                              ∃ (Q : Value → Hp → Prop),
                                                                                                (notB (sel (sel (isN a_8) true (isN a_9)) true (neI n 0)) = true → C 33 [Value.slice a_11 l_4 c_4, Value.slice a_4 l_1 c] h' fun (v : Value) (h' : Hp) => ∃ (b : Bool), v = Value.bool b ∧ Q (Value.bool b) h') ∧
                                                                                                  (notB (sel (sel (isN a_8) true (isN a_9)) true (neI n 0)) = false → ∃ (b : Bool), Q (Value.bool b) h') ∧
                                                                                                    ∀ (b : Bool) (h' : Hp),
                                                                                                      Q (Value.bool b) h' →
                                                                                                        if sel (sel (sel (isN a_8) true (isN a_9)) true (neI n 0)) true (notB b) = true then K (Value.bool false) h'
                                                                                                        else
                                                                                                          ∃ (I : List Value → Nat → Hp → Prop),
                                                                                                            (∃ (m : Nat), I [Value.slice none 0 0, Value.int IntKind.i64 0] m h') ∧
                                                                                                              ∀ (a_14 : Option Addr) (l_5 c : Nat) (n : Int) (m : Nat) (h : Hp),
                                                                                                                I [Value.slice a_14 l_5 c, Value.int IntKind.i64 n] m h →
                                                                                                                  if ltI n (natI l_3) = true then
                                                                                                                    ∀ (h' : Hp),
                                                                                                                      h' = h.alloc [Value.int IntKind.u8 255] 57 →
                                                                                                                        ∃ (a : Option Addr),
                                                                                                                          ∃ (m_1 : Nat),
                                                                                                                            ∃ (n_1 : Nat), ∃ (h'_2 : Hp), cappend Try.prog 36 36 (Value.slice a_14 l_5 c) (Value.slice (some (Addr.mk h.next 0 none)) 1 1) h' = some (Value.slice a m_1 n_1, h'_2) ∧ ∃ (m' : Nat), lessN m' m ∧ I [Value.slice a m_1 n_1, Value.int IntKind.i64 (addW IntKind.i64 n 1)] m' h'_2
                                                                                                                  else
                                                                                                                    C 32 [Value.pointer a_9, Value.slice a_14 l_5 c] h fun (v : Value) (h' : Hp) =>
                                                                                                                      ∃ (n : Int),
                                                                                                                        v = Value.int IntKind.i64 n ∧
                                                                                                                          ∃ (Q : Value → Hp → Prop),
                                                                                                                            (notB (neI n 0) = true → C 34 [Value.pointer a_9] h' fun (v : Value) (h' : Hp) => ∃ (a : Option Addr), ∃ (l : Nat), ∃ (c : Nat), v = Value.slice a l c ∧ Q (Value.slice a l c) h') ∧
                                                                                                                              (notB (neI n 0) = false → ∃ (a : Option Addr), ∃ (l : Nat), ∃ (c : Nat), Q (Value.slice a l c) h') ∧
                                                                                                                                ∀ (a_16 : Option Addr) (l_6 c : Nat) (h' : Hp),
                                                                                                                                  Q (Value.slice a_16 l_6 c) h' →
                                                                                                                                    ∃ (Q : Value → Hp → Prop),
                                                                                                                                      (notB (neI n 0) = true → C 33 [Value.slice a_16 l_6 c, Value.slice a l c_2] h' fun (v : Value) (h' : Hp) => ∃ (b : Bool), v = Value.bool b ∧ Q (Value.bool b) h') ∧
                                                                                                                                        (notB (neI n 0) = false → ∃ (b : Bool), Q (Value.bool b) h') ∧
                                                                                                                                          ∀ (b : Bool) (h' : Hp),
                                                                                                                                            Q (Value.bool b) h' →
                                                                                                                                              ∃ (Q : Value → Hp → Prop),
                                                                                                                                                (notB (sel (neI n 0) true (notB b)) = true → C 32 [Value.pointer a_1, Value.slice fa fl fc] h' fun (v : Value) (h' : Hp) => ∃ (n : Int), v = Value.int IntKind.i64 n ∧ Q (Value.int IntKind.i64 n) h') ∧
                                                                                                                                                  (notB (sel (neI n 0) true (notB b)) = false → ∃ (n : Int), Q (Value.int IntKind.i64 n) h') ∧
                                                                                                                                                    ∀ (n_1 : Int) (h' : Hp),
                                                                                                                                                      Q (Value.int IntKind.i64 n_1) h' →
                                                                                                                                                        if sel (sel (neI n 0) true (notB b)) true (neI n_1 0) = true then K (Value.bool false) h'
                                                                                                                                                        else
                                                                                                                                                          C 34 [Value.pointer a_1] h' fun (v : Value) (h' : Hp) =>
                                                                                                                                                            ∃ (a : Option Addr),
                                                                                                                                                              ∃ (l_7 : Nat),
                                                                                                                                                                ∃ (c : Nat),
                                                                                                                                                                  v = Value.slice a l_7 c ∧
                                                                                                                                                                    ∃ (I : List Value → Nat → Hp → Prop),
                                                                                                                                                                      (∃ (m : Nat), I [Value.int IntKind.i64 (natI l_1), Value.int IntKind.i64 0] m h') ∧
                                                                                                                                                                        ∀ (n n_2 : Int) (m : Nat) (h : Hp),
                                                                                                                                                                          I [Value.int IntKind.i64 n, Value.int IntKind.i64 n_2] m h →
                                                                                                                                                                            if sel (ltI n_2 (natI l_3)) (ltI n_2 (natI fl)) false = true then
                                                                                                                                                                              ∃ (J : List Value → Hp → Prop),
                                                                                                                                                                                (∃ (J_1 : List Value → Hp → Prop),
                                                                                                                                                                                    ((fa.isSome = true ∧ inR n_2 fl) ∧
                                                                                                                                                                                        ∃ (n_3 : Int),
                                                                                                                                                                                          (plainA (some (Addr.mk (blk fa) (plusI (off fa) n_2 1) none)) = true ∧ h.cellsAt (blk fa) (plusI (off fa) n_2 1) 1 = some [Value.int IntKind.u8 n_3]) ∧
                                                                                                                                                                                            (neI n_3 0 = true → a_7.isSome = true ∧ inR n_2 l_3) ∧
                                                                                                                                                                                              (neI n_3 0 = true → plainA (some (Addr.mk (blk a_7) (plusI (off a_7) n_2 3) none)) = true) ∧
                                                                                                                                                                                                ∃ (n_4 : Int),
                                                                                                                                                                                                  (neI n_3 0 = true → plainA (some (Addr.mk (blk a_7) (plusI (off a_7) n_2 3) none)) = true ∧ h.cellsAt (blk a_7) (plusI (off a_7) n_2 3) 1 = some [Value.int IntKind.u8 n_4]) ∧
                                                                                                                                                                                                    if sel (neI n_3 0) (eqI n_4 2) false = true then
                                                                                                                                                                                                      (a_7.isSome = true ∧ inR n_2 l_3) ∧
                                                                                                                                                                                                        plainA (some (Addr.mk (blk a_7) (plusI (off a_7) n_2 3) none)) = true ∧
                                                                                                                                                                                                          ∃ (n_5 : Int),
                                                                                                                                                                                                            (plainA (some (Addr.mk (blk a_7) (plusN (plusI (off a_7) n_2 3) 2) none)) = true ∧ h.cellsAt (blk a_7) (plusN (plusI (off a_7) n_2 3) 2) 1 = some [Value.int IntKind.i64 n_5]) ∧
                                                                                                                                                                                                              J_1 [Value.int IntKind.i64 (maxI n n_5)] h
                                                                                                                                                                                                    else J_1 [Value.int IntKind.i64 n] h) ∧
                                                                                                                                                                                      ∀ (n : Int) (h : Hp),
                                                                                                                                                                                        J_1 [Value.int IntKind.i64 n] h →
                                                                                                                                                                                          (fa.isSome = true ∧ inR n_2 fl) ∧
                                                                                                                                                                                            ∃ (n_3 : Int),
                                                                                                                                                                                              (plainA (some (Addr.mk (blk fa) (plusI (off fa) n_2 1) none)) = true ∧ h.cellsAt (blk fa) (plusI (off fa) n_2 1) 1 = some [Value.int IntKind.u8 n_3]) ∧
                                                                                                                                                                                                (neI n_3 0 = true → a_7.isSome = true ∧ inR n_2 l_3) ∧
                                                                                                                                                                                                  (neI n_3 0 = true → plainA (some (Addr.mk (blk a_7) (plusI (off a_7) n_2 3) none)) = true) ∧
                                                                                                                                                                                                    ∃ (n_4 : Int),
                                                                                                                                                                                                      (neI n_3 0 = true → plainA (some (Addr.mk (blk a_7) (plusI (off a_7) n_2 3) none)) = true ∧ h.cellsAt (blk a_7) (plusI (off a_7) n_2 3) 1 = some [Value.int IntKind.u8 n_4]) ∧
                                                                                                                                                                                                        if sel (neI n_3 0) (eqI n_4 1) false = true then
                                                                                                                                                                                                          (a_7.isSome = true ∧ inR n_2 l_3) ∧
                                                                                                                                                                                                            plainA (some (Addr.mk (blk a_7) (plusI (off a_7) n_2 3) none)) = true ∧
                                                                                                                                                                                                              ∃ (n_5 : Int),
                                                                                                                                                                                                                (plainA (some (Addr.mk (blk a_7) (plusN (plusI (off a_7) n_2 3) 1) none)) = true ∧ h.cellsAt (blk a_7) (plusN (plusI (off a_7) n_2 3) 1) 1 = some [Value.int IntKind.u32 n_5]) ∧
                                                                                                                                                                                                                  J [Value.int IntKind.i64 (maxI n (addW IntKind.i64 (toW IntKind.i64 n_5) 1))] h
                                                                                                                                                                                                        else J [Value.int IntKind.i64 n] h) ∧
                                                                                                                                                                                  ∀ (n : Int) (h : Hp), J [Value.int IntKind.i64 n] h → ∃ (m' : Nat), lessN m' m ∧ I [Value.int IntKind.i64 n, Value.int IntKind.i64 (addW IntKind.i64 n_2 1)] m' h
                                                                                                                                                                            else
                                                                                                                                                                              if sel (neI (natI l_7) n) true (gtI n (natI l)) = true then K (Value.bool false) h
                                                                                                                                                                              else
                                                                                                                                                                                C 29 [Value.agg (Array.mk [Value.int IntKind.i64 (-1), Value.int IntKind.u8 (Int.ofNat 0), Value.int IntKind.u8 (Int.ofNat 0)]), Value.int IntKind.i64 1024] h fun (v : Value) (h' : Hp) =>
                                                                                                                                                                                  ∃ (s : ByteArray),
                                                                                                                                                                                    v = Value.string s ∧
                                                                                                                                                                                      ∃ (I : List Value → Nat → Hp → Prop),
                                                                                                                                                                                        (∃ (m : Nat), I [Value.int IntKind.i64 0] m h') ∧
                                                                                                                                                                                          ∀ (n : Int) (m : Nat) (h : Hp),
                                                                                                                                                                                            I [Value.int IntKind.i64 n] m h →
                                                                                                                                                                                              if ltI n (natI l_7) = true then
                                                                                                                                                                                                ∃ (J : List Value → Hp → Prop),
                                                                                                                                                                                                  (if ltI n (natI l_1) = true then
                                                                                                                                                                                                      (a_4.isSome = true ∧ inR n l_1) ∧
                                                                                                                                                                                                        ∃ (s : ByteArray), (plainA (some (Addr.mk (blk a_4) (plusI (off a_4) n 1) none)) = true ∧ h.cellsAt (blk a_4) (plusI (off a_4) n 1) 1 = some [Value.string s]) ∧ J [Value.string s] h
                                                                                                                                                                                                    else J [Value.string s] h) ∧
                                                                                                                                                                                                    ∀ (s : ByteArray) (h : Hp),
                                                                                                                                                                                                      J [Value.string s] h →
                                                                                                                                                                                                        (a.isSome = true ∧ inR n l_7) ∧
                                                                                                                                                                                                          ∃ (s_1 : ByteArray),
                                                                                                                                                                                                            (plainA (some (Addr.mk (blk a) (plusI (off a) n 1) none)) = true ∧ h.cellsAt (blk a) (plusI (off a) n 1) 1 = some [Value.string s_1]) ∧
                                                                                                                                                                                                              (notB (neI (natI (lenS s_1)) 1024) = true → a_5.isSome = true ∧ inR n l_2) ∧
                                                                                                                                                                                                                ∃ (a_21 : Option Addr),
                                                                                                                                                                                                                  ∃ (l : Nat),
                                                                                                                                                                                                                    ∃ (c : Nat),
                                                                                                                                                                                                                      (notB (neI (natI (lenS s_1)) 1024) = true →
                                                                                                                                                                                                                          plainA (some (Addr.mk (blk a_5) (plusI (off a_5) n 1) none)) = true ∧ h.cellsAt (blk a_5) (plusI (off a_5) n 1) 1 = some [Value.slice a_21 l c]) ∧
                                                                                                                                                                                                                        (andB (eqI (natI l) 0) (notB (neI (natI (lenS s_1)) 1024)) = true → a.isSome = true ∧ inR n l_7) ∧
                                                                                                                                                                                                                          ∃ (s_2 : ByteArray),
                                                                                                                                                                                                                            (andB (eqI (natI l) 0) (notB (neI (natI (lenS s_1)) 1024)) = true →
                                                                                                                                                                                                                                plainA (some (Addr.mk (blk a) (plusI (off a) n 1) none)) = true ∧ h.cellsAt (blk a) (plusI (off a) n 1) 1 = some [Value.string s_2]) ∧
                                                                                                                                                                                                                              if sel (neI (natI (lenS s_1)) 1024) true (sel (eqI (natI l) 0) (notB (strEq s_2 s)) false) = true then K (Value.bool false) h
                                                                                                                                                                                                                              else
                                                                                                                                                                                                                                ∃ (I_1 : List Value → Nat → Hp → Prop),
                                                                                                                                                                                                                                  (∃ (m : Nat), I_1 [Value.int IntKind.i64 0] m h) ∧
                                                                                                                                                                                                                                    ∀ (n_3 : Int) (m_1 : Nat) (h : Hp),
                                                                                                                                                                                                                                      I_1 [Value.int IntKind.i64 n_3] m_1 h →
                                                                                                                                                                                                                                        if ltI n_3 8 = true then
                                                                                                                                                                                                                                          (a.isSome = true ∧ inR n l_7) ∧
                                                                                                                                                                                                                                            ∃ (s_3 : ByteArray),
                                                                                                                                                                                                                                              (plainA (some (Addr.mk (blk a) (plusI (off a) n 1) none)) = true ∧ h.cellsAt (blk a) (plusI (off a) n 1) 1 = some [Value.string s_3]) ∧
                                                                                                                                                                                                                                                (a_5.isSome = true ∧ inR n l_2) ∧
                                                                                                                                                                                                                                                  ∃ (a : Option Addr),
                                                                                                                                                                                                                                                    ∃ (l : Nat),
                                                                                                                                                                                                                                                      ∃ (c : Nat),
                                                                                                                                                                                                                                                        (plainA (some (Addr.mk (blk a_5) (plusI (off a_5) n 1) none)) = true ∧ h.cellsAt (blk a_5) (plusI (off a_5) n 1) 1 = some [Value.slice a l c]) ∧
                                                                                                                                                                                                                                                          C 35 [Value.int IntKind.i64 n_3, Value.string s_3, Value.string s, Value.slice a l c] h fun (v : Value) (h' : Hp) =>
                                                                                                                                                                                                                                                            ∃ (b : Bool),
                                                                                                                                                                                                                                                              v = Value.bool b ∧
                                                                                                                                                                                                                                                                if notB b = true then K (Value.bool false) h' else ∃ (m' : Nat), lessN m' m_1 ∧ I_1 [Value.int IntKind.i64 (addW IntKind.i64 n_3 1)] m' h'
                                                                                                                                                                                                                                        else ∃ (m' : Nat), lessN m' m ∧ I [Value.int IntKind.i64 (addW IntKind.i64 n 1)] m' h
                                                                                                                                                                                              else
                                                                                                                                                                                                C 36 [Value.pointer a_1] h fun (v : Value) (h' : Hp) =>
                                                                                                                                                                                                  ∃ (n : Int),
                                                                                                                                                                                                    v = Value.int IntKind.i64 n ∧
                                                                                                                                                                                                      ∃ (Q : Value → Hp → Prop),
                                                                                                                                                                                                        (eqI n 0 = true → C 28 [Value.pointer a_1] h' fun (v : Value) (h' : Hp) => ∃ (a : Option Addr), ∃ (l : Nat), ∃ (c : Nat), v = Value.slice a l c ∧ Q (Value.slice a l c) h') ∧
                                                                                                                                                                                                          (eqI n 0 = false → ∃ (a : Option Addr), ∃ (l : Nat), ∃ (c : Nat), Q (Value.slice a l c) h') ∧
                                                                                                                                                                                                            ∀ (a_20 : Option Addr) (l c_5 : Nat) (h' : Hp),
                                                                                                                                                                                                              Q (Value.slice a_20 l c_5) h' →
                                                                                                                                                                                                                ∃ (Q : Value → Hp → Prop),
                                                                                                                                                                                                                  (eqI n 0 = true → C 33 [Value.slice a_20 l c_5, Value.slice a l_7 c] h' fun (v : Value) (h' : Hp) => ∃ (b : Bool), v = Value.bool b ∧ Q (Value.bool b) h') ∧
                                                                                                                                                                                                                    (eqI n 0 = false → ∃ (b : Bool), Q (Value.bool b) h') ∧
                                                                                                                                                                                                                      ∀ (b : Bool) (h' : Hp),
                                                                                                                                                                                                                        Q (Value.bool b) h' →
                                                                                                                                                                                                                          ∃ (Q : Value → Hp → Prop),
                                                                                                                                                                                                                            (sel (eqI n 0) b false = true →
                                                                                                                                                                                                                                C 30 [Value.pointer a_1] h' fun (v : Value) (h' : Hp) => ∃ (a : Option Addr), ∃ (l : Nat), ∃ (c : Nat), v = Value.slice a l c ∧ Q (Value.slice a l c) h') ∧
                                                                                                                                                                                                                              (sel (eqI n 0) b false = false → ∃ (a : Option Addr), ∃ (l : Nat), ∃ (c : Nat), Q (Value.slice a l c) h') ∧
                                                                                                                                                                                                                                ∀ (a : Option Addr) (l c : Nat) (h' : Hp), Q (Value.slice a l c) h' → K (Value.bool (sel (sel (eqI n 0) b false) (eqI (natI l) 0) false)) h') := by kernel_rfl
end Go.Proofs.Ytfkhjbfddeahaaa.vc
