/- The conditions of the symbolic runs of functions of the program (printed by a program of ours, vcgen.py; checked by the kernel). -/
import Derived.Test.YtfkhjbfddeahaaaDiskV
import Derived.Test.YtfkhjbfddeahaaaProg
import Derived.KernelRfl
set_option linter.unusedVariables false
namespace Go.Proofs.Ytfkhjbfddeahaaa.vc
open Go Go.Cn Go.Proofs

def shp25 : Nat → List (Tmp × TypeId) := fun i => []
theorem vc25 (C : FuncId → List Value → Hp → (Value → Hp → Prop) → Prop)  (h : Hp) (K : Value → Hp → Prop) : vBody Try.prog C pf shp25 Try.f25 (Try.f25.body.getD .skip) [] h K = (
  C 26 [Value.int IntKind.i64 1024, Value.int IntKind.i64 4] h fun (v : Value) (h' : Hp) =>
    ∃ (a : Option Addr),
      ∃ (n : Int),
        v = Value.tuple (Array.mk [Value.pointer a, Value.int IntKind.i64 n]) ∧
          ∃ (Q : Value → Hp → Prop),
            (notB (sel (neI n 0) true (isN a)) = true → C 53 [Value.pointer a, Value.int IntKind.i64 2] h' fun (v : Value) (h' : Hp) => ∃ (n : Int), v = Value.int IntKind.i64 n ∧ Q (Value.int IntKind.i64 n) h') ∧
              (notB (sel (neI n 0) true (isN a)) = false → ∃ (n : Int), Q (Value.int IntKind.i64 n) h') ∧
                ∀ (n_1 : Int) (h' : Hp),
                  Q (Value.int IntKind.i64 n_1) h' →
                    if sel (sel (neI n 0) true (isN a)) true (neI n_1 0) = true then K (Value.bool false) h'
                    else
                      C 29 [Value.agg (Array.mk [Value.int IntKind.i64 (-1), Value.int IntKind.u8 97, Value.int IntKind.u8 (Int.ofNat 0)]), Value.int IntKind.i64 1024] h' fun (v : Value) (h' : Hp) =>
                        ∃ (s : ByteArray),
                          v = Value.string s ∧
                            C 29 [Value.agg (Array.mk [Value.int IntKind.i64 (-1), Value.int IntKind.u8 98, Value.int IntKind.u8 (Int.ofNat 0)]), Value.int IntKind.i64 1024] h' fun (v : Value) (h' : Hp) =>
                              ∃ (s_1 : ByteArray),
                                v = Value.string s_1 ∧
                                  C 54 [Value.pointer a, Value.int IntKind.u32 0, Value.string s] h' fun (v : Value) (h' : Hp) =>
                                    ∃ (n : Int),
                                      v = Value.int IntKind.i64 n ∧
                                        ∃ (Q : Value → Hp → Prop),
                                          (notB (neI n 0) = true → C 46 [Value.pointer a] h' fun (v : Value) (h' : Hp) => ∃ (n : Int), v = Value.int IntKind.i64 n ∧ Q (Value.int IntKind.i64 n) h') ∧
                                            (notB (neI n 0) = false → ∃ (n : Int), Q (Value.int IntKind.i64 n) h') ∧
                                              ∀ (n_2 : Int) (h' : Hp),
                                                Q (Value.int IntKind.i64 n_2) h' →
                                                  ∃ (Q : Value → Hp → Prop),
                                                    (notB (sel (neI n 0) true (neI n_2 0)) = true → C 54 [Value.pointer a, Value.int IntKind.u32 0, Value.string s_1] h' fun (v : Value) (h' : Hp) => ∃ (n : Int), v = Value.int IntKind.i64 n ∧ Q (Value.int IntKind.i64 n) h') ∧
                                                      (notB (sel (neI n 0) true (neI n_2 0)) = false → ∃ (n : Int), Q (Value.int IntKind.i64 n) h') ∧
                                                        ∀ (n_3 : Int) (h' : Hp),
                                                          Q (Value.int IntKind.i64 n_3) h' →
                                                            ∃ (Q : Value → Hp → Prop),
                                                              (notB (sel (sel (neI n 0) true (neI n_2 0)) true (neI n_3 0)) = true → C 54 [Value.pointer a, Value.int IntKind.u32 1, Value.string s_1] h' fun (v : Value) (h' : Hp) => ∃ (n : Int), v = Value.int IntKind.i64 n ∧ Q (Value.int IntKind.i64 n) h') ∧
                                                                (notB (sel (sel (neI n 0) true (neI n_2 0)) true (neI n_3 0)) = false → ∃ (n : Int), Q (Value.int IntKind.i64 n) h') ∧
                                                                  ∀ (n_4 : Int) (h' : Hp),
                                                                    Q (Value.int IntKind.i64 n_4) h' →
                                                                      if sel (sel (sel (neI n 0) true (neI n_2 0)) true (neI n_3 0)) true (neI n_4 0) = true then K (Value.bool false) h'
                                                                      else
                                                                        C 55 [Value.pointer a, Value.int IntKind.u32 0] h' fun (v : Value) (h' : Hp) =>
                                                                          ∃ (s_2 : ByteArray),
                                                                            ∃ (n : Int),
                                                                              v = Value.tuple (Array.mk [Value.string s_2, Value.int IntKind.i64 n]) ∧
                                                                                ∃ (Q : Value → Hp → Prop),
                                                                                  (notB (sel (neI n 0) true (notB (strEq s_2 s_1))) = true → C 30 [Value.pointer a] h' fun (v : Value) (h' : Hp) => ∃ (a : Option Addr), ∃ (l : Nat), ∃ (c : Nat), v = Value.slice a l c ∧ Q (Value.slice a l c) h') ∧
                                                                                    (notB (sel (neI n 0) true (notB (strEq s_2 s_1))) = false → ∃ (a : Option Addr), ∃ (l : Nat), ∃ (c : Nat), Q (Value.slice a l c) h') ∧
                                                                                      ∀ (a_5 : Option Addr) (l c : Nat) (h' : Hp),
                                                                                        Q (Value.slice a_5 l c) h' →
                                                                                          ∃ (Q : Value → Hp → Prop),
                                                                                            (notB (sel (sel (neI n 0) true (notB (strEq s_2 s_1))) true (neI (natI l) 2)) = true → ∀ (h'_1 : Hp), h'_1 = h'.alloc [Value.int IntKind.u8 1] 57 → ∃ (a : Option Addr), ∃ (l : Nat), ∃ (c : Nat), Value.slice (some (Addr.mk h'.next 0 none)) 1 1 = Value.slice a l c ∧ Q (Value.slice a l c) h'_1) ∧
                                                                                              (notB (sel (sel (neI n 0) true (notB (strEq s_2 s_1))) true (neI (natI l) 2)) = false → ∃ (a : Option Addr), ∃ (l : Nat), ∃ (c : Nat), Q (Value.slice a l c) h') ∧
                                                                                                ∀ (a_7 : Option Addr) (l_1 c : Nat) (h' : Hp),
                                                                                                  Q (Value.slice a_7 l_1 c) h' →
                                                                                                    ∃ (Q : Value → Hp → Prop),
                                                                                                      (notB (sel (sel (neI n 0) true (notB (strEq s_2 s_1))) true (neI (natI l) 2)) = true → C 32 [Value.pointer a, Value.slice a_7 l_1 c] h' fun (v : Value) (h' : Hp) => ∃ (n : Int), v = Value.int IntKind.i64 n ∧ Q (Value.int IntKind.i64 n) h') ∧
                                                                                                        (notB (sel (sel (neI n 0) true (notB (strEq s_2 s_1))) true (neI (natI l) 2)) = false → ∃ (n : Int), Q (Value.int IntKind.i64 n) h') ∧
                                                                                                          ∀ (n_5 : Int) (h' : Hp),
                                                                                                            Q (Value.int IntKind.i64 n_5) h' →
                                                                                                              ∃ (Q : Value → Hp → Prop),
                                                                                                                (notB (sel (sel (sel (neI n 0) true (notB (strEq s_2 s_1))) true (neI (natI l) 2)) true (neI n_5 0)) = true → C 38 [Value.pointer a] h' fun (v : Value) (h' : Hp) => ∃ (b : Bool), v = Value.bool b ∧ Q (Value.bool b) h') ∧
                                                                                                                  (notB (sel (sel (sel (neI n 0) true (notB (strEq s_2 s_1))) true (neI (natI l) 2)) true (neI n_5 0)) = false → ∃ (b : Bool), Q (Value.bool b) h') ∧
                                                                                                                    ∀ (b : Bool) (h' : Hp),
                                                                                                                      Q (Value.bool b) h' →
                                                                                                                        if sel (sel (sel (sel (neI n 0) true (notB (strEq s_2 s_1))) true (neI (natI l) 2)) true (neI n_5 0)) true b = true then K (Value.bool false) h'
                                                                                                                        else
                                                                                                                          C 34 [Value.pointer a] h' fun (v : Value) (h' : Hp) =>
                                                                                                                            ∃ (a_11 : Option Addr),
                                                                                                                              ∃ (l : Nat),
                                                                                                                                ∃ (c : Nat),
                                                                                                                                  v = Value.slice a_11 l c ∧
                                                                                                                                    C 55 [Value.pointer a, Value.int IntKind.u32 0] h' fun (v : Value) (h' : Hp) =>
                                                                                                                                      ∃ (s_3 : ByteArray),
                                                                                                                                        ∃ (n : Int),
                                                                                                                                          v = Value.tuple (Array.mk [Value.string s_3, Value.int IntKind.i64 n]) ∧
                                                                                                                                            (eqI (natI l) 2 = true → a_11.isSome = true ∧ inR 0 l) ∧
                                                                                                                                              ∃ (s_4 : ByteArray),
                                                                                                                                                (eqI (natI l) 2 = true → plainA (some (Addr.mk (blk a_11) (plusI (off a_11) 0 1) none)) = true ∧ h'.cellsAt (blk a_11) (plusI (off a_11) 0 1) 1 = some [Value.string s_4]) ∧
                                                                                                                                                  (eqI (natI l) 2 = true → subOk s_1 0 128) ∧
                                                                                                                                                    (eqI (natI l) 2 = true → subOk s 128 (natI (lenS s))) ∧
                                                                                                                                                      (eqI (natI l) 2 = true → catOk (strSub s_1 0 128) (strSub s 128 (natI (lenS s)))) ∧
                                                                                                                                                        ∃ (Q : Value → Hp → Prop),
                                                                                                                                                          (sel (sel (eqI (natI l) 2) (strEq s_4 (strCat (strSub s_1 0 128) (strSub s 128 (natI (lenS s))))) false) (eqI n 7) false = true →
                                                                                                                                                              C 36 [Value.pointer a] h' fun (v : Value) (h' : Hp) => ∃ (n : Int), v = Value.int IntKind.i64 n ∧ Q (Value.int IntKind.i64 n) h') ∧
                                                                                                                                                            (sel (sel (eqI (natI l) 2) (strEq s_4 (strCat (strSub s_1 0 128) (strSub s 128 (natI (lenS s))))) false) (eqI n 7) false = false → ∃ (n : Int), Q (Value.int IntKind.i64 n) h') ∧
                                                                                                                                                              ∀ (n_6 : Int) (h' : Hp),
                                                                                                                                                                Q (Value.int IntKind.i64 n_6) h' →
                                                                                                                                                                  ∃ (Q : Value → Hp → Prop),
                                                                                                                                                                    (sel (sel (sel (eqI (natI l) 2) (strEq s_4 (strCat (strSub s_1 0 128) (strSub s 128 (natI (lenS s))))) false) (eqI n 7) false) (eqI n_6 0) false = true →
                                                                                                                                                                        C 56 [Value.pointer a] h' fun (v : Value) (h' : Hp) => ∃ (n : Int), v = Value.int IntKind.i64 n ∧ Q (Value.int IntKind.i64 n) h') ∧
                                                                                                                                                                      (sel (sel (sel (eqI (natI l) 2) (strEq s_4 (strCat (strSub s_1 0 128) (strSub s 128 (natI (lenS s))))) false) (eqI n 7) false) (eqI n_6 0) false = false → ∃ (n : Int), Q (Value.int IntKind.i64 n) h') ∧
                                                                                                                                                                        ∀ (n_7 : Int) (h' : Hp),
                                                                                                                                                                          Q (Value.int IntKind.i64 n_7) h' → K (Value.bool (sel (sel (sel (sel (eqI (natI l) 2) (strEq s_4 (strCat (strSub s_1 0 128) (strSub s 128 (natI (lenS s))))) false) (eqI n 7) false) (eqI n_6 0) false) (eqI n_7 1) false)) h') := by kernel_rfl

def shp27 : Nat → List (Tmp × TypeId) := fun i => []
theorem vc27 (C : FuncId → List Value → Hp → (Value → Hp → Prop) → Prop) (d : Nat) (dO wh no n len b st : Int) (aa : Option Addr) (al ac : Nat) (fa : Option Addr) (fl fc : Nat) (h : Hp) (K : Value → Hp → Prop) : vBody Try.prog C pf shp27 Try.f27 (Try.f27.body.getD .skip) [.pointer (some ⟨d, 0, none⟩), .agg #[.int .i64 dO, .int .i64 wh, .int .u32 no, .int .i64 n, .int .i64 len, .int .u8 b, .int .u8 st, .slice aa al ac, .slice fa fl fc]] h K = (
  ∀ (h' : Hp),
    h' = h.alloc [Value.int IntKind.i64 dO, Value.int IntKind.i64 wh, Value.int IntKind.u32 no, Value.int IntKind.i64 n, Value.int IntKind.i64 len, Value.int IntKind.u8 b, Value.int IntKind.u8 st, Value.slice aa al ac, Value.slice fa fl fc] 47 →
      plainA (some (Addr.mk h.next 0 none)) = true ∧
        ∃ (n : Int),
          (plainA (some (Addr.mk h.next 0 none)) = true ∧ h'.cellsAt h.next 0 1 = some [Value.int IntKind.i64 n]) ∧
            if eqI n 1 = true then
              plainA (some (Addr.mk h.next 0 none)) = true ∧
                ∃ (n : Int),
                  (plainA (some (Addr.mk h.next 2 none)) = true ∧ h'.cellsAt h.next 2 1 = some [Value.int IntKind.u32 n]) ∧
                    nonzero 8 ∧
                      plainA (some (Addr.mk h.next 0 none)) = true ∧
                        ∃ (n_1 : Int),
                          ∃ (n_2 : Int),
                            ∃ (n_3 : Int),
                              (plainA (some (Addr.mk h.next 4 none)) = true ∧ h'.cellsAt h.next 4 3 = some [Value.int IntKind.i64 n_1, Value.int IntKind.u8 n_2, Value.int IntKind.u8 n_3]) ∧
                                C 29 [Value.agg (Array.mk [Value.int IntKind.i64 n_1, Value.int IntKind.u8 n_2, Value.int IntKind.u8 n_3]), Value.int IntKind.i64 1024] h' fun (v : Value) (h' : Hp) =>
                                  ∃ (s : ByteArray), v = Value.string s ∧ (plainA (some (Addr.mk h.next 2 none)) = true ∧ h'.cellsAt h.next 2 1 = some [Value.int IntKind.u32 n]) ∧ C 54 [Value.pointer (some (Addr.mk d 0 none)), Value.int IntKind.u32 (remW n 8), Value.string s] h' fun (v : Value) (h' : Hp) => ∃ (n : Int), v = Value.int IntKind.i64 n ∧ K (Value.bool (eqI n 0)) h'
            else
              if eqI n 2 = true then plainA (some (Addr.mk h.next 0 none)) = true ∧ ∃ (n : Int), (plainA (some (Addr.mk h.next 3 none)) = true ∧ h'.cellsAt h.next 3 1 = some [Value.int IntKind.i64 n]) ∧ C 53 [Value.pointer (some (Addr.mk d 0 none)), Value.int IntKind.i64 n] h' fun (v : Value) (h' : Hp) => ∃ (n : Int), v = Value.int IntKind.i64 n ∧ K (Value.bool (eqI n 0)) h'
              else if eqI n 3 = true then C 46 [Value.pointer (some (Addr.mk d 0 none))] h' fun (v : Value) (h' : Hp) => ∃ (n : Int), v = Value.int IntKind.i64 n ∧ K (Value.bool (eqI n 0)) h' else K (Value.bool true) h') := by kernel_rfl

def shp35 : Nat → List (Tmp × TypeId) := fun i => if i = 6 then [(11, 3)] else []
theorem vc35 (C : FuncId → List Value → Hp → (Value → Hp → Prop) → Prop) (n : Int) (x y : ByteArray) (a : Option Addr) (l c : Nat) (h : Hp) (K : Value → Hp → Prop) : vBody Try.prog C pf shp35 Try.f35 (Try.f35.body.getD .skip) [.int .i64 n, .string x, .string y, .slice a l c] h K = (
  nonzero 8 ∧
    subOk x (mulW IntKind.i64 n (quoW IntKind.i64 (natI (lenS x)) 8)) (addW IntKind.i64 (mulW IntKind.i64 n (quoW IntKind.i64 (natI (lenS x)) 8)) (quoW IntKind.i64 (natI (lenS x)) 8)) ∧
      subOk y (mulW IntKind.i64 n (quoW IntKind.i64 (natI (lenS x)) 8)) (addW IntKind.i64 (mulW IntKind.i64 n (quoW IntKind.i64 (natI (lenS x)) 8)) (quoW IntKind.i64 (natI (lenS x)) 8)) ∧
        if strEq (strSub x (mulW IntKind.i64 n (quoW IntKind.i64 (natI (lenS x)) 8)) (addW IntKind.i64 (mulW IntKind.i64 n (quoW IntKind.i64 (natI (lenS x)) 8)) (quoW IntKind.i64 (natI (lenS x)) 8))) (strSub y (mulW IntKind.i64 n (quoW IntKind.i64 (natI (lenS x)) 8)) (addW IntKind.i64 (mulW IntKind.i64 n (quoW IntKind.i64 (natI (lenS x)) 8)) (quoW IntKind.i64 (natI (lenS x)) 8))) = true then
          K (Value.bool true) h
        else
          ∃ (I : List Value → Nat → Hp → Prop),
            (∃ (m : Nat), I [Value.int IntKind.i64 0] m h) ∧
              ∀ (n_1 : Int) (m : Nat) (h : Hp),
                I [Value.int IntKind.i64 n_1] m h →
                  if ltI n_1 (natI l) = true then
                    (a.isSome = true ∧ inR n_1 l) ∧
                      ∃ (s : ByteArray),
                        (plainA (some (Addr.mk (blk a) (plusI (off a) n_1 1) none)) = true ∧ h.cellsAt (blk a) (plusI (off a) n_1 1) 1 = some [Value.string s]) ∧
                          subOk s (mulW IntKind.i64 n (quoW IntKind.i64 (natI (lenS x)) 8)) (addW IntKind.i64 (mulW IntKind.i64 n (quoW IntKind.i64 (natI (lenS x)) 8)) (quoW IntKind.i64 (natI (lenS x)) 8)) ∧
                            if
                                strEq (strSub x (mulW IntKind.i64 n (quoW IntKind.i64 (natI (lenS x)) 8)) (addW IntKind.i64 (mulW IntKind.i64 n (quoW IntKind.i64 (natI (lenS x)) 8)) (quoW IntKind.i64 (natI (lenS x)) 8)))
                                    (strSub s (mulW IntKind.i64 n (quoW IntKind.i64 (natI (lenS x)) 8)) (addW IntKind.i64 (mulW IntKind.i64 n (quoW IntKind.i64 (natI (lenS x)) 8)) (quoW IntKind.i64 (natI (lenS x)) 8))) =
                                  true then
                              K (Value.bool true) h
                            else ∃ (m' : Nat), lessN m' m ∧ I [Value.int IntKind.i64 (addW IntKind.i64 n_1 1)] m' h
                  else K (Value.bool false) h) := by kernel_rfl

def shp43 : Nat → List (Tmp × TypeId) := fun i => if i = 4 then [(5, 3)] else []
theorem vc43 (C : FuncId → List Value → Hp → (Value → Hp → Prop) → Prop) (a b : Option Addr) (l c l' c' : Nat) (h : Hp) (K : Value → Hp → Prop) : vBody Try.prog C pf shp43 Try.f43 (Try.f43.body.getD .skip) [.slice a l c, .slice b l' c'] h K = (
  if neI (natI l) (natI l') = true then K (Value.bool false) h
  else
    ∃ (I : List Value → Nat → Hp → Prop),
      (∃ (m : Nat), I [Value.int IntKind.i64 0] m h) ∧
        ∀ (n : Int) (m : Nat) (h : Hp),
          I [Value.int IntKind.i64 n] m h →
            if ltI n (natI l) = true then
              (a.isSome = true ∧ inR n l) ∧
                ∃ (s : ByteArray),
                  (plainA (some (Addr.mk (blk a) (plusI (off a) n 1) none)) = true ∧ h.cellsAt (blk a) (plusI (off a) n 1) 1 = some [Value.string s]) ∧
                    (b.isSome = true ∧ inR n l') ∧ ∃ (s_1 : ByteArray), (plainA (some (Addr.mk (blk b) (plusI (off b) n 1) none)) = true ∧ h.cellsAt (blk b) (plusI (off b) n 1) 1 = some [Value.string s_1]) ∧ if notB (strEq s s_1) = true then K (Value.bool false) h else ∃ (m' : Nat), lessN m' m ∧ I [Value.int IntKind.i64 (addW IntKind.i64 n 1)] m' h
            else K (Value.bool true) h) := by kernel_rfl

def shp64 : Nat → List (Tmp × TypeId) := fun i => []
theorem vc64 (C : FuncId → List Value → Hp → (Value → Hp → Prop) → Prop) (n : Int) (h : Hp) (K : Value → Hp → Prop) : vBody Try.prog C pf shp64 Try.f64 (Try.f64.body.getD .skip) [.int .i64 n] h K = (
  K (Value.bool (sel (sel (sel (eqI n 1024) true (eqI n 2048)) true (eqI n 4096)) true (eqI n 8192))) h) := by kernel_rfl

def shp71 : Nat → List (Tmp × TypeId) := fun i => if i = 3 then [(3, 3), (4, 3)] else []
theorem vc71 (C : FuncId → List Value → Hp → (Value → Hp → Prop) → Prop) (r : Nat) (h : Hp) (K : Value → Hp → Prop) : vBody Try.prog C pf shp71 Try.f71 (Try.f71.body.getD .skip) [.pointer (some ⟨r, 0, none⟩)] h K = (
  (some (Addr.mk r 0 none)).isSome = true ∧
    plainA (some (Addr.mk r 0 none)) = true ∧
      ∃ (a : Option Addr),
        ∃ (l : Nat),
          ∃ (c : Nat),
            (plainA (some (Addr.mk r 2 none)) = true ∧ h.cellsAt r 2 1 = some [Value.slice a l c]) ∧
              ∃ (I : List Value → Nat → Hp → Prop),
                (∃ (m : Nat), I [Value.int IntKind.i64 (natI l), Value.int IntKind.i64 0] m h) ∧
                  ∀ (n n_1 : Int) (m : Nat) (h : Hp),
                    I [Value.int IntKind.i64 n, Value.int IntKind.i64 n_1] m h →
                      (some (Addr.mk r 0 none)).isSome = true ∧
                        plainA (some (Addr.mk r 0 none)) = true ∧
                          ∃ (a : Option Addr),
                            ∃ (l : Nat),
                              ∃ (c : Nat),
                                (plainA (some (Addr.mk r 3 none)) = true ∧ h.cellsAt r 3 1 = some [Value.slice a l c]) ∧
                                  if ltI n_1 (natI l) = true then
                                    (some (Addr.mk r 0 none)).isSome = true ∧
                                      plainA (some (Addr.mk r 0 none)) = true ∧
                                        ∃ (a : Option Addr),
                                          ∃ (l : Nat),
                                            ∃ (c : Nat),
                                              (plainA (some (Addr.mk r 3 none)) = true ∧ h.cellsAt r 3 1 = some [Value.slice a l c]) ∧
                                                (a.isSome = true ∧ inR n_1 l) ∧
                                                  plainA (some (Addr.mk (blk a) (plusI (off a) n_1 3) none)) = true ∧
                                                    ∃ (b : Bool),
                                                      (plainA (some (Addr.mk (blk a) (plusI (off a) n_1 3) none)) = true ∧ h.cellsAt (blk a) (plusI (off a) n_1 3) 1 = some [Value.bool b]) ∧
                                                        if b = true then
                                                          (some (Addr.mk r 0 none)).isSome = true ∧
                                                            plainA (some (Addr.mk r 0 none)) = true ∧
                                                              ∃ (a : Option Addr),
                                                                ∃ (l : Nat),
                                                                  ∃ (c : Nat),
                                                                    (plainA (some (Addr.mk r 3 none)) = true ∧ h.cellsAt r 3 1 = some [Value.slice a l c]) ∧
                                                                      (a.isSome = true ∧ inR n_1 l) ∧
                                                                        plainA (some (Addr.mk (blk a) (plusI (off a) n_1 3) none)) = true ∧
                                                                          ∃ (n : Int), (plainA (some (Addr.mk (blk a) (plusN (plusI (off a) n_1 3) 1) none)) = true ∧ h.cellsAt (blk a) (plusN (plusI (off a) n_1 3) 1) 1 = some [Value.int IntKind.i64 n]) ∧ ∃ (m' : Nat), lessN m' m ∧ I [Value.int IntKind.i64 n, Value.int IntKind.i64 (addW IntKind.i64 n_1 1)] m' h
                                                        else ∃ (m' : Nat), lessN m' m ∧ I [Value.int IntKind.i64 n, Value.int IntKind.i64 (addW IntKind.i64 n_1 1)] m' h
                                  else K (Value.int IntKind.i64 n) h) := by kernel_rfl

def shp40 : Nat → List (Tmp × TypeId) := fun i => if i = 7 then [(9, 3)] else []
theorem vc40 (C : FuncId → List Value → Hp → (Value → Hp → Prop) → Prop) (page most : Int) (a : Option Addr) (l c : Nat) (h : Hp) (K : Value → Hp → Prop) : vBody Try.prog C pf shp40 Try.f40 (Try.f40.body.getD .skip) [.int .i64 page, .int .i64 most, .slice a l c] h K = (
  C 64 [Value.int IntKind.i64 page] h fun (v : Value) (h' : Hp) =>
    ∃ (b : Bool),
      v = Value.bool b ∧
        if sel (sel (notB b) true (ltI most 1)) true (gtI most 65536) = true then K (Value.tuple (Array.mk [Value.pointer none, Value.int IntKind.i64 2])) h'
        else
          if gtI (natI l) most = true then K (Value.tuple (Array.mk [Value.pointer none, Value.int IntKind.i64 42])) h'
          else
            ∀ (h'_1 : Hp),
              h'_1 = h'.alloc [Value.int IntKind.i64 page, Value.int IntKind.i64 most, Value.slice none 0 0, Value.slice none 0 0, Value.slice none 0 0, Value.bool true, Value.int IntKind.i64 (Int.ofNat 0), Value.int IntKind.i64 (Int.ofNat 0), Value.int IntKind.i64 (Int.ofNat 0), Value.int IntKind.i64 (Int.ofNat 0), Value.int IntKind.i64 (Int.ofNat 0)] 114 →
                ∃ (I : List Value → Nat → Hp → Prop),
                  (∃ (m : Nat), I [Value.int IntKind.i64 0] m h'_1) ∧
                    ∀ (n : Int) (m : Nat) (h : Hp),
                      I [Value.int IntKind.i64 n] m h →
                        if ltI n (natI l) = true then
                          (a.isSome = true ∧ inR n l) ∧
                            ∃ (s : ByteArray),
                              (plainA (some (Addr.mk (blk a) (plusI (off a) n 1) none)) = true ∧ h.cellsAt (blk a) (plusI (off a) n 1) 1 = some [Value.string s]) ∧
                                if neI (natI (lenS s)) page = true then K (Value.tuple (Array.mk [Value.pointer none, Value.int IntKind.i64 42])) h
                                else
                                  (some (Addr.mk h'.next 0 none)).isSome = true ∧
                                    plainA (some (Addr.mk h'.next 0 none)) = true ∧
                                      ∃ (a_3 : Option Addr),
                                        ∃ (l_1 : Nat),
                                          ∃ (c : Nat),
                                            (plainA (some (Addr.mk h'.next 2 none)) = true ∧ h.cellsAt h'.next 2 1 = some [Value.slice a_3 l_1 c]) ∧
                                              (a.isSome = true ∧ inR n l) ∧
                                                ∃ (s : ByteArray),
                                                  (plainA (some (Addr.mk (blk a) (plusI (off a) n 1) none)) = true ∧ h.cellsAt (blk a) (plusI (off a) n 1) 1 = some [Value.string s]) ∧
                                                    ∀ (h'_2 : Hp),
                                                      h'_2 = h.alloc [Value.string s] 9 →
                                                        (plainA (some (Addr.mk h'.next 2 none)) = true ∧ h'_2.cellsAt h'.next 2 1 = some [Value.slice a_3 l_1 c]) ∧
                                                          ∃ (a : Option Addr),
                                                            ∃ (m_1 : Nat),
                                                              ∃ (n_1 : Nat),
                                                                ∃ (h'_3 : Hp),
                                                                  cappend Try.prog 40 40 (Value.slice a_3 l_1 c) (Value.slice (some (Addr.mk h.next 0 none)) 1 1) h'_2 = some (Value.slice a m_1 n_1, h'_3) ∧
                                                                    (some (Addr.mk h'.next 0 none)).isSome = true ∧ plainA (some (Addr.mk h'.next 0 none)) = true ∧ plainA (some (Addr.mk h'.next 2 none)) = true ∧ ∃ (h'_4 : Hp), h'_3.store h'.next 2 [Value.slice a m_1 n_1] = some h'_4 ∧ ∃ (m' : Nat), lessN m' m ∧ I [Value.int IntKind.i64 (addW IntKind.i64 n 1)] m' h'_4
                        else K (Value.tuple (Array.mk [Value.pointer (some (Addr.mk h'.next 0 none)), Value.int IntKind.i64 0])) h) := by kernel_rfl

def shp42 : Nat → List (Tmp × TypeId) := fun i => []
theorem vc42 (C : FuncId → List Value → Hp → (Value → Hp → Prop) → Prop) (d r : Nat) (h : Hp) (K : Value → Hp → Prop) : vBody Try.prog C pf shp42 Try.f42 (Try.f42.body.getD .skip) [.pointer (some ⟨d, 0, none⟩), .pointer (some ⟨r, 0, none⟩)] h K = (
  (some (Addr.mk r 0 none)).isSome = true ∧
    plainA (some (Addr.mk r 0 none)) = true ∧
      ∃ (n : Int),
        (plainA (some (Addr.mk r 0 none)) = true ∧ h.cellsAt r 0 1 = some [Value.int IntKind.i64 n]) ∧
          C 69 [Value.pointer (some (Addr.mk d 0 none))] h fun (v : Value) (h' : Hp) =>
            ∃ (n_1 : Int),
              v = Value.int IntKind.i64 n_1 ∧
                (plainA (some (Addr.mk r 0 none)) = true ∧ h'.cellsAt r 0 1 = some [Value.int IntKind.i64 n]) ∧
                  (eqI n_1 n = true → (some (Addr.mk r 0 none)).isSome = true) ∧
                    (eqI n_1 n = true → plainA (some (Addr.mk r 0 none)) = true) ∧
                      ∃ (n_2 : Int),
                        (eqI n_1 n = true → plainA (some (Addr.mk r 1 none)) = true ∧ h'.cellsAt r 1 1 = some [Value.int IntKind.i64 n_2]) ∧
                          ∃ (Q : Value → Hp → Prop),
                            (eqI n_1 n = true → C 70 [Value.pointer (some (Addr.mk d 0 none))] h' fun (v : Value) (h' : Hp) => ∃ (n : Int), v = Value.int IntKind.i64 n ∧ Q (Value.int IntKind.i64 n) h') ∧
                              (eqI n_1 n = false → ∃ (n : Int), Q (Value.int IntKind.i64 n) h') ∧
                                ∀ (n_3 : Int) (h' : Hp),
                                  Q (Value.int IntKind.i64 n_3) h' →
                                    (eqI n_1 n = true → plainA (some (Addr.mk r 1 none)) = true ∧ h'.cellsAt r 1 1 = some [Value.int IntKind.i64 n_2]) ∧
                                      ∃ (Q : Value → Hp → Prop),
                                        (sel (eqI n_1 n) (eqI n_3 n_2) false = true → C 57 [Value.pointer (some (Addr.mk d 0 none))] h' fun (v : Value) (h' : Hp) => ∃ (n : Int), v = Value.int IntKind.i64 n ∧ Q (Value.int IntKind.i64 n) h') ∧
                                          (sel (eqI n_1 n) (eqI n_3 n_2) false = false → ∃ (n : Int), Q (Value.int IntKind.i64 n) h') ∧
                                            ∀ (n_4 : Int) (h' : Hp),
                                              Q (Value.int IntKind.i64 n_4) h' →
                                                ∃ (Q : Value → Hp → Prop),
                                                  (sel (eqI n_1 n) (eqI n_3 n_2) false = true → C 71 [Value.pointer (some (Addr.mk r 0 none))] h' fun (v : Value) (h' : Hp) => ∃ (n : Int), v = Value.int IntKind.i64 n ∧ Q (Value.int IntKind.i64 n) h') ∧
                                                    (sel (eqI n_1 n) (eqI n_3 n_2) false = false → ∃ (n : Int), Q (Value.int IntKind.i64 n) h') ∧
                                                      ∀ (n_5 : Int) (h' : Hp),
                                                        Q (Value.int IntKind.i64 n_5) h' →
                                                          (sel (sel (eqI n_1 n) (eqI n_3 n_2) false) (eqI n_4 n_5) false = true → (some (Addr.mk r 0 none)).isSome = true) ∧
                                                            (sel (sel (eqI n_1 n) (eqI n_3 n_2) false) (eqI n_4 n_5) false = true → plainA (some (Addr.mk r 0 none)) = true) ∧
                                                              ∃ (a : Option Addr),
                                                                ∃ (l : Nat),
                                                                  ∃ (c : Nat),
                                                                    (sel (sel (eqI n_1 n) (eqI n_3 n_2) false) (eqI n_4 n_5) false = true → plainA (some (Addr.mk r 4 none)) = true ∧ h'.cellsAt r 4 1 = some [Value.slice a l c]) ∧
                                                                      ∃ (Q : Value → Hp → Prop),
                                                                        (sel (sel (eqI n_1 n) (eqI n_3 n_2) false) (eqI n_4 n_5) false = true → C 45 [Value.pointer (some (Addr.mk d 0 none))] h' fun (v : Value) (h' : Hp) => ∃ (n : Int), v = Value.int IntKind.i64 n ∧ Q (Value.int IntKind.i64 n) h') ∧
                                                                          (sel (sel (eqI n_1 n) (eqI n_3 n_2) false) (eqI n_4 n_5) false = false → ∃ (n : Int), Q (Value.int IntKind.i64 n) h') ∧
                                                                            ∀ (n_6 : Int) (h' : Hp),
                                                                              Q (Value.int IntKind.i64 n_6) h' →
                                                                                (sel (sel (eqI n_1 n) (eqI n_3 n_2) false) (eqI n_4 n_5) false = true → plainA (some (Addr.mk r 4 none)) = true ∧ h'.cellsAt r 4 1 = some [Value.slice a l c]) ∧
                                                                                  (sel (sel (sel (eqI n_1 n) (eqI n_3 n_2) false) (eqI n_4 n_5) false) (eqI n_6 (natI l)) false = true → (some (Addr.mk r 0 none)).isSome = true) ∧
                                                                                    (sel (sel (sel (eqI n_1 n) (eqI n_3 n_2) false) (eqI n_4 n_5) false) (eqI n_6 (natI l)) false = true → plainA (some (Addr.mk r 0 none)) = true) ∧
                                                                                      ∃ (b : Bool),
                                                                                        (sel (sel (sel (eqI n_1 n) (eqI n_3 n_2) false) (eqI n_4 n_5) false) (eqI n_6 (natI l)) false = true → plainA (some (Addr.mk r 5 none)) = true ∧ h'.cellsAt r 5 1 = some [Value.bool b]) ∧
                                                                                          ∃ (Q : Value → Hp → Prop),
                                                                                            (sel (sel (sel (eqI n_1 n) (eqI n_3 n_2) false) (eqI n_4 n_5) false) (eqI n_6 (natI l)) false = true → C 38 [Value.pointer (some (Addr.mk d 0 none))] h' fun (v : Value) (h' : Hp) => ∃ (b : Bool), v = Value.bool b ∧ Q (Value.bool b) h') ∧
                                                                                              (sel (sel (sel (eqI n_1 n) (eqI n_3 n_2) false) (eqI n_4 n_5) false) (eqI n_6 (natI l)) false = false → ∃ (b : Bool), Q (Value.bool b) h') ∧
                                                                                                ∀ (b_1 : Bool) (h' : Hp),
                                                                                                  Q (Value.bool b_1) h' →
                                                                                                    (sel (sel (sel (eqI n_1 n) (eqI n_3 n_2) false) (eqI n_4 n_5) false) (eqI n_6 (natI l)) false = true → plainA (some (Addr.mk r 5 none)) = true ∧ h'.cellsAt r 5 1 = some [Value.bool b]) ∧
                                                                                                      (sel (sel (sel (sel (eqI n_1 n) (eqI n_3 n_2) false) (eqI n_4 n_5) false) (eqI n_6 (natI l)) false) (eqB b_1 b) false = true → (some (Addr.mk r 0 none)).isSome = true) ∧
                                                                                                        (sel (sel (sel (sel (eqI n_1 n) (eqI n_3 n_2) false) (eqI n_4 n_5) false) (eqI n_6 (natI l)) false) (eqB b_1 b) false = true → plainA (some (Addr.mk r 0 none)) = true) ∧
                                                                                                          ∃ (n_7 : Int),
                                                                                                            (sel (sel (sel (sel (eqI n_1 n) (eqI n_3 n_2) false) (eqI n_4 n_5) false) (eqI n_6 (natI l)) false) (eqB b_1 b) false = true → plainA (some (Addr.mk r 6 none)) = true ∧ h'.cellsAt r 6 1 = some [Value.int IntKind.i64 n_7]) ∧
                                                                                                              ∃ (Q : Value → Hp → Prop),
                                                                                                                (sel (sel (sel (sel (eqI n_1 n) (eqI n_3 n_2) false) (eqI n_4 n_5) false) (eqI n_6 (natI l)) false) (eqB b_1 b) false = true → C 56 [Value.pointer (some (Addr.mk d 0 none))] h' fun (v : Value) (h' : Hp) => ∃ (n : Int), v = Value.int IntKind.i64 n ∧ Q (Value.int IntKind.i64 n) h') ∧
                                                                                                                  (sel (sel (sel (sel (eqI n_1 n) (eqI n_3 n_2) false) (eqI n_4 n_5) false) (eqI n_6 (natI l)) false) (eqB b_1 b) false = false → ∃ (n : Int), Q (Value.int IntKind.i64 n) h') ∧
                                                                                                                    ∀ (n_8 : Int) (h' : Hp),
                                                                                                                      Q (Value.int IntKind.i64 n_8) h' →
                                                                                                                        (sel (sel (sel (sel (eqI n_1 n) (eqI n_3 n_2) false) (eqI n_4 n_5) false) (eqI n_6 (natI l)) false) (eqB b_1 b) false = true → plainA (some (Addr.mk r 6 none)) = true ∧ h'.cellsAt r 6 1 = some [Value.int IntKind.i64 n_7]) ∧
                                                                                                                          (sel (sel (sel (sel (sel (eqI n_1 n) (eqI n_3 n_2) false) (eqI n_4 n_5) false) (eqI n_6 (natI l)) false) (eqB b_1 b) false) (eqI n_8 n_7) false = true → (some (Addr.mk r 0 none)).isSome = true) ∧
                                                                                                                            (sel (sel (sel (sel (sel (eqI n_1 n) (eqI n_3 n_2) false) (eqI n_4 n_5) false) (eqI n_6 (natI l)) false) (eqB b_1 b) false) (eqI n_8 n_7) false = true → plainA (some (Addr.mk r 0 none)) = true) ∧
                                                                                                                              ∃ (n_9 : Int),
                                                                                                                                (sel (sel (sel (sel (sel (eqI n_1 n) (eqI n_3 n_2) false) (eqI n_4 n_5) false) (eqI n_6 (natI l)) false) (eqB b_1 b) false) (eqI n_8 n_7) false = true → plainA (some (Addr.mk r 7 none)) = true ∧ h'.cellsAt r 7 1 = some [Value.int IntKind.i64 n_9]) ∧
                                                                                                                                  ∃ (Q : Value → Hp → Prop),
                                                                                                                                    (sel (sel (sel (sel (sel (eqI n_1 n) (eqI n_3 n_2) false) (eqI n_4 n_5) false) (eqI n_6 (natI l)) false) (eqB b_1 b) false) (eqI n_8 n_7) false = true →
                                                                                                                                        C 39 [Value.pointer (some (Addr.mk d 0 none))] h' fun (v : Value) (h' : Hp) => ∃ (n : Int), v = Value.int IntKind.i64 n ∧ Q (Value.int IntKind.i64 n) h') ∧
                                                                                                                                      (sel (sel (sel (sel (sel (eqI n_1 n) (eqI n_3 n_2) false) (eqI n_4 n_5) false) (eqI n_6 (natI l)) false) (eqB b_1 b) false) (eqI n_8 n_7) false = false → ∃ (n : Int), Q (Value.int IntKind.i64 n) h') ∧
                                                                                                                                        ∀ (n_10 : Int) (h' : Hp),
                                                                                                                                          Q (Value.int IntKind.i64 n_10) h' →
                                                                                                                                            (sel (sel (sel (sel (sel (eqI n_1 n) (eqI n_3 n_2) false) (eqI n_4 n_5) false) (eqI n_6 (natI l)) false) (eqB b_1 b) false) (eqI n_8 n_7) false = true → plainA (some (Addr.mk r 7 none)) = true ∧ h'.cellsAt r 7 1 = some [Value.int IntKind.i64 n_9]) ∧
                                                                                                                                              (sel (sel (sel (sel (sel (sel (eqI n_1 n) (eqI n_3 n_2) false) (eqI n_4 n_5) false) (eqI n_6 (natI l)) false) (eqB b_1 b) false) (eqI n_8 n_7) false) (eqI n_10 n_9) false = true → (some (Addr.mk r 0 none)).isSome = true) ∧
                                                                                                                                                (sel (sel (sel (sel (sel (sel (eqI n_1 n) (eqI n_3 n_2) false) (eqI n_4 n_5) false) (eqI n_6 (natI l)) false) (eqB b_1 b) false) (eqI n_8 n_7) false) (eqI n_10 n_9) false = true → plainA (some (Addr.mk r 0 none)) = true) ∧
                                                                                                                                                  ∃ (n_11 : Int),
                                                                                                                                                    ∃ (n_12 : Int),
                                                                                                                                                      ∃ (n_13 : Int),
                                                                                                                                                        (sel (sel (sel (sel (sel (sel (eqI n_1 n) (eqI n_3 n_2) false) (eqI n_4 n_5) false) (eqI n_6 (natI l)) false) (eqB b_1 b) false) (eqI n_8 n_7) false) (eqI n_10 n_9) false = true →
                                                                                                                                                            plainA (some (Addr.mk r 8 none)) = true ∧ h'.cellsAt r 8 3 = some [Value.int IntKind.i64 n_11, Value.int IntKind.i64 n_12, Value.int IntKind.i64 n_13]) ∧
                                                                                                                                                          ∃ (Q : Value → Hp → Prop),
                                                                                                                                                            (sel (sel (sel (sel (sel (sel (eqI n_1 n) (eqI n_3 n_2) false) (eqI n_4 n_5) false) (eqI n_6 (natI l)) false) (eqB b_1 b) false) (eqI n_8 n_7) false) (eqI n_10 n_9) false = true →
                                                                                                                                                                C 37 [Value.pointer (some (Addr.mk d 0 none))] h' fun (v : Value) (h' : Hp) =>
                                                                                                                                                                  ∃ (n : Int),
                                                                                                                                                                    ∃ (n_14 : Int),
                                                                                                                                                                      ∃ (n_15 : Int),
                                                                                                                                                                        v = Value.agg (Array.mk [Value.int IntKind.i64 n, Value.int IntKind.i64 n_14, Value.int IntKind.i64 n_15]) ∧ Q (Value.agg (Array.mk [Value.int IntKind.i64 n, Value.int IntKind.i64 n_14, Value.int IntKind.i64 n_15])) h') ∧
                                                                                                                                                              (sel (sel (sel (sel (sel (sel (eqI n_1 n) (eqI n_3 n_2) false) (eqI n_4 n_5) false) (eqI n_6 (natI l)) false) (eqB b_1 b) false) (eqI n_8 n_7) false) (eqI n_10 n_9) false = false →
                                                                                                                                                                  ∃ (n : Int), ∃ (n_14 : Int), ∃ (n_15 : Int), Q (Value.agg (Array.mk [Value.int IntKind.i64 n, Value.int IntKind.i64 n_14, Value.int IntKind.i64 n_15])) h') ∧
                                                                                                                                                                ∀ (n_14 n_15 n_16 : Int) (h' : Hp),
                                                                                                                                                                  Q (Value.agg (Array.mk [Value.int IntKind.i64 n_14, Value.int IntKind.i64 n_15, Value.int IntKind.i64 n_16])) h' →
                                                                                                                                                                    (sel (sel (sel (sel (sel (sel (eqI n_1 n) (eqI n_3 n_2) false) (eqI n_4 n_5) false) (eqI n_6 (natI l)) false) (eqB b_1 b) false) (eqI n_8 n_7) false) (eqI n_10 n_9) false = true →
                                                                                                                                                                        plainA (some (Addr.mk r 8 none)) = true ∧ h'.cellsAt r 8 3 = some [Value.int IntKind.i64 n_11, Value.int IntKind.i64 n_12, Value.int IntKind.i64 n_13]) ∧
                                                                                                                                                                      K
                                                                                                                                                                        (Value.bool
                                                                                                                                                                          (sel (sel (sel (sel (sel (sel (sel (eqI n_1 n) (eqI n_3 n_2) false) (eqI n_4 n_5) false) (eqI n_6 (natI l)) false) (eqB b_1 b) false) (eqI n_8 n_7) false) (eqI n_10 n_9) false)
                                                                                                                                                                            (andB (eqI n_14 n_11) (andB (eqI n_15 n_12) (andB (eqI n_16 n_13) true))) false))
                                                                                                                                                                        h') := by kernel_rfl

def shp8 : Nat → List (Tmp × TypeId) := fun i => []
theorem vc8 (C : FuncId → List Value → Hp → (Value → Hp → Prop) → Prop)  (h : Hp) (K : Value → Hp → Prop) : vBody Try.prog C pf shp8 Try.f8 (Try.f8.body.getD .skip) [] h K = (
  ∃ (Q : Value → Hp → Prop), (true = true → C 25 [] h fun (v : Value) (h' : Hp) => ∃ (b : Bool), v = Value.bool b ∧ Q (Value.bool b) h') ∧ (true = false → ∃ (b : Bool), Q (Value.bool b) h) ∧ ∀ (b : Bool) (h' : Hp), Q (Value.bool b) h' → K (Value.bool (sel true b false)) h') := by kernel_rfl

def shp10 : Nat → List (Tmp × TypeId) := fun i => if i = 5 then [(9, 3)] else if i = 12 then [(12, 3)] else if i = 17 then [(13, 3)] else []
theorem vc10 (C : FuncId → List Value → Hp → (Value → Hp → Prop) → Prop) (a : Option Addr) (l c : Nat) (a1 : Option Addr) (l1 c1 : Nat) (a2 : Option Addr) (l2 c2 : Nat) (h : Hp) (K : Value → Hp → Prop) : vBody Try.prog C pf shp10 Try.f10 (Try.f10.body.getD .skip) [.slice a l c, .slice a1 l1 c1, .slice a2 l2 c2] h K = (
  C 26 [Value.int IntKind.i64 1024, Value.int IntKind.i64 8] h fun (v : Value) (h' : Hp) =>
    ∃ (a_1 : Option Addr),
      ∃ (n : Int),
        v = Value.tuple (Array.mk [Value.pointer a_1, Value.int IntKind.i64 n]) ∧
          ∃ (Q : Value → Hp → Prop),
            (notB (sel (neI n 0) true (isN a_1)) = true → C 25 [] h' fun (v : Value) (h' : Hp) => ∃ (b : Bool), v = Value.bool b ∧ Q (Value.bool b) h') ∧
              (notB (sel (neI n 0) true (isN a_1)) = false → ∃ (b : Bool), Q (Value.bool b) h') ∧
                ∀ (b : Bool) (h' : Hp),
                  Q (Value.bool b) h' →
                    if sel (sel (neI n 0) true (isN a_1)) true (notB b) = true then K (Value.bool false) h'
                    else
                      ∃ (I : List Value → Nat → Hp → Prop),
                        (∃ (m : Nat), I [Value.int IntKind.i64 0] m h') ∧
                          ∀ (n : Int) (m : Nat) (h : Hp),
                            I [Value.int IntKind.i64 n] m h →
                              if ltI n (natI l) = true then
                                (a.isSome = true ∧ inR n l) ∧
                                  ∃ (n_1 : Int),
                                    ∃ (n_2 : Int),
                                      ∃ (n_3 : Int),
                                        ∃ (n_4 : Int),
                                          ∃ (n_5 : Int),
                                            ∃ (n_6 : Int),
                                              ∃ (n_7 : Int),
                                                ∃ (a_4 : Option Addr),
                                                  ∃ (l : Nat),
                                                    ∃ (c : Nat),
                                                      ∃ (a_5 : Option Addr),
                                                        ∃ (l_1 : Nat),
                                                          ∃ (c_1 : Nat),
                                                            (plainA (some (Addr.mk (blk a) (plusI (off a) n 9) none)) = true ∧
                                                                h.cellsAt (blk a) (plusI (off a) n 9) 9 = some [Value.int IntKind.i64 n_1, Value.int IntKind.i64 n_2, Value.int IntKind.u32 n_3, Value.int IntKind.i64 n_4, Value.int IntKind.i64 n_5, Value.int IntKind.u8 n_6, Value.int IntKind.u8 n_7, Value.slice a_4 l c, Value.slice a_5 l_1 c_1]) ∧
                                                              C 27 [Value.pointer a_1, Value.agg (Array.mk [Value.int IntKind.i64 n_1, Value.int IntKind.i64 n_2, Value.int IntKind.u32 n_3, Value.int IntKind.i64 n_4, Value.int IntKind.i64 n_5, Value.int IntKind.u8 n_6, Value.int IntKind.u8 n_7, Value.slice a_4 l c, Value.slice a_5 l_1 c_1])] h fun (v : Value) (h' : Hp) =>
                                                                ∃ (b : Bool), v = Value.bool b ∧ ∃ (m' : Nat), lessN m' m ∧ I [Value.int IntKind.i64 (addW IntKind.i64 n 1)] m' h'
                              else
                                C 31 [Value.pointer a_1] h fun (v : Value) (h' : Hp) =>
                                  ∃ (a : Option Addr),
                                    v = Value.pointer a ∧
                                      C 31 [Value.pointer a_1] h' fun (v : Value) (h' : Hp) =>
                                        ∃ (a_4 : Option Addr),
                                          v = Value.pointer a_4 ∧
                                            if sel (isN a) true (isN a_4) = true then K (Value.bool false) h'
                                            else
                                              ∃ (I : List Value → Nat → Hp → Prop),
                                                (∃ (m : Nat), I [Value.int IntKind.i64 0] m h') ∧
                                                  ∀ (n : Int) (m : Nat) (h : Hp),
                                                    I [Value.int IntKind.i64 n] m h →
                                                      if ltI n (natI l1) = true then
                                                        (a1.isSome = true ∧ inR n l1) ∧
                                                          ∃ (n_1 : Int),
                                                            ∃ (n_2 : Int),
                                                              ∃ (n_3 : Int),
                                                                ∃ (n_4 : Int),
                                                                  ∃ (n_5 : Int),
                                                                    ∃ (n_6 : Int),
                                                                      ∃ (n_7 : Int),
                                                                        ∃ (a_6 : Option Addr),
                                                                          ∃ (l : Nat),
                                                                            ∃ (c : Nat),
                                                                              ∃ (a_7 : Option Addr),
                                                                                ∃ (l_1 : Nat),
                                                                                  ∃ (c_1 : Nat),
                                                                                    (plainA (some (Addr.mk (blk a1) (plusI (off a1) n 9) none)) = true ∧
                                                                                        h.cellsAt (blk a1) (plusI (off a1) n 9) 9 = some [Value.int IntKind.i64 n_1, Value.int IntKind.i64 n_2, Value.int IntKind.u32 n_3, Value.int IntKind.i64 n_4, Value.int IntKind.i64 n_5, Value.int IntKind.u8 n_6, Value.int IntKind.u8 n_7, Value.slice a_6 l c, Value.slice a_7 l_1 c_1]) ∧
                                                                                      C 27 [Value.pointer a, Value.agg (Array.mk [Value.int IntKind.i64 n_1, Value.int IntKind.i64 n_2, Value.int IntKind.u32 n_3, Value.int IntKind.i64 n_4, Value.int IntKind.i64 n_5, Value.int IntKind.u8 n_6, Value.int IntKind.u8 n_7, Value.slice a_6 l c, Value.slice a_7 l_1 c_1])] h fun (v : Value) (h' : Hp) =>
                                                                                        ∃ (b : Bool), v = Value.bool b ∧ ∃ (m' : Nat), lessN m' m ∧ I [Value.int IntKind.i64 (addW IntKind.i64 n 1)] m' h'
                                                      else
                                                        ∀ (h' : Hp),
                                                          h' = h.alloc [Value.int IntKind.u8 255, Value.int IntKind.u8 255] 57 →
                                                            C 32 [Value.pointer a, Value.slice (some (Addr.mk h.next 0 none)) 2 2] h' fun (v : Value) (h' : Hp) =>
                                                              ∃ (n : Int),
                                                                v = Value.int IntKind.i64 n ∧
                                                                  ∃ (I : List Value → Nat → Hp → Prop),
                                                                    (∃ (m : Nat), I [Value.int IntKind.i64 0] m h') ∧
                                                                      ∀ (n : Int) (m : Nat) (h : Hp),
                                                                        I [Value.int IntKind.i64 n] m h →
                                                                          if ltI n (natI l2) = true then
                                                                            (a2.isSome = true ∧ inR n l2) ∧
                                                                              ∃ (n_1 : Int),
                                                                                ∃ (n_2 : Int),
                                                                                  ∃ (n_3 : Int),
                                                                                    ∃ (n_4 : Int),
                                                                                      ∃ (n_5 : Int),
                                                                                        ∃ (n_6 : Int),
                                                                                          ∃ (n_7 : Int),
                                                                                            ∃ (a : Option Addr),
                                                                                              ∃ (l : Nat),
                                                                                                ∃ (c : Nat),
                                                                                                  ∃ (a_8 : Option Addr),
                                                                                                    ∃ (l_1 : Nat),
                                                                                                      ∃ (c_1 : Nat),
                                                                                                        (plainA (some (Addr.mk (blk a2) (plusI (off a2) n 9) none)) = true ∧
                                                                                                            h.cellsAt (blk a2) (plusI (off a2) n 9) 9 = some [Value.int IntKind.i64 n_1, Value.int IntKind.i64 n_2, Value.int IntKind.u32 n_3, Value.int IntKind.i64 n_4, Value.int IntKind.i64 n_5, Value.int IntKind.u8 n_6, Value.int IntKind.u8 n_7, Value.slice a l c, Value.slice a_8 l_1 c_1]) ∧
                                                                                                          (a2.isSome = true ∧ inR n l2) ∧
                                                                                                            ∃ (n_8 : Int),
                                                                                                              ∃ (n_9 : Int),
                                                                                                                ∃ (n_10 : Int),
                                                                                                                  ∃ (n_11 : Int),
                                                                                                                    ∃ (n_12 : Int),
                                                                                                                      ∃ (n_13 : Int),
                                                                                                                        ∃ (n_14 : Int),
                                                                                                                          ∃ (a_9 : Option Addr),
                                                                                                                            ∃ (l_2 : Nat),
                                                                                                                              ∃ (c_2 : Nat),
                                                                                                                                ∃ (a_10 : Option Addr),
                                                                                                                                  ∃ (l_3 : Nat),
                                                                                                                                    ∃ (c_3 : Nat),
                                                                                                                                      (plainA (some (Addr.mk (blk a2) (plusI (off a2) n 9) none)) = true ∧
                                                                                                                                          h.cellsAt (blk a2) (plusI (off a2) n 9) 9 =
                                                                                                                                            some [Value.int IntKind.i64 n_8, Value.int IntKind.i64 n_9, Value.int IntKind.u32 n_10, Value.int IntKind.i64 n_11, Value.int IntKind.i64 n_12, Value.int IntKind.u8 n_13, Value.int IntKind.u8 n_14, Value.slice a_9 l_2 c_2, Value.slice a_10 l_3 c_3]) ∧
                                                                                                                                        C 27
                                                                                                                                          [Value.pointer a_1,
                                                                                                                                            Value.agg (Array.mk [Value.int IntKind.i64 n_1, Value.int IntKind.i64 n_2, Value.int IntKind.u32 n_3, Value.int IntKind.i64 n_4, Value.int IntKind.i64 n_5, Value.int IntKind.u8 n_6, Value.int IntKind.u8 n_7, Value.slice a l c, Value.slice a_8 l_1 c_1])]
                                                                                                                                          h fun (v : Value) (h' : Hp) =>
                                                                                                                                          ∃ (b : Bool),
                                                                                                                                            v = Value.bool b ∧
                                                                                                                                              (plainA (some (Addr.mk (blk a2) (plusI (off a2) n 9) none)) = true ∧
                                                                                                                                                  h'.cellsAt (blk a2) (plusI (off a2) n 9) 9 =
                                                                                                                                                    some [Value.int IntKind.i64 n_8, Value.int IntKind.i64 n_9, Value.int IntKind.u32 n_10, Value.int IntKind.i64 n_11, Value.int IntKind.i64 n_12, Value.int IntKind.u8 n_13, Value.int IntKind.u8 n_14, Value.slice a_9 l_2 c_2, Value.slice a_10 l_3 c_3]) ∧
                                                                                                                                                C 27
                                                                                                                                                  [Value.pointer a_4,
                                                                                                                                                    Value.agg
                                                                                                                                                      (Array.mk
                                                                                                                                                        [Value.int IntKind.i64 n_8, Value.int IntKind.i64 n_9, Value.int IntKind.u32 n_10, Value.int IntKind.i64 n_11, Value.int IntKind.i64 n_12, Value.int IntKind.u8 n_13, Value.int IntKind.u8 n_14, Value.slice a_9 l_2 c_2, Value.slice a_10 l_3 c_3])]
                                                                                                                                                  h' fun (v : Value) (h' : Hp) => ∃ (b_1 : Bool), v = Value.bool b_1 ∧ if notB (eqB b b_1) = true then K (Value.bool false) h' else ∃ (m' : Nat), lessN m' m ∧ I [Value.int IntKind.i64 (addW IntKind.i64 n 1)] m' h'
                                                                          else
                                                                            C 28 [Value.pointer a_1] h fun (v : Value) (h' : Hp) =>
                                                                              ∃ (a_8 : Option Addr),
                                                                                ∃ (l : Nat),
                                                                                  ∃ (c : Nat),
                                                                                    v = Value.slice a_8 l c ∧
                                                                                      C 28 [Value.pointer a_4] h' fun (v : Value) (h' : Hp) =>
                                                                                        ∃ (a_9 : Option Addr),
                                                                                          ∃ (l_1 : Nat),
                                                                                            ∃ (c_1 : Nat),
                                                                                              v = Value.slice a_9 l_1 c_1 ∧
                                                                                                C 33 [Value.slice a_8 l c, Value.slice a_9 l_1 c_1] h' fun (v : Value) (h' : Hp) =>
                                                                                                  ∃ (b : Bool),
                                                                                                    v = Value.bool b ∧
                                                                                                      ∃ (Q : Value → Hp → Prop),
                                                                                                        (b = true → C 34 [Value.pointer a_1] h' fun (v : Value) (h' : Hp) => ∃ (a : Option Addr), ∃ (l : Nat), ∃ (c : Nat), v = Value.slice a l c ∧ Q (Value.slice a l c) h') ∧
                                                                                                          (b = false → ∃ (a : Option Addr), ∃ (l : Nat), ∃ (c : Nat), Q (Value.slice a l c) h') ∧
                                                                                                            ∀ (a_10 : Option Addr) (l c : Nat) (h' : Hp),
                                                                                                              Q (Value.slice a_10 l c) h' →
                                                                                                                ∃ (Q : Value → Hp → Prop),
                                                                                                                  (b = true → C 34 [Value.pointer a_4] h' fun (v : Value) (h' : Hp) => ∃ (a : Option Addr), ∃ (l : Nat), ∃ (c : Nat), v = Value.slice a l c ∧ Q (Value.slice a l c) h') ∧
                                                                                                                    (b = false → ∃ (a : Option Addr), ∃ (l : Nat), ∃ (c : Nat), Q (Value.slice a l c) h') ∧
                                                                                                                      ∀ (a_12 : Option Addr) (l_2 c_2 : Nat) (h' : Hp),
                                                                                                                        Q (Value.slice a_12 l_2 c_2) h' →
                                                                                                                          ∃ (Q : Value → Hp → Prop),
                                                                                                                            (b = true → C 33 [Value.slice a_10 l c, Value.slice a_12 l_2 c_2] h' fun (v : Value) (h' : Hp) => ∃ (b : Bool), v = Value.bool b ∧ Q (Value.bool b) h') ∧
                                                                                                                              (b = false → ∃ (b : Bool), Q (Value.bool b) h') ∧
                                                                                                                                ∀ (b_1 : Bool) (h' : Hp),
                                                                                                                                  Q (Value.bool b_1) h' →
                                                                                                                                    ∃ (Q : Value → Hp → Prop),
                                                                                                                                      (sel b b_1 false = true →
                                                                                                                                          C 37 [Value.pointer a_1] h' fun (v : Value) (h' : Hp) =>
                                                                                                                                            ∃ (n : Int), ∃ (n_1 : Int), ∃ (n_2 : Int), v = Value.agg (Array.mk [Value.int IntKind.i64 n, Value.int IntKind.i64 n_1, Value.int IntKind.i64 n_2]) ∧ Q (Value.agg (Array.mk [Value.int IntKind.i64 n, Value.int IntKind.i64 n_1, Value.int IntKind.i64 n_2])) h') ∧
                                                                                                                                        (sel b b_1 false = false → ∃ (n : Int), ∃ (n_1 : Int), ∃ (n_2 : Int), Q (Value.agg (Array.mk [Value.int IntKind.i64 n, Value.int IntKind.i64 n_1, Value.int IntKind.i64 n_2])) h') ∧
                                                                                                                                          ∀ (n n_1 n_2 : Int) (h' : Hp),
                                                                                                                                            Q (Value.agg (Array.mk [Value.int IntKind.i64 n, Value.int IntKind.i64 n_1, Value.int IntKind.i64 n_2])) h' →
                                                                                                                                              ∃ (Q : Value → Hp → Prop),
                                                                                                                                                (sel b b_1 false = true →
                                                                                                                                                    C 37 [Value.pointer a_4] h' fun (v : Value) (h' : Hp) =>
                                                                                                                                                      ∃ (n : Int),
                                                                                                                                                        ∃ (n_3 : Int), ∃ (n_4 : Int), v = Value.agg (Array.mk [Value.int IntKind.i64 n, Value.int IntKind.i64 n_3, Value.int IntKind.i64 n_4]) ∧ Q (Value.agg (Array.mk [Value.int IntKind.i64 n, Value.int IntKind.i64 n_3, Value.int IntKind.i64 n_4])) h') ∧
                                                                                                                                                  (sel b b_1 false = false → ∃ (n : Int), ∃ (n_3 : Int), ∃ (n_4 : Int), Q (Value.agg (Array.mk [Value.int IntKind.i64 n, Value.int IntKind.i64 n_3, Value.int IntKind.i64 n_4])) h') ∧
                                                                                                                                                    ∀ (n_3 n_4 n_5 : Int) (h' : Hp),
                                                                                                                                                      Q (Value.agg (Array.mk [Value.int IntKind.i64 n_3, Value.int IntKind.i64 n_4, Value.int IntKind.i64 n_5])) h' →
                                                                                                                                                        ∃ (Q : Value → Hp → Prop),
                                                                                                                                                          (sel (sel b b_1 false) (andB (eqI n n_3) (andB (eqI n_1 n_4) (andB (eqI n_2 n_5) true))) false = true →
                                                                                                                                                              C 30 [Value.pointer a_1] h' fun (v : Value) (h' : Hp) => ∃ (a : Option Addr), ∃ (l : Nat), ∃ (c : Nat), v = Value.slice a l c ∧ Q (Value.slice a l c) h') ∧
                                                                                                                                                            (sel (sel b b_1 false) (andB (eqI n n_3) (andB (eqI n_1 n_4) (andB (eqI n_2 n_5) true))) false = false → ∃ (a : Option Addr), ∃ (l : Nat), ∃ (c : Nat), Q (Value.slice a l c) h') ∧
                                                                                                                                                              ∀ (a_17 : Option Addr) (l c : Nat) (h' : Hp),
                                                                                                                                                                Q (Value.slice a_17 l c) h' →
                                                                                                                                                                  ∃ (Q : Value → Hp → Prop),
                                                                                                                                                                    (sel (sel b b_1 false) (andB (eqI n n_3) (andB (eqI n_1 n_4) (andB (eqI n_2 n_5) true))) false = true →
                                                                                                                                                                        C 30 [Value.pointer a_4] h' fun (v : Value) (h' : Hp) => ∃ (a : Option Addr), ∃ (l : Nat), ∃ (c : Nat), v = Value.slice a l c ∧ Q (Value.slice a l c) h') ∧
                                                                                                                                                                      (sel (sel b b_1 false) (andB (eqI n n_3) (andB (eqI n_1 n_4) (andB (eqI n_2 n_5) true))) false = false → ∃ (a : Option Addr), ∃ (l : Nat), ∃ (c : Nat), Q (Value.slice a l c) h') ∧
                                                                                                                                                                        ∀ (a_19 : Option Addr) (l_3 c : Nat) (h' : Hp),
                                                                                                                                                                          Q (Value.slice a_19 l_3 c) h' →
                                                                                                                                                                            ∃ (Q : Value → Hp → Prop),
                                                                                                                                                                              (sel (sel (sel b b_1 false) (andB (eqI n n_3) (andB (eqI n_1 n_4) (andB (eqI n_2 n_5) true))) false) (eqI (natI l) (natI l_3)) false = true →
                                                                                                                                                                                  C 38 [Value.pointer a_1] h' fun (v : Value) (h' : Hp) => ∃ (b : Bool), v = Value.bool b ∧ Q (Value.bool b) h') ∧
                                                                                                                                                                                (sel (sel (sel b b_1 false) (andB (eqI n n_3) (andB (eqI n_1 n_4) (andB (eqI n_2 n_5) true))) false) (eqI (natI l) (natI l_3)) false = false → ∃ (b : Bool), Q (Value.bool b) h') ∧
                                                                                                                                                                                  ∀ (b_2 : Bool) (h' : Hp),
                                                                                                                                                                                    Q (Value.bool b_2) h' →
                                                                                                                                                                                      ∃ (Q : Value → Hp → Prop),
                                                                                                                                                                                        (sel (sel (sel (sel b b_1 false) (andB (eqI n n_3) (andB (eqI n_1 n_4) (andB (eqI n_2 n_5) true))) false) (eqI (natI l) (natI l_3)) false) b_2 false = true →
                                                                                                                                                                                            C 39 [Value.pointer a_1] h' fun (v : Value) (h' : Hp) => ∃ (n : Int), v = Value.int IntKind.i64 n ∧ Q (Value.int IntKind.i64 n) h') ∧
                                                                                                                                                                                          (sel (sel (sel (sel b b_1 false) (andB (eqI n n_3) (andB (eqI n_1 n_4) (andB (eqI n_2 n_5) true))) false) (eqI (natI l) (natI l_3)) false) b_2 false = false → ∃ (n : Int), Q (Value.int IntKind.i64 n) h') ∧
                                                                                                                                                                                            ∀ (n_6 : Int) (h' : Hp),
                                                                                                                                                                                              Q (Value.int IntKind.i64 n_6) h' →
                                                                                                                                                                                                ∃ (Q : Value → Hp → Prop),
                                                                                                                                                                                                  (sel (sel (sel (sel (sel b b_1 false) (andB (eqI n n_3) (andB (eqI n_1 n_4) (andB (eqI n_2 n_5) true))) false) (eqI (natI l) (natI l_3)) false) b_2 false) (eqI n_6 0) false = true →
                                                                                                                                                                                                      C 39 [Value.pointer a] h' fun (v : Value) (h' : Hp) => ∃ (n : Int), v = Value.int IntKind.i64 n ∧ Q (Value.int IntKind.i64 n) h') ∧
                                                                                                                                                                                                    (sel (sel (sel (sel (sel b b_1 false) (andB (eqI n n_3) (andB (eqI n_1 n_4) (andB (eqI n_2 n_5) true))) false) (eqI (natI l) (natI l_3)) false) b_2 false) (eqI n_6 0) false = false →
                                                                                                                                                                                                        ∃ (n : Int), Q (Value.int IntKind.i64 n) h') ∧
                                                                                                                                                                                                      ∀ (n_7 : Int) (h' : Hp),
                                                                                                                                                                                                        Q (Value.int IntKind.i64 n_7) h' →
                                                                                                                                                                                                          K
                                                                                                                                                                                                            (Value.bool
                                                                                                                                                                                                              (sel (sel (sel (sel (sel (sel b b_1 false) (andB (eqI n n_3) (andB (eqI n_1 n_4) (andB (eqI n_2 n_5) true))) false) (eqI (natI l) (natI l_3)) false) b_2 false) (eqI n_6 0) false) (eqI n_7 1)
                                                                                                                                                                                                                false))
                                                                                                                                                                                                            h') := by kernel_rfl

def shp11 : Nat → List (Tmp × TypeId) := fun i => []
theorem vc11 (C : FuncId → List Value → Hp → (Value → Hp → Prop) → Prop) (page most : Int) (a : Option Addr) (l c : Nat) (h : Hp) (K : Value → Hp → Prop) : vBody Try.prog C pf shp11 Try.f11 (Try.f11.body.getD .skip) [.int .i64 page, .int .i64 most, .slice a l c] h K = (
  C 40 [Value.int IntKind.i64 page, Value.int IntKind.i64 most, Value.slice a l c] h fun (v : Value) (h' : Hp) =>
    ∃ (a_1 : Option Addr),
      ∃ (n : Int),
        v = Value.tuple (Array.mk [Value.pointer a_1, Value.int IntKind.i64 n]) ∧
          C 41 [Value.int IntKind.i64 page, Value.int IntKind.i64 most, Value.slice a l c] h' fun (v : Value) (h' : Hp) =>
            ∃ (a_2 : Option Addr),
              ∃ (n_1 : Int),
                v = Value.tuple (Array.mk [Value.pointer a_2, Value.int IntKind.i64 n_1]) ∧
                  C 40 [Value.int IntKind.i64 page, Value.int IntKind.i64 most, Value.slice none 0 0] h' fun (v : Value) (h' : Hp) =>
                    ∃ (a_3 : Option Addr),
                      ∃ (n_2 : Int),
                        v = Value.tuple (Array.mk [Value.pointer a_3, Value.int IntKind.i64 n_2]) ∧
                          C 26 [Value.int IntKind.i64 page, Value.int IntKind.i64 most] h' fun (v : Value) (h' : Hp) =>
                            ∃ (a_4 : Option Addr),
                              ∃ (n_3 : Int),
                                v = Value.tuple (Array.mk [Value.pointer a_4, Value.int IntKind.i64 n_3]) ∧
                                  if sel (sel (sel (neI n_1 n) true (notB (eqB (isN a_2) (isN a_1)))) true (neI n_3 n_2)) true (notB (eqB (isN a_4) (neI n_2 0))) = true then K (Value.bool false) h'
                                  else
                                    ∃ (Q : Value → Hp → Prop),
                                      (notB (isN a_2) = true → C 42 [Value.pointer a_2, Value.pointer a_1] h' fun (v : Value) (h' : Hp) => ∃ (b : Bool), v = Value.bool b ∧ Q (Value.bool b) h') ∧
                                        (notB (isN a_2) = false → ∃ (b : Bool), Q (Value.bool b) h') ∧
                                          ∀ (b : Bool) (h' : Hp),
                                            Q (Value.bool b) h' →
                                              ∃ (Q : Value → Hp → Prop),
                                                (andB (notB (notB b)) (notB (isN a_2)) = true → C 34 [Value.pointer a_2] h' fun (v : Value) (h' : Hp) => ∃ (a : Option Addr), ∃ (l : Nat), ∃ (c : Nat), v = Value.slice a l c ∧ Q (Value.slice a l c) h') ∧
                                                  (andB (notB (notB b)) (notB (isN a_2)) = false → ∃ (a : Option Addr), ∃ (l : Nat), ∃ (c : Nat), Q (Value.slice a l c) h') ∧
                                                    ∀ (a_6 : Option Addr) (l_1 c_1 : Nat) (h' : Hp),
                                                      Q (Value.slice a_6 l_1 c_1) h' →
                                                        ∃ (Q : Value → Hp → Prop),
                                                          (andB (notB (notB b)) (notB (isN a_2)) = true → C 43 [Value.slice a_6 l_1 c_1, Value.slice a l c] h' fun (v : Value) (h' : Hp) => ∃ (b : Bool), v = Value.bool b ∧ Q (Value.bool b) h') ∧
                                                            (andB (notB (notB b)) (notB (isN a_2)) = false → ∃ (b : Bool), Q (Value.bool b) h') ∧ ∀ (b_1 : Bool) (h' : Hp), Q (Value.bool b_1) h' → if sel (notB (isN a_2)) (sel (notB b) true (notB b_1)) false = true then K (Value.bool false) h' else C 25 [] h' fun (v : Value) (h' : Hp) => ∃ (b : Bool), v = Value.bool b ∧ K (Value.bool b) h') := by kernel_rfl
end Go.Proofs.Ytfkhjbfddeahaaa.vc
