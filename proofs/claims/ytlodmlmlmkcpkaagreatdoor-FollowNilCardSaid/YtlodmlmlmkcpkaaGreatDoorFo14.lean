/- Joined: SzW, SzS, SrV, SrB, PkA, NumA, PkV. -/
import Derived.Test.YtlodmlmlmkcpkaaGreatDoorFo13
import Derived.Test.YtlodmlmlmkcpkaaGreatDoorProg
import Derived.KernelRfl
/- The conditions of the symbolic runs of functions of the program (printed by a program of ours, vcgen.py; checked by the kernel). -/
set_option linter.unusedVariables false
set_option maxRecDepth 100000
namespace Go.Proofs.YtlodmlmlmkcpkaaGreatDoor.vc
open Go Go.Cn Go.Proofs

def shp_274 : Nat → List (Tmp × TypeId) := fun i => if i = 1 then [(0, 9)] else []
theorem vc_274 (C : FuncId → List Value → Hp → (Value → Hp → Prop) → Prop) (s : ByteArray) (n : Int) (h : Hp) (K : Value → Hp → Prop) : vBody Tryz.prog C pf shp_274 Tryz.f322 (Tryz.f322.body.getD .skip) [.string s, .int .u8 n] h K = (
 ∃ (I : List Value → Nat → Hp → Prop), (∃ (m : Nat), I [Value.string s] m h) ∧ ∀ (s : ByteArray) (m : Nat) (h : Hp), I [Value.string s] m h → (gtI (natI (lenS s)) 0 = true → inR 0 (lenS s)) ∧ if sel (gtI (natI (lenS s)) 0) (eqI (byteAt s 0) n) false = true then subOk s 1 (natI (lenS s)) ∧ ∃ (m' : Nat), lessN m' m ∧ I [Value.string (strSub s 1 (natI (lenS s)))] m' h else K (Value.string s) h) := by kernel_rfl

def shp_275 : Nat → List (Tmp × TypeId) := fun i => if i = 1 then [(0, 9)] else []
theorem vc_275 (C : FuncId → List Value → Hp → (Value → Hp → Prop) → Prop) (s : ByteArray) (n : Int) (h : Hp) (K : Value → Hp → Prop) : vBody Tryz.prog C pf shp_275 Tryz.f323 (Tryz.f323.body.getD .skip) [.string s, .int .u8 n] h K = (
 ∃ (I : List Value → Nat → Hp → Prop),
 (∃ (m : Nat), I [Value.string s] m h) ∧
 ∀ (s : ByteArray) (m : Nat) (h : Hp),
 I [Value.string s] m h → (gtI (natI (lenS s)) 0 = true → inR (subW IntKind.i64 (natI (lenS s)) 1) (lenS s)) ∧ if sel (gtI (natI (lenS s)) 0) (eqI (byteAt s (subW IntKind.i64 (natI (lenS s)) 1)) n) false = true then subOk s 0 (subW IntKind.i64 (natI (lenS s)) 1) ∧ ∃ (m' : Nat), lessN m' m ∧ I [Value.string (strSub s 0 (subW IntKind.i64 (natI (lenS s)) 1))] m' h else K (Value.string s) h) := by kernel_rfl
end Go.Proofs.YtlodmlmlmkcpkaaGreatDoor.vc

/- Contracts of strings.trimLeftByte and strings.trimRightByte. -/
set_option linter.unusedVariables false
namespace Go.Proofs.YtlodmlmlmkcpkaaGreatDoor.sb
open Go Go.Cn Go.Cn.Sha Go.Proofs Go.Proofs.YtlodmlmlmkcpkaaGreatDoor.vc

def trimL (c : Nat) : List UInt8 → List UInt8
  | [] => []
  | x :: l => match Nat.beq x.toNat c with
    | true => trimL c l
    | false => x :: l
def trimR (c : Nat) (l : List UInt8) : List UInt8 := (trimL c l.reverse).reverse

theorem bytes_ext {s : ByteArray} {l : List UInt8} (h : s.data.toList = l) : s = ⟨⟨l⟩⟩ := by
  subst h
  rfl
theorem subL (s : ByteArray) {l h : Nat} : (strSub s (l : Int) (h : Int)).data.toList = (s.data.toList.drop l).take (h - l) := by
  unfold strSub
  rw [Int.toNat_natCast, Int.toNat_natCast, ByteArray.data_extract, Array.toList_extract, List.extract_eq_take_drop]
theorem byteAt_get {s : ByteArray} {i : Nat} {b : UInt8} (h : s.data.toList[i]? = some b) : byteAt s (i : Int) = (b.toNat : Int) := by
  refine byteAt_eq ?_
  unfold bytes8
  rw [List.getElem?_map, h]
  rfl

theorem c274 (s : ByteArray) (c : Nat) (h : Hp) (hs : s.size ≤ 1073741824) : C 322 [.string s, .int .u8 (c : Int)] h fun v h' => v = .string ⟨⟨trimL c s.data.toList⟩⟩ ∧ h' = h := by
  refine SCalls_of_vw fol (pf := pf) (shp := shp_274) (f := 322) (fn := Tryz.f322) (by kernel_rfl) (c := Tryz.f322.body.getD .skip) (by kernel_rfl) (by kernel_rfl) fun wf => ?_
  rw [vc_274]
  refine ⟨fun vals m hh => ∃ t : ByteArray, [.string t] = vals ∧ m = t.size ∧ t.size ≤ s.size ∧ trimL c t.data.toList = trimL c s.data.toList ∧ hh = h, ⟨s.size, s, rfl, rfl, Nat.le_refl _, rfl, rfl⟩, ?_⟩
  rintro x m hh ⟨t, e, rfl, hle, ht, rfl⟩
  simp at e
  subst e
  have hl : t.data.toList.length = t.size := by simp
  cases htl : t.data.toList with
  | nil =>
    rw [htl] at hl ht
    have h0 : gtI (natI (lenS t)) 0 = false := by
      rw [Bool.eq_false_iff, Ne, gtI_iff, natI_eq]; unfold lenS; simp at hl; omega
    rw [h0]
    refine ⟨fun h => by simp at h, ?_⟩
    rw [if_neg (by simp [sel])]
    exact ⟨by rw [bytes_ext htl, ← ht]; rfl, rfl⟩
  | cons b l =>
    rw [htl] at hl ht
    simp only [List.length_cons] at hl
    have h0 : gtI (natI (lenS t)) 0 = true := by rw [gtI_iff, natI_eq]; unfold lenS; omega
    have hb : byteAt t 0 = (b.toNat : Int) := byteAt_get (i := 0) (by rw [htl]; rfl)
    rw [h0, hb]
    refine ⟨fun _ => ⟨Int.le_refl _, by unfold lenS; omega⟩, ?_⟩
    cases hc : Nat.beq b.toNat c with
    | true =>
      have he : b.toNat = c := Nat.eq_of_beq_eq_true hc
      rw [if_pos (by simp [sel, eqI, he])]
      have hsub : (strSub t 1 (natI (lenS t))).data.toList = l := by
        have := subL t (l := 1) (h := t.size)
        rw [htl, List.drop_one, List.tail_cons, List.take_of_length_le (by omega)] at this
        exact this
      have hsz : (strSub t 1 (natI (lenS t))).size = l.length := by rw [← hsub]; simp
      refine ⟨⟨by omega, by rw [natI_eq]; unfold lenS; omega, by rw [natI_eq]; unfold lenS; omega⟩, l.length, by simp only [lessN]; omega, _, rfl, hsz.symm, by omega, ?_, rfl⟩
      rw [hsub, ← ht]
      conv => rhs; unfold trimL
      rw [hc]
    | false =>
      have he : b.toNat ≠ c := fun h => by rw [h] at hc; simp at hc
      rw [if_neg (by simp [sel, eqI]; omega)]
      refine ⟨?_, rfl⟩
      rw [bytes_ext htl, ← ht]
      conv => rhs; unfold trimL
      rw [hc]

theorem c275 (s : ByteArray) (c : Nat) (h : Hp) (hs : s.size ≤ 1073741824) : C 323 [.string s, .int .u8 (c : Int)] h fun v h' => v = .string ⟨⟨trimR c s.data.toList⟩⟩ ∧ h' = h := by
  refine SCalls_of_vw fol (pf := pf) (shp := shp_275) (f := 323) (fn := Tryz.f323) (by kernel_rfl) (c := Tryz.f323.body.getD .skip) (by kernel_rfl) (by kernel_rfl) fun wf => ?_
  rw [vc_275]
  refine ⟨fun vals m hh => ∃ t : ByteArray, [.string t] = vals ∧ m = t.size ∧ t.size ≤ s.size ∧ trimR c t.data.toList = trimR c s.data.toList ∧ hh = h, ⟨s.size, s, rfl, rfl, Nat.le_refl _, rfl, rfl⟩, ?_⟩
  rintro x m hh ⟨t, e, rfl, hle, ht, rfl⟩
  simp at e
  subst e
  have hl : t.data.toList.length = t.size := by simp
  have hrev : t.data.toList = t.data.toList.reverse.reverse := (List.reverse_reverse _).symm
  cases htl : t.data.toList.reverse with
  | nil =>
    rw [htl] at hrev
    have h0 : gtI (natI (lenS t)) 0 = false := by
      rw [Bool.eq_false_iff, Ne, gtI_iff, natI_eq]; unfold lenS; rw [hrev] at hl; simp at hl; omega
    rw [h0]
    refine ⟨fun h => by simp at h, ?_⟩
    rw [if_neg (by simp [sel])]
    refine ⟨?_, rfl⟩
    rw [bytes_ext hrev, ← ht]
    unfold trimR
    rw [htl]
    rfl
  | cons b l =>
    have hlen : l.length + 1 = t.size := by
      have := congrArg List.length htl
      simp only [List.length_reverse, List.length_cons] at this
      omega
    have hcut : t.data.toList = l.reverse ++ [b] := by rw [hrev, htl, List.reverse_cons]
    have h0 : gtI (natI (lenS t)) 0 = true := by rw [gtI_iff, natI_eq]; unfold lenS; omega
    have hi : subW .i64 (natI (lenS t)) 1 = ((t.size - 1 : Nat) : Int) := by
      rw [natI_eq]; unfold lenS
      rw [subW_small (by omega) (by omega)]; omega
    have hb : byteAt t ((t.size - 1 : Nat) : Int) = (b.toNat : Int) := byteAt_get (by
      rw [hcut, List.getElem?_append_right (by simp; omega)]
      simp [show t.size - 1 - l.length = 0 by omega])
    rw [h0, hi, hb]
    refine ⟨fun _ => ⟨Int.natCast_nonneg _, by unfold lenS; omega⟩, ?_⟩
    cases hc : Nat.beq b.toNat c with
    | true =>
      have he : b.toNat = c := Nat.eq_of_beq_eq_true hc
      rw [if_pos (by simp [sel, eqI, he])]
      have hsub : (strSub t 0 ((t.size - 1 : Nat) : Int)).data.toList = l.reverse := by
        have := subL t (l := 0) (h := t.size - 1)
        rw [hcut, List.drop_zero, Nat.sub_zero, List.take_append_of_le_length (by simp; omega), List.take_of_length_le (by simp; omega)] at this
        exact this
      have hsz : (strSub t 0 ((t.size - 1 : Nat) : Int)).size = l.length := by
        have := congrArg List.length hsub
        simpa using this
      refine ⟨⟨by omega, Int.natCast_nonneg _, by omega⟩, l.length, by simp only [lessN]; omega, _, rfl, hsz.symm, by omega, ?_, rfl⟩
      rw [hsub, ← ht]
      unfold trimR
      rw [htl, List.reverse_reverse]
      congr 1
      conv => rhs; unfold trimL
      rw [hc]
    | false =>
      have he : b.toNat ≠ c := fun h => by rw [h] at hc; simp at hc
      rw [if_neg (by simp [sel, eqI]; omega)]
      refine ⟨?_, rfl⟩
      rw [bytes_ext hrev, ← ht]
      unfold trimR
      rw [htl]
      congr 4
      conv => rhs; unfold trimL
      rw [hc]

/-- Strings are trimmed by a law, too. -/
def nat2 : FuncId → List Value → Hp → Option (Option Value) := fun f args h =>
  match Nat.beq f 322 with
  | true => match args with
    | [.string s, .int .u8 (.ofNat c)] => match Nat.ble s.size 1073741824 with
      | true => some (some (.string ⟨⟨trimL c s.data.toList⟩⟩))
      | false => some none
    | _ => some none
  | false => match Nat.beq f 323 with
    | true => match args with
      | [.string s, .int .u8 (.ofNat c)] => match Nat.ble s.size 1073741824 with
        | true => some (some (.string ⟨⟨trimR c s.data.toList⟩⟩))
        | false => some none
      | _ => some none
    | false => nat f args h

theorem nat2_ok : NatOk Tryz.prog nat2 := by
  intro f args h v hn
  unfold nat2 at hn
  split at hn
  · rename_i hf
    have hf := Nat.eq_of_beq_eq_true hf
    subst hf
    split at hn
    · rename_i s c
      split at hn
      · rename_i hs
        simp only [Option.some.injEq] at hn
        subst hn
        exact c274 s c h (Nat.le_of_ble_eq_true hs)
      · simp at hn
    · simp at hn
  · split at hn
    · rename_i hf
      have hf := Nat.eq_of_beq_eq_true hf
      subst hf
      split at hn
      · rename_i s c
        split at hn
        · rename_i hs
          simp only [Option.some.injEq] at hn
          subst hn
          exact c275 s c h (Nat.le_of_ble_eq_true hs)
        · simp at hn
      · simp at hn
    · exact nat_ok f args h v hn
end Go.Proofs.YtlodmlmlmkcpkaaGreatDoor.sb

/- The conditions of the symbolic runs of functions of the program (printed by a program of ours, vcgen.py; checked by the kernel). -/
set_option linter.unusedVariables false
set_option maxRecDepth 100000
namespace Go.Proofs.YtlodmlmlmkcpkaaGreatDoor.vc
open Go Go.Cn Go.Proofs
def pfr : FuncId → Bool := fun f => f == 357

def shp_269 : Nat → List (Tmp × TypeId) := fun i => []
theorem vc_269 (C : FuncId → List Value → Hp → (Value → Hp → Prop) → Prop) (x n : Int) (h : Hp) (K : Value → Hp → Prop) : vBody Tryz.prog C pfr shp_269 Tryz.f357 (Tryz.f357.body.getD .skip) [.int .u32 x, .int .i64 n] h K = (
 nonneg (toW IntKind.u64 n) ∧ nonneg (toW IntKind.u64 (subW IntKind.i64 32 n)) ∧ K (Value.int IntKind.u32 (orW IntKind.u32 (shrW IntKind.u32 x (toW IntKind.u64 n)) (shlW IntKind.u32 x (toW IntKind.u64 (subW IntKind.i64 32 n))))) h) := by kernel_rfl

def shp_263 : Nat → List (Tmp × TypeId) := fun i => if i = 3 then [(3, 200)] else if i = 7 then [(3, 200), (5, 3)] else []
theorem vc_263 (C : FuncId → List Value → Hp → (Value → Hp → Prop) → Prop) (s : ByteArray) (h : Hp) (K : Value → Hp → Prop) : vBody Tryz.prog C pfr shp_263 Tryz.f344 (Tryz.f344.body.getD .skip) [.string s] h K = (
 ∀ (h' : Hp),
 h' = h.alloc (byteCells s) 5 →
 ∀ (h'_1 : Hp),
 h'_1 = h'.alloc [Value.int IntKind.u8 128] 5 →
 ∃ (a : Option Addr),
 ∃ (m : Nat),
 ∃ (n : Nat),
 ∃ (h'_2 : Hp),
 cappend Tryz.prog 200 200 (Value.slice (some (Addr.mk h.next 0 (some 1))) (lenS s) (lenS s)) (Value.slice (some (Addr.mk h'.next 0 none)) 1 1) h'_1 = some (Value.slice a m n, h'_2) ∧
 ∃ (I : List Value → Nat → Hp → Prop),
 (∃ (m_1 : Nat), I [Value.slice a m n] m_1 h'_2) ∧
 ∀ (a : Option Addr) (l c m : Nat) (h : Hp),
 I [Value.slice a l c] m h →
 nonzero 64 ∧
 if neI (remW (natI l) 64) 56 = true then ∀ (h' : Hp), h' = h.alloc [Value.int IntKind.u8 0] 5 → ∃ (a_3 : Option Addr), ∃ (m_1 : Nat), ∃ (n : Nat), ∃ (h'_3 : Hp), cappend Tryz.prog 200 200 (Value.slice a l c) (Value.slice (some (Addr.mk h.next 0 none)) 1 1) h' = some (Value.slice a_3 m_1 n, h'_3) ∧ ∃ (m' : Nat), lessN m' m ∧ I [Value.slice a_3 m_1 n] m' h'_3
 else
 ∃ (I : List Value → Nat → Hp → Prop),
 (∃ (m : Nat), I [Value.slice a l c, Value.int IntKind.i64 7] m h) ∧
 ∀ (a : Option Addr) (l c : Nat) (n : Int) (m : Nat) (h : Hp),
 I [Value.slice a l c, Value.int IntKind.i64 n] m h →
 if geI n 0 = true then
 nonneg (toW IntKind.u64 (mulW IntKind.i64 8 n)) ∧
 ∀ (h' : Hp),
 h' = h.alloc [Value.int IntKind.u8 (toW IntKind.u8 (shrW IntKind.u64 (mulW IntKind.u64 (toW IntKind.u64 (natI (lenS s))) 8) (toW IntKind.u64 (mulW IntKind.i64 8 n))))] 5 →
 ∃ (a_4 : Option Addr), ∃ (m_1 : Nat), ∃ (n_1 : Nat), ∃ (h'_3 : Hp), cappend Tryz.prog 200 200 (Value.slice a l c) (Value.slice (some (Addr.mk h.next 0 none)) 1 1) h' = some (Value.slice a_4 m_1 n_1, h'_3) ∧ ∃ (m' : Nat), lessN m' m ∧ I [Value.slice a_4 m_1 n_1, Value.int IntKind.i64 (subW IntKind.i64 n 1)] m' h'_3
 else K (Value.slice a l c) h) := by kernel_rfl

def shp_264 : Nat → List (Tmp × TypeId) := fun i => if i = 3 then [(7, 64), (8, 3)] else if i = 7 then [(7, 64), (9, 3)] else if i = 15 then [(12, 64), (13, 3)] else if i = 25 then [(19, 64), (20, 3)] else []
theorem vc_264 (C : FuncId → List Value → Hp → (Value → Hp → Prop) → Prop) (a0 a1 a2 : Option Addr) (l0 c0 l1 c1 l2 c2 : Nat) (h : Hp) (K : Value → Hp → Prop) : vBody Tryz.prog C pfr shp_264 Tryz.f345 (Tryz.f345.body.getD .skip) [.slice a0 l0 c0, .slice a1 l1 c1, .slice a2 l2 c2] h K = (
 ∃ (I : List Value → Nat → Hp → Prop),
 (∃ (m : Nat), I [Value.slice none 0 0, Value.int IntKind.i64 0] m h) ∧
 ∀ (a : Option Addr) (l c : Nat) (n : Int) (m : Nat) (h : Hp),
 I [Value.slice a l c, Value.int IntKind.i64 n] m h →
 if ltI n 16 = true then
 (a2.isSome = true ∧ inR (mulW IntKind.i64 4 n) l2) ∧
 ∃ (n_1 : Int),
 (plainA (some (Addr.mk (blk a2) (plusI (off a2) (mulW IntKind.i64 4 n) 1) none)) = true ∧ h.cellsAt (blk a2) (plusI (off a2) (mulW IntKind.i64 4 n) 1) 1 = some [Value.int IntKind.u8 n_1]) ∧
 nonneg 24 ∧
 (a2.isSome = true ∧ inR (addW IntKind.i64 (mulW IntKind.i64 4 n) 1) l2) ∧
 ∃ (n_2 : Int),
 (plainA (some (Addr.mk (blk a2) (plusI (off a2) (addW IntKind.i64 (mulW IntKind.i64 4 n) 1) 1) none)) = true ∧ h.cellsAt (blk a2) (plusI (off a2) (addW IntKind.i64 (mulW IntKind.i64 4 n) 1) 1) 1 = some [Value.int IntKind.u8 n_2]) ∧
 nonneg 16 ∧
 (a2.isSome = true ∧ inR (addW IntKind.i64 (mulW IntKind.i64 4 n) 2) l2) ∧
 ∃ (n_3 : Int),
 (plainA (some (Addr.mk (blk a2) (plusI (off a2) (addW IntKind.i64 (mulW IntKind.i64 4 n) 2) 1) none)) = true ∧ h.cellsAt (blk a2) (plusI (off a2) (addW IntKind.i64 (mulW IntKind.i64 4 n) 2) 1) 1 = some [Value.int IntKind.u8 n_3]) ∧
 nonneg 8 ∧
 (a2.isSome = true ∧ inR (addW IntKind.i64 (mulW IntKind.i64 4 n) 3) l2) ∧
 ∃ (n_4 : Int),
 (plainA (some (Addr.mk (blk a2) (plusI (off a2) (addW IntKind.i64 (mulW IntKind.i64 4 n) 3) 1) none)) = true ∧ h.cellsAt (blk a2) (plusI (off a2) (addW IntKind.i64 (mulW IntKind.i64 4 n) 3) 1) 1 = some [Value.int IntKind.u8 n_4]) ∧
 ∀ (h' : Hp),
 h' = h.alloc [Value.int IntKind.u32 (orW IntKind.u32 (orW IntKind.u32 (orW IntKind.u32 (shlW IntKind.u32 (toW IntKind.u32 n_1) 24) (shlW IntKind.u32 (toW IntKind.u32 n_2) 16)) (shlW IntKind.u32 (toW IntKind.u32 n_3) 8)) (toW IntKind.u32 n_4))] 60 →
 ∃ (a_3 : Option Addr), ∃ (m_1 : Nat), ∃ (n_5 : Nat), ∃ (h'_1 : Hp), cappend Tryz.prog 64 64 (Value.slice a l c) (Value.slice (some (Addr.mk h.next 0 none)) 1 1) h' = some (Value.slice a_3 m_1 n_5, h'_1) ∧ ∃ (m' : Nat), lessN m' m ∧ I [Value.slice a_3 m_1 n_5, Value.int IntKind.i64 (addW IntKind.i64 n 1)] m' h'_1
 else
 ∃ (I : List Value → Nat → Hp → Prop),
 (∃ (m : Nat), I [Value.slice a l c, Value.int IntKind.i64 16] m h) ∧
 ∀ (a : Option Addr) (l c : Nat) (n : Int) (m : Nat) (h : Hp),
 I [Value.slice a l c, Value.int IntKind.i64 n] m h →
 if ltI n 64 = true then
 (a.isSome = true ∧ inR (subW IntKind.i64 n 15) l) ∧
 ∃ (n_1 : Int),
 (plainA (some (Addr.mk (blk a) (plusI (off a) (subW IntKind.i64 n 15) 1) none)) = true ∧ h.cellsAt (blk a) (plusI (off a) (subW IntKind.i64 n 15) 1) 1 = some [Value.int IntKind.u32 n_1]) ∧
 (a.isSome = true ∧ inR (subW IntKind.i64 n 15) l) ∧
 ∃ (n_2 : Int),
 (plainA (some (Addr.mk (blk a) (plusI (off a) (subW IntKind.i64 n 15) 1) none)) = true ∧ h.cellsAt (blk a) (plusI (off a) (subW IntKind.i64 n 15) 1) 1 = some [Value.int IntKind.u32 n_2]) ∧
 (a.isSome = true ∧ inR (subW IntKind.i64 n 15) l) ∧
 ∃ (n_3 : Int),
 (plainA (some (Addr.mk (blk a) (plusI (off a) (subW IntKind.i64 n 15) 1) none)) = true ∧ h.cellsAt (blk a) (plusI (off a) (subW IntKind.i64 n 15) 1) 1 = some [Value.int IntKind.u32 n_3]) ∧
 nonneg 3 ∧
 C 357 [Value.int IntKind.u32 n_1, Value.int IntKind.i64 7] h fun (v : Value) (h' : Hp) =>
 ∃ (n_4 : Int),
 v = Value.int IntKind.u32 n_4 ∧
 (plainA (some (Addr.mk (blk a) (plusI (off a) (subW IntKind.i64 n 15) 1) none)) = true ∧ h'.cellsAt (blk a) (plusI (off a) (subW IntKind.i64 n 15) 1) 1 = some [Value.int IntKind.u32 n_3]) ∧
 (plainA (some (Addr.mk (blk a) (plusI (off a) (subW IntKind.i64 n 15) 1) none)) = true ∧ h'.cellsAt (blk a) (plusI (off a) (subW IntKind.i64 n 15) 1) 1 = some [Value.int IntKind.u32 n_2]) ∧
 C 357 [Value.int IntKind.u32 n_2, Value.int IntKind.i64 18] h' fun (v : Value) (h' : Hp) =>
 ∃ (n_5 : Int),
 v = Value.int IntKind.u32 n_5 ∧
 (plainA (some (Addr.mk (blk a) (plusI (off a) (subW IntKind.i64 n 15) 1) none)) = true ∧ h'.cellsAt (blk a) (plusI (off a) (subW IntKind.i64 n 15) 1) 1 = some [Value.int IntKind.u32 n_3]) ∧
 (a.isSome = true ∧ inR (subW IntKind.i64 n 2) l) ∧
 ∃ (n_6 : Int),
 (plainA (some (Addr.mk (blk a) (plusI (off a) (subW IntKind.i64 n 2) 1) none)) = true ∧ h'.cellsAt (blk a) (plusI (off a) (subW IntKind.i64 n 2) 1) 1 = some [Value.int IntKind.u32 n_6]) ∧
 (a.isSome = true ∧ inR (subW IntKind.i64 n 2) l) ∧
 ∃ (n_7 : Int),
 (plainA (some (Addr.mk (blk a) (plusI (off a) (subW IntKind.i64 n 2) 1) none)) = true ∧ h'.cellsAt (blk a) (plusI (off a) (subW IntKind.i64 n 2) 1) 1 = some [Value.int IntKind.u32 n_7]) ∧
 (a.isSome = true ∧ inR (subW IntKind.i64 n 2) l) ∧
 ∃ (n_8 : Int),
 (plainA (some (Addr.mk (blk a) (plusI (off a) (subW IntKind.i64 n 2) 1) none)) = true ∧ h'.cellsAt (blk a) (plusI (off a) (subW IntKind.i64 n 2) 1) 1 = some [Value.int IntKind.u32 n_8]) ∧
 nonneg 10 ∧
 C 357 [Value.int IntKind.u32 n_6, Value.int IntKind.i64 17] h' fun (v : Value) (h' : Hp) =>
 ∃ (n_9 : Int),
 v = Value.int IntKind.u32 n_9 ∧
 (plainA (some (Addr.mk (blk a) (plusI (off a) (subW IntKind.i64 n 2) 1) none)) = true ∧ h'.cellsAt (blk a) (plusI (off a) (subW IntKind.i64 n 2) 1) 1 = some [Value.int IntKind.u32 n_8]) ∧
 (plainA (some (Addr.mk (blk a) (plusI (off a) (subW IntKind.i64 n 2) 1) none)) = true ∧ h'.cellsAt (blk a) (plusI (off a) (subW IntKind.i64 n 2) 1) 1 = some [Value.int IntKind.u32 n_7]) ∧
 C 357 [Value.int IntKind.u32 n_7, Value.int IntKind.i64 19] h' fun (v : Value) (h' : Hp) =>
 ∃ (n_10 : Int),
 v = Value.int IntKind.u32 n_10 ∧
 (plainA (some (Addr.mk (blk a) (plusI (off a) (subW IntKind.i64 n 2) 1) none)) = true ∧ h'.cellsAt (blk a) (plusI (off a) (subW IntKind.i64 n 2) 1) 1 = some [Value.int IntKind.u32 n_8]) ∧
 (a.isSome = true ∧ inR (subW IntKind.i64 n 16) l) ∧
 ∃ (n_11 : Int),
 (plainA (some (Addr.mk (blk a) (plusI (off a) (subW IntKind.i64 n 16) 1) none)) = true ∧ h'.cellsAt (blk a) (plusI (off a) (subW IntKind.i64 n 16) 1) 1 = some [Value.int IntKind.u32 n_11]) ∧
 (a.isSome = true ∧ inR (subW IntKind.i64 n 7) l) ∧
 ∃ (n_12 : Int),
 (plainA (some (Addr.mk (blk a) (plusI (off a) (subW IntKind.i64 n 7) 1) none)) = true ∧ h'.cellsAt (blk a) (plusI (off a) (subW IntKind.i64 n 7) 1) 1 = some [Value.int IntKind.u32 n_12]) ∧
 ∀ (h'_1 : Hp),
 h'_1 = h'.alloc [Value.int IntKind.u32 (addW IntKind.u32 (addW IntKind.u32 (addW IntKind.u32 n_11 (xorW IntKind.u32 (xorW IntKind.u32 n_4 n_5) (shrW IntKind.u32 n_3 3))) n_12) (xorW IntKind.u32 (xorW IntKind.u32 n_9 n_10) (shrW IntKind.u32 n_8 10)))] 60 →
 ∃ (a_4 : Option Addr),
 ∃ (m_1 : Nat),
 ∃ (n_13 : Nat), ∃ (h'_2 : Hp), cappend Tryz.prog 64 64 (Value.slice a l c) (Value.slice (some (Addr.mk h'.next 0 none)) 1 1) h'_1 = some (Value.slice a_4 m_1 n_13, h'_2) ∧ ∃ (m' : Nat), lessN m' m ∧ I [Value.slice a_4 m_1 n_13, Value.int IntKind.i64 (addW IntKind.i64 n 1)] m' h'_2
 else
 ∃ (a_3 : Option Addr),
 ∃ (m : Nat),
 ∃ (n : Nat),
 ∃ (h' : Hp),
 cappend Tryz.prog 64 64 (Value.slice none 0 0) (Value.slice a0 l0 c0) h = some (Value.slice a_3 m n, h') ∧
 ∃ (I : List Value → Nat → Hp → Prop),
 (∃ (m_1 : Nat), I [Value.slice a_3 m n, Value.int IntKind.i64 0] m_1 h') ∧
 ∀ (a_4 : Option Addr) (l_1 c : Nat) (n : Int) (m : Nat) (h : Hp),
 I [Value.slice a_4 l_1 c, Value.int IntKind.i64 n] m h →
 if ltI n 64 = true then
 (a_4.isSome = true ∧ inR 4 l_1) ∧
 ∃ (n_1 : Int),
 (plainA (some (Addr.mk (blk a_4) (plusI (off a_4) 4 1) none)) = true ∧ h.cellsAt (blk a_4) (plusI (off a_4) 4 1) 1 = some [Value.int IntKind.u32 n_1]) ∧
 (a_4.isSome = true ∧ inR 4 l_1) ∧
 ∃ (n_2 : Int),
 (plainA (some (Addr.mk (blk a_4) (plusI (off a_4) 4 1) none)) = true ∧ h.cellsAt (blk a_4) (plusI (off a_4) 4 1) 1 = some [Value.int IntKind.u32 n_2]) ∧
 (a_4.isSome = true ∧ inR 4 l_1) ∧
 ∃ (n_3 : Int),
 (plainA (some (Addr.mk (blk a_4) (plusI (off a_4) 4 1) none)) = true ∧ h.cellsAt (blk a_4) (plusI (off a_4) 4 1) 1 = some [Value.int IntKind.u32 n_3]) ∧
 C 357 [Value.int IntKind.u32 n_1, Value.int IntKind.i64 6] h fun (v : Value) (h' : Hp) =>
 ∃ (n_4 : Int),
 v = Value.int IntKind.u32 n_4 ∧
 (plainA (some (Addr.mk (blk a_4) (plusI (off a_4) 4 1) none)) = true ∧ h'.cellsAt (blk a_4) (plusI (off a_4) 4 1) 1 = some [Value.int IntKind.u32 n_3]) ∧
 (plainA (some (Addr.mk (blk a_4) (plusI (off a_4) 4 1) none)) = true ∧ h'.cellsAt (blk a_4) (plusI (off a_4) 4 1) 1 = some [Value.int IntKind.u32 n_2]) ∧
 C 357 [Value.int IntKind.u32 n_2, Value.int IntKind.i64 11] h' fun (v : Value) (h' : Hp) =>
 ∃ (n_5 : Int),
 v = Value.int IntKind.u32 n_5 ∧
 (plainA (some (Addr.mk (blk a_4) (plusI (off a_4) 4 1) none)) = true ∧ h'.cellsAt (blk a_4) (plusI (off a_4) 4 1) 1 = some [Value.int IntKind.u32 n_3]) ∧
 C 357 [Value.int IntKind.u32 n_3, Value.int IntKind.i64 25] h' fun (v : Value) (h' : Hp) =>
 ∃ (n_6 : Int),
 v = Value.int IntKind.u32 n_6 ∧
 (a_4.isSome = true ∧ inR 4 l_1) ∧
 ∃ (n_7 : Int),
 (plainA (some (Addr.mk (blk a_4) (plusI (off a_4) 4 1) none)) = true ∧ h'.cellsAt (blk a_4) (plusI (off a_4) 4 1) 1 = some [Value.int IntKind.u32 n_7]) ∧
 (a_4.isSome = true ∧ inR 5 l_1) ∧
 ∃ (n_8 : Int),
 (plainA (some (Addr.mk (blk a_4) (plusI (off a_4) 5 1) none)) = true ∧ h'.cellsAt (blk a_4) (plusI (off a_4) 5 1) 1 = some [Value.int IntKind.u32 n_8]) ∧
 (a_4.isSome = true ∧ inR 4 l_1) ∧
 ∃ (n_9 : Int),
 (plainA (some (Addr.mk (blk a_4) (plusI (off a_4) 4 1) none)) = true ∧ h'.cellsAt (blk a_4) (plusI (off a_4) 4 1) 1 = some [Value.int IntKind.u32 n_9]) ∧
 (a_4.isSome = true ∧ inR 6 l_1) ∧
 ∃ (n_10 : Int),
 (plainA (some (Addr.mk (blk a_4) (plusI (off a_4) 6 1) none)) = true ∧ h'.cellsAt (blk a_4) (plusI (off a_4) 6 1) 1 = some [Value.int IntKind.u32 n_10]) ∧
 (a_4.isSome = true ∧ inR 7 l_1) ∧
 ∃ (n_11 : Int),
 (plainA (some (Addr.mk (blk a_4) (plusI (off a_4) 7 1) none)) = true ∧ h'.cellsAt (blk a_4) (plusI (off a_4) 7 1) 1 = some [Value.int IntKind.u32 n_11]) ∧
 (a1.isSome = true ∧ inR n l1) ∧
 ∃ (n_12 : Int),
 (plainA (some (Addr.mk (blk a1) (plusI (off a1) n 1) none)) = true ∧ h'.cellsAt (blk a1) (plusI (off a1) n 1) 1 = some [Value.int IntKind.u32 n_12]) ∧
 (a.isSome = true ∧ inR n l) ∧
 ∃ (n_13 : Int),
 (plainA (some (Addr.mk (blk a) (plusI (off a) n 1) none)) = true ∧ h'.cellsAt (blk a) (plusI (off a) n 1) 1 = some [Value.int IntKind.u32 n_13]) ∧
 (a_4.isSome = true ∧ inR 0 l_1) ∧
 ∃ (n_14 : Int),
 (plainA (some (Addr.mk (blk a_4) (plusI (off a_4) 0 1) none)) = true ∧ h'.cellsAt (blk a_4) (plusI (off a_4) 0 1) 1 = some [Value.int IntKind.u32 n_14]) ∧
 (a_4.isSome = true ∧ inR 0 l_1) ∧
 ∃ (n_15 : Int),
 (plainA (some (Addr.mk (blk a_4) (plusI (off a_4) 0 1) none)) = true ∧ h'.cellsAt (blk a_4) (plusI (off a_4) 0 1) 1 = some [Value.int IntKind.u32 n_15]) ∧
 (a_4.isSome = true ∧ inR 0 l_1) ∧
 ∃ (n_16 : Int),
 (plainA (some (Addr.mk (blk a_4) (plusI (off a_4) 0 1) none)) = true ∧ h'.cellsAt (blk a_4) (plusI (off a_4) 0 1) 1 = some [Value.int IntKind.u32 n_16]) ∧
 C 357 [Value.int IntKind.u32 n_14, Value.int IntKind.i64 2] h' fun (v : Value) (h' : Hp) =>
 ∃ (n_17 : Int),
 v = Value.int IntKind.u32 n_17 ∧
 (plainA (some (Addr.mk (blk a_4) (plusI (off a_4) 0 1) none)) = true ∧ h'.cellsAt (blk a_4) (plusI (off a_4) 0 1) 1 = some [Value.int IntKind.u32 n_16]) ∧
 (plainA (some (Addr.mk (blk a_4) (plusI (off a_4) 0 1) none)) = true ∧ h'.cellsAt (blk a_4) (plusI (off a_4) 0 1) 1 = some [Value.int IntKind.u32 n_15]) ∧
 C 357 [Value.int IntKind.u32 n_15, Value.int IntKind.i64 13] h' fun (v : Value) (h' : Hp) =>
 ∃ (n_18 : Int),
 v = Value.int IntKind.u32 n_18 ∧
 (plainA (some (Addr.mk (blk a_4) (plusI (off a_4) 0 1) none)) = true ∧ h'.cellsAt (blk a_4) (plusI (off a_4) 0 1) 1 = some [Value.int IntKind.u32 n_16]) ∧
 C 357 [Value.int IntKind.u32 n_16, Value.int IntKind.i64 22] h' fun (v : Value) (h' : Hp) =>
 ∃ (n_19 : Int),
 v = Value.int IntKind.u32 n_19 ∧
 (a_4.isSome = true ∧ inR 0 l_1) ∧
 ∃ (n_20 : Int),
 (plainA (some (Addr.mk (blk a_4) (plusI (off a_4) 0 1) none)) = true ∧ h'.cellsAt (blk a_4) (plusI (off a_4) 0 1) 1 = some [Value.int IntKind.u32 n_20]) ∧
 (a_4.isSome = true ∧ inR 1 l_1) ∧
 ∃ (n_21 : Int),
 (plainA (some (Addr.mk (blk a_4) (plusI (off a_4) 1 1) none)) = true ∧ h'.cellsAt (blk a_4) (plusI (off a_4) 1 1) 1 = some [Value.int IntKind.u32 n_21]) ∧
 (a_4.isSome = true ∧ inR 0 l_1) ∧
 ∃ (n_22 : Int),
 (plainA (some (Addr.mk (blk a_4) (plusI (off a_4) 0 1) none)) = true ∧ h'.cellsAt (blk a_4) (plusI (off a_4) 0 1) 1 = some [Value.int IntKind.u32 n_22]) ∧
 (a_4.isSome = true ∧ inR 2 l_1) ∧
 ∃ (n_23 : Int),
 (plainA (some (Addr.mk (blk a_4) (plusI (off a_4) 2 1) none)) = true ∧ h'.cellsAt (blk a_4) (plusI (off a_4) 2 1) 1 = some [Value.int IntKind.u32 n_23]) ∧
 (a_4.isSome = true ∧ inR 1 l_1) ∧
 ∃ (n_24 : Int),
 (plainA (some (Addr.mk (blk a_4) (plusI (off a_4) 1 1) none)) = true ∧ h'.cellsAt (blk a_4) (plusI (off a_4) 1 1) 1 = some [Value.int IntKind.u32 n_24]) ∧
 (a_4.isSome = true ∧ inR 2 l_1) ∧
 ∃ (n_25 : Int),
 (plainA (some (Addr.mk (blk a_4) (plusI (off a_4) 2 1) none)) = true ∧ h'.cellsAt (blk a_4) (plusI (off a_4) 2 1) 1 = some [Value.int IntKind.u32 n_25]) ∧
 (a_4.isSome = true ∧ inR 0 l_1) ∧
 ∃ (n_26 : Int),
 (plainA (some (Addr.mk (blk a_4) (plusI (off a_4) 0 1) none)) = true ∧ h'.cellsAt (blk a_4) (plusI (off a_4) 0 1) 1 = some [Value.int IntKind.u32 n_26]) ∧
 (a_4.isSome = true ∧ inR 1 l_1) ∧
 ∃ (n_27 : Int),
 (plainA (some (Addr.mk (blk a_4) (plusI (off a_4) 1 1) none)) = true ∧ h'.cellsAt (blk a_4) (plusI (off a_4) 1 1) 1 = some [Value.int IntKind.u32 n_27]) ∧
 (a_4.isSome = true ∧ inR 2 l_1) ∧
 ∃ (n_28 : Int),
 (plainA (some (Addr.mk (blk a_4) (plusI (off a_4) 2 1) none)) = true ∧ h'.cellsAt (blk a_4) (plusI (off a_4) 2 1) 1 = some [Value.int IntKind.u32 n_28]) ∧
 (a_4.isSome = true ∧ inR 3 l_1) ∧
 ∃ (n_29 : Int),
 (plainA (some (Addr.mk (blk a_4) (plusI (off a_4) 3 1) none)) = true ∧ h'.cellsAt (blk a_4) (plusI (off a_4) 3 1) 1 = some [Value.int IntKind.u32 n_29]) ∧
 (a_4.isSome = true ∧ inR 4 l_1) ∧
 ∃ (n_30 : Int),
 (plainA (some (Addr.mk (blk a_4) (plusI (off a_4) 4 1) none)) = true ∧ h'.cellsAt (blk a_4) (plusI (off a_4) 4 1) 1 = some [Value.int IntKind.u32 n_30]) ∧
 (a_4.isSome = true ∧ inR 5 l_1) ∧
 ∃ (n_31 : Int),
 (plainA (some (Addr.mk (blk a_4) (plusI (off a_4) 5 1) none)) = true ∧ h'.cellsAt (blk a_4) (plusI (off a_4) 5 1) 1 = some [Value.int IntKind.u32 n_31]) ∧
 (a_4.isSome = true ∧ inR 6 l_1) ∧
 ∃ (n_32 : Int),
 (plainA (some (Addr.mk (blk a_4) (plusI (off a_4) 6 1) none)) = true ∧ h'.cellsAt (blk a_4) (plusI (off a_4) 6 1) 1 = some [Value.int IntKind.u32 n_32]) ∧
 ∀ (h'_1 : Hp),
 h'_1 =
 h'.alloc
 [Value.int IntKind.u32
 (addW IntKind.u32
 (addW IntKind.u32
 (addW IntKind.u32
 (addW IntKind.u32
 (addW IntKind.u32 (addW IntKind.u32 n_11 (xorW IntKind.u32 (xorW IntKind.u32 n_4 n_5) n_6))
 (xorW IntKind.u32 (andW IntKind.u32 n_7 n_8) (andW IntKind.u32 (comW IntKind.u32 n_9) n_10)))
 n_12)
 n_13)
 (xorW IntKind.u32 (xorW IntKind.u32 n_17 n_18) n_19))
 (xorW IntKind.u32 (xorW IntKind.u32 (andW IntKind.u32 n_20 n_21) (andW IntKind.u32 n_22 n_23)) (andW IntKind.u32 n_24 n_25))),
 Value.int IntKind.u32 n_26, Value.int IntKind.u32 n_27, Value.int IntKind.u32 n_28,
 Value.int IntKind.u32
 (addW IntKind.u32 n_29
 (addW IntKind.u32
 (addW IntKind.u32
 (addW IntKind.u32 (addW IntKind.u32 n_11 (xorW IntKind.u32 (xorW IntKind.u32 n_4 n_5) n_6))
 (xorW IntKind.u32 (andW IntKind.u32 n_7 n_8) (andW IntKind.u32 (comW IntKind.u32 n_9) n_10)))
 n_12)
 n_13)),
 Value.int IntKind.u32 n_30, Value.int IntKind.u32 n_31, Value.int IntKind.u32 n_32]
 60 →
 ∃ (m' : Nat), lessN m' m ∧ I [Value.slice (some (Addr.mk h'.next 0 none)) 8 8, Value.int IntKind.i64 (addW IntKind.i64 n 1)] m' h'_1
 else
 ∃ (I : List Value → Nat → Hp → Prop),
 (∃ (m : Nat), I [Value.slice none 0 0, Value.int IntKind.i64 0] m h) ∧
 ∀ (a : Option Addr) (l c : Nat) (n : Int) (m : Nat) (h : Hp),
 I [Value.slice a l c, Value.int IntKind.i64 n] m h →
 if ltI n 8 = true then
 (a0.isSome = true ∧ inR n l0) ∧
 ∃ (n_1 : Int),
 (plainA (some (Addr.mk (blk a0) (plusI (off a0) n 1) none)) = true ∧ h.cellsAt (blk a0) (plusI (off a0) n 1) 1 = some [Value.int IntKind.u32 n_1]) ∧
 (a_4.isSome = true ∧ inR n l_1) ∧
 ∃ (n_2 : Int),
 (plainA (some (Addr.mk (blk a_4) (plusI (off a_4) n 1) none)) = true ∧ h.cellsAt (blk a_4) (plusI (off a_4) n 1) 1 = some [Value.int IntKind.u32 n_2]) ∧
 ∀ (h' : Hp),
 h' = h.alloc [Value.int IntKind.u32 (addW IntKind.u32 n_1 n_2)] 60 →
 ∃ (a_8 : Option Addr), ∃ (m_1 : Nat), ∃ (n_3 : Nat), ∃ (h'_1 : Hp), cappend Tryz.prog 64 64 (Value.slice a l c) (Value.slice (some (Addr.mk h.next 0 none)) 1 1) h' = some (Value.slice a_8 m_1 n_3, h'_1) ∧ ∃ (m' : Nat), lessN m' m ∧ I [Value.slice a_8 m_1 n_3, Value.int IntKind.i64 (addW IntKind.i64 n 1)] m' h'_1
 else K (Value.slice a l c) h) := by kernel_rfl

def shp_255 : Nat → List (Tmp × TypeId) := fun i => if i = 4 then [(6, 64), (7, 3)] else if i = 9 then [(9, 3)] else []
theorem vc_255 (C : FuncId → List Value → Hp → (Value → Hp → Prop) → Prop) (a0 a1 : Option Addr) (l0 c0 l1 c1 : Nat) (s : ByteArray) (h : Hp) (K : Value → Hp → Prop) : vBody Tryz.prog C pfr shp_255 Tryz.f317 (Tryz.f317.body.getD .skip) [.agg (Array.mk [.slice a0 l0 c0, .slice a1 l1 c1]), .string s] h K = (
 ∀ (h' : Hp),
 h' = h.alloc [Value.slice a0 l0 c0, Value.slice a1 l1 c1] 441 →
 ∀ (h'_1 : Hp),
 h'_1 =
 h'.alloc
 [Value.int IntKind.u8 (Int.ofNat 0), Value.int IntKind.u8 (Int.ofNat 0), Value.int IntKind.u8 (Int.ofNat 0), Value.int IntKind.u8 (Int.ofNat 0), Value.int IntKind.u8 (Int.ofNat 0), Value.int IntKind.u8 (Int.ofNat 0), Value.int IntKind.u8 (Int.ofNat 0), Value.int IntKind.u8 (Int.ofNat 0), Value.int IntKind.u8 (Int.ofNat 0), Value.int IntKind.u8 (Int.ofNat 0),
 Value.int IntKind.u8 (Int.ofNat 0), Value.int IntKind.u8 (Int.ofNat 0), Value.int IntKind.u8 (Int.ofNat 0), Value.int IntKind.u8 (Int.ofNat 0), Value.int IntKind.u8 (Int.ofNat 0), Value.int IntKind.u8 (Int.ofNat 0), Value.int IntKind.u8 (Int.ofNat 0), Value.int IntKind.u8 (Int.ofNat 0), Value.int IntKind.u8 (Int.ofNat 0), Value.int IntKind.u8 (Int.ofNat 0),
 Value.int IntKind.u8 (Int.ofNat 0), Value.int IntKind.u8 (Int.ofNat 0), Value.int IntKind.u8 (Int.ofNat 0), Value.int IntKind.u8 (Int.ofNat 0), Value.int IntKind.u8 (Int.ofNat 0), Value.int IntKind.u8 (Int.ofNat 0), Value.int IntKind.u8 (Int.ofNat 0), Value.int IntKind.u8 (Int.ofNat 0), Value.int IntKind.u8 (Int.ofNat 0), Value.int IntKind.u8 (Int.ofNat 0),
 Value.int IntKind.u8 (Int.ofNat 0), Value.int IntKind.u8 (Int.ofNat 0)]
 38 →
 C 344 [Value.string s] h'_1 fun (v : Value) (h'_2 : Hp) =>
 ∃ (a : Option Addr),
 ∃ (l : Nat),
 ∃ (c : Nat),
 v = Value.slice a l c ∧
 plainA (some (Addr.mk h.next 0 none)) = true ∧
 ∃ (a_1 : Option Addr),
 ∃ (l_1 : Nat),
 ∃ (c_1 : Nat),
 (plainA (some (Addr.mk h.next 0 none)) = true ∧ h'_2.cellsAt h.next 0 1 = some [Value.slice a_1 l_1 c_1]) ∧
 ∃ (I : List Value → Nat → Hp → Prop),
 (∃ (m : Nat), I [Value.slice a_1 l_1 c_1, Value.int IntKind.i64 0] m h'_2) ∧
 ∀ (a_2 : Option Addr) (l_2 c_2 : Nat) (n : Int) (m : Nat) (h_1 : Hp),
 I [Value.slice a_2 l_2 c_2, Value.int IntKind.i64 n] m h_1 →
 if ltI n (natI l) = true then
 plainA (some (Addr.mk h.next 0 none)) = true ∧
 ∃ (a_4 : Option Addr),
 ∃ (l : Nat),
 ∃ (c_3 : Nat),
 (plainA (some (Addr.mk h.next 1 none)) = true ∧ h_1.cellsAt h.next 1 1 = some [Value.slice a_4 l c_3]) ∧
 (cutOk n (addW IntKind.i64 n 64) (natI c) (natI c) ∧ spotOk 1 a) ∧
 C 345 [Value.slice a_2 l_2 c_2, Value.slice a_4 l c_3, Value.slice (cutA n 1 a) (diffN (addW IntKind.i64 n 64) n) (diffN (natI c) n)] h_1 fun (v : Value) (h' : Hp) => ∃ (a : Option Addr), ∃ (l : Nat), ∃ (c : Nat), v = Value.slice a l c ∧ ∃ (m' : Nat), lessN m' m ∧ I [Value.slice a l c, Value.int IntKind.i64 (addW IntKind.i64 n 64)] m' h'
 else
 ∀ (h'_3 : Hp),
 h'_3 =
 h_1.alloc
 [Value.int IntKind.u8 (Int.ofNat 0), Value.int IntKind.u8 (Int.ofNat 0), Value.int IntKind.u8 (Int.ofNat 0), Value.int IntKind.u8 (Int.ofNat 0), Value.int IntKind.u8 (Int.ofNat 0), Value.int IntKind.u8 (Int.ofNat 0), Value.int IntKind.u8 (Int.ofNat 0), Value.int IntKind.u8 (Int.ofNat 0), Value.int IntKind.u8 (Int.ofNat 0),
 Value.int IntKind.u8 (Int.ofNat 0), Value.int IntKind.u8 (Int.ofNat 0), Value.int IntKind.u8 (Int.ofNat 0), Value.int IntKind.u8 (Int.ofNat 0), Value.int IntKind.u8 (Int.ofNat 0), Value.int IntKind.u8 (Int.ofNat 0), Value.int IntKind.u8 (Int.ofNat 0), Value.int IntKind.u8 (Int.ofNat 0), Value.int IntKind.u8 (Int.ofNat 0),
 Value.int IntKind.u8 (Int.ofNat 0), Value.int IntKind.u8 (Int.ofNat 0), Value.int IntKind.u8 (Int.ofNat 0), Value.int IntKind.u8 (Int.ofNat 0), Value.int IntKind.u8 (Int.ofNat 0), Value.int IntKind.u8 (Int.ofNat 0), Value.int IntKind.u8 (Int.ofNat 0), Value.int IntKind.u8 (Int.ofNat 0), Value.int IntKind.u8 (Int.ofNat 0),
 Value.int IntKind.u8 (Int.ofNat 0), Value.int IntKind.u8 (Int.ofNat 0), Value.int IntKind.u8 (Int.ofNat 0), Value.int IntKind.u8 (Int.ofNat 0), Value.int IntKind.u8 (Int.ofNat 0)]
 38 →
 ∃ (I : List Value → Nat → Hp → Prop),
 (∃ (m : Nat), I [Value.int IntKind.i64 0] m h'_3) ∧
 ∀ (n : Int) (m : Nat) (h : Hp),
 I [Value.int IntKind.i64 n] m h →
 if ltI n 32 = true then
 nonzero 4 ∧
 (a_2.isSome = true ∧ inR (quoW IntKind.i64 n 4) l_2) ∧
 ∃ (n_1 : Int),
 (plainA (some (Addr.mk (blk a_2) (plusI (off a_2) (quoW IntKind.i64 n 4) 1) none)) = true ∧ h.cellsAt (blk a_2) (plusI (off a_2) (quoW IntKind.i64 n 4) 1) 1 = some [Value.int IntKind.u32 n_1]) ∧
 nonzero 4 ∧
 nonneg (toW IntKind.u64 (subW IntKind.i64 24 (mulW IntKind.i64 8 (remW n 4)))) ∧
 (plainA (some (Addr.mk h_1.next 0 none)) = true ∧ inR n 32) ∧
 plainA (some (Addr.mk h_1.next (plusI 0 n 1) none)) = true ∧ ∃ (h' : Hp), h.store h_1.next (plusI 0 n 1) [Value.int IntKind.u8 (toW IntKind.u8 (shrW IntKind.u32 n_1 (toW IntKind.u64 (subW IntKind.i64 24 (mulW IntKind.i64 8 (remW n 4))))))] = some h' ∧ ∃ (m' : Nat), lessN m' m ∧ I [Value.int IntKind.i64 (addW IntKind.i64 n 1)] m' h'
 else
 ∃ (D : Nat → Int),
 (plainA (some (Addr.mk h_1.next 0 none)) = true ∧
 h.cellsAt h_1.next 0 32 =
 some
 ((dgV .u8 32 D))) ∧
 plainA (some (Addr.mk h'.next 0 none)) = true ∧
 ∃ (h'_4 : Hp),
 h.store h'.next 0
 ((dgV .u8 32 D)) =
 some h'_4 ∧
 ∃ (D : Nat → Int),
 (plainA (some (Addr.mk h'.next 0 none)) = true ∧
 h'_4.cellsAt h'.next 0 32 =
 some
 ((dgV .u8 32 D))) ∧
 K
 (Value.agg
 (Array.mk
 ((dgV .u8 32 D))))
 h'_4) := by kernel_rfl

def shp_256 : Nat → List (Tmp × TypeId) := fun i => []
theorem vc_256 (C : FuncId → List Value → Hp → (Value → Hp → Prop) → Prop)  (h : Hp) (K : Value → Hp → Prop) : vBody Tryz.prog C pfr shp_256 Tryz.f318 (Tryz.f318.body.getD .skip) [] h K = (
 ∀ (h' : Hp),
 h' = h.alloc [Value.slice none 0 0, Value.slice none 0 0] 441 →
 ∀ (h'_1 : Hp),
 h'_1 = h'.alloc [Value.int IntKind.u32 1779033703, Value.int IntKind.u32 3144134277, Value.int IntKind.u32 1013904242, Value.int IntKind.u32 2773480762, Value.int IntKind.u32 1359893119, Value.int IntKind.u32 2600822924, Value.int IntKind.u32 528734635, Value.int IntKind.u32 1541459225] 60 →
 ∀ (h'_2 : Hp),
 h'_2 =
 h'_1.alloc
 [Value.int IntKind.u32 1116352408, Value.int IntKind.u32 1899447441, Value.int IntKind.u32 3049323471, Value.int IntKind.u32 3921009573, Value.int IntKind.u32 961987163, Value.int IntKind.u32 1508970993, Value.int IntKind.u32 2453635748, Value.int IntKind.u32 2870763221, Value.int IntKind.u32 3624381080, Value.int IntKind.u32 310598401, Value.int IntKind.u32 607225278,
 Value.int IntKind.u32 1426881987, Value.int IntKind.u32 1925078388, Value.int IntKind.u32 2162078206, Value.int IntKind.u32 2614888103, Value.int IntKind.u32 3248222580, Value.int IntKind.u32 3835390401, Value.int IntKind.u32 4022224774, Value.int IntKind.u32 264347078, Value.int IntKind.u32 604807628, Value.int IntKind.u32 770255983, Value.int IntKind.u32 1249150122,
 Value.int IntKind.u32 1555081692, Value.int IntKind.u32 1996064986, Value.int IntKind.u32 2554220882, Value.int IntKind.u32 2821834349, Value.int IntKind.u32 2952996808, Value.int IntKind.u32 3210313671, Value.int IntKind.u32 3336571891, Value.int IntKind.u32 3584528711, Value.int IntKind.u32 113926993, Value.int IntKind.u32 338241895, Value.int IntKind.u32 666307205,
 Value.int IntKind.u32 773529912, Value.int IntKind.u32 1294757372, Value.int IntKind.u32 1396182291, Value.int IntKind.u32 1695183700, Value.int IntKind.u32 1986661051, Value.int IntKind.u32 2177026350, Value.int IntKind.u32 2456956037, Value.int IntKind.u32 2730485921, Value.int IntKind.u32 2820302411, Value.int IntKind.u32 3259730800, Value.int IntKind.u32 3345764771,
 Value.int IntKind.u32 3516065817, Value.int IntKind.u32 3600352804, Value.int IntKind.u32 4094571909, Value.int IntKind.u32 275423344, Value.int IntKind.u32 430227734, Value.int IntKind.u32 506948616, Value.int IntKind.u32 659060556, Value.int IntKind.u32 883997877, Value.int IntKind.u32 958139571, Value.int IntKind.u32 1322822218, Value.int IntKind.u32 1537002063,
 Value.int IntKind.u32 1747873779, Value.int IntKind.u32 1955562222, Value.int IntKind.u32 2024104815, Value.int IntKind.u32 2227730452, Value.int IntKind.u32 2361852424, Value.int IntKind.u32 2428436474, Value.int IntKind.u32 2756734187, Value.int IntKind.u32 3204031479, Value.int IntKind.u32 3329325298]
 60 →
 plainA (some (Addr.mk h.next 0 none)) = true ∧
 ∃ (h'_3 : Hp),
 h'_2.store h.next 0 [Value.slice (some (Addr.mk h'.next 0 none)) 8 8, Value.slice (some (Addr.mk h'_1.next 0 none)) 64 64] = some h'_3 ∧
 ∃ (a : Option Addr), ∃ (l : Nat), ∃ (c : Nat), ∃ (a_1 : Option Addr), ∃ (l_1 : Nat), ∃ (c_1 : Nat), (plainA (some (Addr.mk h.next 0 none)) = true ∧ h'_3.cellsAt h.next 0 2 = some [Value.slice a l c, Value.slice a_1 l_1 c_1]) ∧ K (Value.agg (Array.mk [Value.slice a l c, Value.slice a_1 l_1 c_1])) h'_3) := by kernel_rfl

def shp_242 : Nat → List (Tmp × TypeId) := fun i => []
theorem vc_242 (C : FuncId → List Value → Hp → (Value → Hp → Prop) → Prop) (s : ByteArray) (h : Hp) (K : Value → Hp → Prop) : vBody Tryz.prog C pfr shp_242 Tryz.f284 (Tryz.f284.body.getD .skip) [.string s] h K = (
 ∀ (h' : Hp),
 h' =
 h.alloc
 [Value.int IntKind.u8 (Int.ofNat 0), Value.int IntKind.u8 (Int.ofNat 0), Value.int IntKind.u8 (Int.ofNat 0), Value.int IntKind.u8 (Int.ofNat 0), Value.int IntKind.u8 (Int.ofNat 0), Value.int IntKind.u8 (Int.ofNat 0), Value.int IntKind.u8 (Int.ofNat 0), Value.int IntKind.u8 (Int.ofNat 0), Value.int IntKind.u8 (Int.ofNat 0), Value.int IntKind.u8 (Int.ofNat 0),
 Value.int IntKind.u8 (Int.ofNat 0), Value.int IntKind.u8 (Int.ofNat 0), Value.int IntKind.u8 (Int.ofNat 0), Value.int IntKind.u8 (Int.ofNat 0), Value.int IntKind.u8 (Int.ofNat 0), Value.int IntKind.u8 (Int.ofNat 0), Value.int IntKind.u8 (Int.ofNat 0), Value.int IntKind.u8 (Int.ofNat 0), Value.int IntKind.u8 (Int.ofNat 0), Value.int IntKind.u8 (Int.ofNat 0),
 Value.int IntKind.u8 (Int.ofNat 0), Value.int IntKind.u8 (Int.ofNat 0), Value.int IntKind.u8 (Int.ofNat 0), Value.int IntKind.u8 (Int.ofNat 0), Value.int IntKind.u8 (Int.ofNat 0), Value.int IntKind.u8 (Int.ofNat 0), Value.int IntKind.u8 (Int.ofNat 0), Value.int IntKind.u8 (Int.ofNat 0), Value.int IntKind.u8 (Int.ofNat 0), Value.int IntKind.u8 (Int.ofNat 0),
 Value.int IntKind.u8 (Int.ofNat 0), Value.int IntKind.u8 (Int.ofNat 0)]
 38 →
 C 318 [] h' fun (v : Value) (h' : Hp) =>
 ∃ (a : Option Addr),
 ∃ (l : Nat),
 ∃ (c : Nat),
 ∃ (a_1 : Option Addr),
 ∃ (l_1 : Nat),
 ∃ (c_1 : Nat),
 v = Value.agg (Array.mk [Value.slice a l c, Value.slice a_1 l_1 c_1]) ∧
 C 317 [Value.agg (Array.mk [Value.slice a l c, Value.slice a_1 l_1 c_1]), Value.string s] h' fun (v : Value) (h' : Hp) =>
 ∃ (D : Nat → Int),
 v =
 Value.agg
 (Array.mk
 ((dgV .u8 32 D))) ∧
 plainA (some (Addr.mk h.next 0 none)) = true ∧
 ∃ (h'_1 : Hp),
 h'.store h.next 0
 ((dgV .u8 32 D)) =
 some h'_1 ∧
 ∃ (D : Nat → Int),
 (plainA (some (Addr.mk h.next 0 none)) = true ∧
 h'_1.cellsAt h.next 0 32 =
 some
 ((dgV .u8 32 D))) ∧
 K
 (Value.agg
 (Array.mk
 ((dgV .u8 32 D))))
 h'_1) := by kernel_rfl
end Go.Proofs.YtlodmlmlmkcpkaaGreatDoor.vc

/- The sha256 of the document: contracts of its functions. -/
set_option linter.unusedVariables false
namespace Go.Proofs.YtlodmlmlmkcpkaaGreatDoor.sb
open Go Go.Cn Go.Cn.Sha Go.Proofs Go.Proofs.YtlodmlmlmkcpkaaGreatDoor.vc
theorem c269 {x n : Nat} (hx : W32 x) (h0 : 0 < n) (h1 : n < 32) (h : Hp) : C 357 [.int .u32 x, .int .i64 n] h fun v h' => v = .int .u32 (rot n x : Nat) ∧ h' = h := by
  refine SCalls_of_vw fol (pf := pfr) (shp := shp_269) (f := 357) (fn := Tryz.f357) (by kernel_rfl) (c := Tryz.f357.body.getD .skip) (by kernel_rfl) (by kernel_rfl) fun wf => ?_
  rw [vc_269]
  have e1 : toW .u64 (n : Int) = (n : Nat) := by unfold toW; rw [wrap_u64, Nat.mod_eq_of_lt (by omega)]
  have e2 : subW .i64 32 (n : Int) = ((32 - n : Nat) : Int) := by rw [subW_small (by omega) (by omega)]; omega
  have e3 : toW .u64 ((32 - n : Nat) : Int) = ((32 - n : Nat) : Int) := by unfold toW; rw [wrap_u64, Nat.mod_eq_of_lt (by omega)]
  rw [e1, e2, e3, shrW_nat _ _ _ (show n ≤ 32 by omega), shlW_u32 _ _ (by omega), orW_u32 (hx.shr n) (.mod _)]
  exact ⟨Int.natCast_nonneg _, Int.natCast_nonneg _, rfl, rfl⟩

theorem app78 : AppT Tryz.prog 64 64 60 1 4 := AppT.of _ (by kernel_rfl)

theorem c263 (s : ByteArray) (h : Hp) (hs : s.size ≤ 1073741824) : C 344 [.string s] h fun v h' => ∃ a l, v = .slice a l l ∧ l = (pad (bytes8 s)).length ∧ Bd h' 1 (h.next ≤ ·) a l l ((pad (bytes8 s)).map u8) ∧ Kept h h' := by
  refine SCalls_of_vw fol (pf := pfr) (shp := shp_263) (f := 344) (fn := Tryz.f344) (by kernel_rfl) (c := Tryz.f344.body.getD .skip) (by kernel_rfl) (by kernel_rfl) fun wf => ?_
  rw [vc_263]
  intro h1 e1 h2 e2
  obtain ⟨b1, k1, n1, wf1⟩ := new_blk wf e1
  have hlen : (bytes8 s).length = s.size := by simp [bytes8]
  rw [byteCells_eq] at b1
  obtain ⟨a, h3, x1, x2, x3, x4⟩ := full_append1 wf1 app201 (S := (h.next ≤ ·)) (fun g hg => by omega) b1 (l := s.size) (by simp [hlen]) (Nat.le_refl _) e2 rfl rfl (roomy_of (by omega))
  refine ⟨a, s.size + 1, s.size + 1, h3, x1, ?_⟩
  have k3 : Kept h h3 := k1.trans wf x3 fun g hg hs => by omega
  refine ⟨fun vals m hh => ∃ (a : Option Addr) (j : Nat), [.slice a (s.size + 1 + j) (s.size + 1 + j)] = vals ∧ m = zeros s.size - j ∧ j ≤ zeros s.size ∧ Wf hh ∧ Kept h hh ∧ Bd hh 1 (h.next ≤ ·) a (s.size + 1 + j) (s.size + 1 + j) ((bytes8 s ++ 128 :: List.replicate j 0).map u8), ⟨zeros s.size, a, 0, rfl, rfl, Nat.zero_le _, x4, k3, by simpa [u8] using x2⟩, ?_⟩
  rintro a l c m hh ⟨a', j, e, rfl, hj, wfh, kh, bd⟩
  simp at e
  obtain ⟨rfl, rfl, rfl⟩ := e
  refine ⟨by simp [nonzero], ?_⟩
  have hz : zeros s.size < 64 := Nat.mod_lt _ (by decide)
  rw [rem64]
  by_cases hc : neI (((s.size + 1 + j) % 64 : Nat) : Int) 56 = true
  · rw [if_pos hc]
    rw [neI_iff] at hc
    have hjz : j < zeros s.size := by
      unfold zeros at *
      omega
    intro h4 e4
    obtain ⟨a2, h5, y1, y2, y3, y4⟩ := Bd.append1 wfh app201 (S := (h.next ≤ ·)) (fun g hg => by have := kh.next; omega) bd e4 rfl rfl (roomy_of (by omega))
    refine ⟨a2, _, _, h5, y1, zeros s.size - (j + 1), by simp only [lessN]; omega, a2, j + 1, rfl, rfl, by omega, y4, kh.trans wf y3 fun g hg hs => by omega, ?_⟩
    rw [List.replicate_succ']
    show Bd h5 1 (h.next ≤ ·) a2 (s.size + 1 + j + 1) (s.size + 1 + j + 1) _
    simpa [u8] using y2
  · rw [if_neg hc]
    have hc' : ((s.size + 1 + j) % 64 : Nat) = 56 := by
      by_cases hq : ((s.size + 1 + j) % 64 : Nat) = 56
      · exact hq
      · exact absurd (neI_iff.2 (by omega)) hc
    have hjz : j = zeros s.size := by
      unfold zeros at *
      omega
    subst hjz
    refine ⟨fun vals m hh => ∃ (a : Option Addr) (j : Nat), [.slice a (s.size + 1 + zeros s.size + j) (s.size + 1 + zeros s.size + j), .int .i64 (7 - (j : Int))] = vals ∧ m = 8 - j ∧ j ≤ 8 ∧ Wf hh ∧ Kept h hh ∧ Bd hh 1 (h.next ≤ ·) a (s.size + 1 + zeros s.size + j) (s.size + 1 + zeros s.size + j) ((bytes8 s ++ 128 :: (List.replicate (zeros s.size) 0 ++ (lenBytes s.size).take j)).map u8), ⟨8, a', 0, rfl, rfl, Nat.zero_le _, wfh, kh, by simpa using bd⟩, ?_⟩
    rintro a l c n m h6 ⟨a3, j, e, rfl, hj, wf6, k6, bd6⟩
    simp at e
    obtain ⟨⟨rfl, rfl, rfl⟩, rfl⟩ := e
    by_cases hg : geI (7 - (j : Int)) 0 = true
    · rw [if_pos hg]
      rw [geI_iff] at hg
      have hj8 : j < 8 := by omega
      have m1 : mulW .i64 8 (7 - (j : Int)) = ((56 - 8 * j : Nat) : Int) := by
        unfold mulW
        rw [show (8 * (7 - (j : Int))) = ((56 - 8 * j : Nat) : Int) by omega]
        have := addW_small (a := ((56 - 8 * j : Nat) : Int)) (b := 0) (by omega) (by omega)
        unfold addW at this
        simpa using this
      have m2 : toW .u64 ((56 - 8 * j : Nat) : Int) = ((56 - 8 * j : Nat) : Int) := by unfold toW; rw [wrap_u64, Nat.mod_eq_of_lt (by omega)]
      have m3 : mulW .u64 (toW .u64 (natI (lenS s))) 8 = ((s.size * 8 % 18446744073709551616 : Nat) : Int) := mul8 s.size
      rw [m1, m2, m3, shrW_nat _ _ _ (show 56 - 8 * j ≤ 64 by omega)]
      have m4 : ∀ x : Nat, toW .u8 (x : Int) = ((x % 256 : Nat) : Int) := fun x => by unfold toW; rw [wrap_u8]
      rw [m4]
      refine ⟨Int.natCast_nonneg _, ?_⟩
      have m5 := lenBytes_take s.size j hj8
      generalize (s.size * 8 % 18446744073709551616) >>> (56 - 8 * j) % 256 = bt at m5 ⊢
      clear m1 m2 m3 m4
      intro h7 e7
      obtain ⟨a2, h8, y1, y2, y3, y4⟩ := Bd.append1 wf6 app201 (S := (h.next ≤ ·)) (fun g hg => by have := k6.next; omega) bd6 e7 rfl rfl (roomy_of (by omega))
      refine ⟨a2, _, _, h8, y1, 8 - (j + 1), by simp only [lessN]; omega, a2, j + 1, ?_, rfl, by omega, y4, k6.trans wf y3 fun g hg hs => by omega, ?_⟩
      · rw [subW_small (by omega) (by omega), show (7 - (j : Int) - 1) = 7 - ((j + 1 : Nat) : Int) by omega]
        rfl
      · rw [m5]
        show Bd h8 1 (h.next ≤ ·) a2 (s.size + 1 + zeros s.size + j + 1) (s.size + 1 + zeros s.size + j + 1) _
        simpa [u8] using y2
    · rw [if_neg hg]
      have hj8 : j = 8 := by
        by_cases hq : j = 8
        · exact hq
        · exact absurd (geI_iff.2 (by omega)) hg
      subst hj8
      have hl8 : (lenBytes s.size).length = 8 := rfl
      have hp : (bytes8 s ++ 128 :: (List.replicate (zeros s.size) 0 ++ (lenBytes s.size).take 8)) = pad (bytes8 s) := by
        unfold pad
        rw [hlen, List.take_of_length_le (by rw [hl8]; omega)]
      rw [hp] at bd6
      have hpl : (pad (bytes8 s)).length = s.size + 1 + zeros s.size + 8 := by
        unfold pad
        simp only [List.length_append, List.length_cons, List.length_replicate, hlen, hl8]
        omega
      exact ⟨a3, _, rfl, hpl.symm, bd6, k6⟩

set_option maxRecDepth 4000 in
theorem c264 {h : Hp} {g0 g1 g2 : Option Nat} {a0 a1 a2 : Option Addr} {c0 c1 c2 : Nat} {hs bs : List Nat} (s0 : SL32 h g0 a0 8 c0 hs) (s1 : SL32 h g1 a1 64 c1 K) (s2 : SL8 h g2 a2 64 c2 bs) (hb : ∀ b ∈ bs, b < 256) (hw : ∀ w ∈ hs, W32 w) :
    C 345 [.slice a0 8 c0, .slice a1 64 c1, .slice a2 64 c2] h fun v h' => ∃ a, v = .slice a 8 8 ∧ Bd h' 1 (h.next ≤ ·) a 8 8 ((block hs bs).map u32) ∧ Kept h h' := by
  refine SCalls_of_vw fol (pf := pfr) (shp := shp_264) (f := 345) (fn := Tryz.f345) (by kernel_rfl) (c := Tryz.f345.body.getD .skip) (by kernel_rfl) (by kernel_rfl) fun wf => ?_
  rw [vc_264]
  have hbl : bs.length = 64 := s2.len
  have hhl : hs.length = 8 := s0.len
  have hwl := words_len 16 bs hbl
  have hwo := words_ok 16 bs hbl hb
  refine ⟨fun vals m hh => ∃ (a : Option Addr) (i : Nat), [.slice a i i, .int .i64 (i : Int)] = vals ∧ m = 16 - i ∧ i ≤ 16 ∧ Wf hh ∧ Kept h hh ∧ Bd hh 1 (h.next ≤ ·) a i i (((words bs).take i).map u32), ⟨16, none, 0, rfl, rfl, Nat.zero_le _, wf, Keep.refl _ _, Bd.nil _ _ _⟩, ?_⟩
  rintro a l c n m h1 ⟨a', i, e, rfl, hi, wf1, k1, bd1⟩
  simp at e
  obtain ⟨⟨rfl, rfl, rfl⟩, rfl⟩ := e
  by_cases hc : ltI (i : Int) 16 = true
  · rw [if_pos hc]
    have hi16 : i < 16 := by rw [ltI_iff] at hc; omega
    have q0 := mul4 hi16
    have q1 : addW .i64 ((4 * i : Nat) : Int) 1 = ((4 * i + 1 : Nat) : Int) := addN 1 (by omega)
    have q2 : addW .i64 ((4 * i : Nat) : Int) 2 = ((4 * i + 2 : Nat) : Int) := addN 2 (by omega)
    have q3 : addW .i64 ((4 * i : Nat) : Int) 3 = ((4 * i + 3 : Nat) : Int) := addN 3 (by omega)
    rw [q0, q1, q2, q3]
    have e0 : bs[4 * i]? = some (bs[4 * i]'(by omega)) := List.getElem?_eq_getElem _
    have e1 : bs[4 * i + 1]? = some (bs[4 * i + 1]'(by omega)) := List.getElem?_eq_getElem _
    have e2 : bs[4 * i + 2]? = some (bs[4 * i + 2]'(by omega)) := List.getElem?_eq_getElem _
    have e3 : bs[4 * i + 3]? = some (bs[4 * i + 3]'(by omega)) := List.getElem?_eq_getElem _
    generalize bs[4 * i]'(by omega) = b0 at e0
    generalize bs[4 * i + 1]'(by omega) = b1 at e1
    generalize bs[4 * i + 2]'(by omega) = b2 at e2
    generalize bs[4 * i + 3]'(by omega) = b3 at e3
    have t2 := s2.keep k1 fun _ _ hf => hf
    refine ⟨(rdx t2 e0).1, _, (rdx t2 e0).2, by simp [nonneg], (rdx t2 e1).1, _, (rdx t2 e1).2, by simp [nonneg], (rdx t2 e2).1, _, (rdx t2 e2).2, by simp [nonneg], (rdx t2 e3).1, _, (rdx t2 e3).2, ?_⟩
    intro h4 e4
    rw [word_eq (hb _ (List.mem_of_getElem? e0)) (hb _ (List.mem_of_getElem? e1)) (hb _ (List.mem_of_getElem? e2)) (hb _ (List.mem_of_getElem? e3))] at e4
    obtain ⟨a2, h5, y1, y2, y3, y4⟩ := Bd.append1 wf1 app78 (S := (h.next ≤ ·)) (fun g hg => by have := k1.next; omega) bd1 e4 rfl rfl (roomy_of (by omega))
    refine ⟨a2, _, _, h5, y1, 16 - (i + 1), by simp only [lessN]; omega, a2, i + 1, ?_, rfl, by omega, y4, k1.trans wf y3 fun g hg hs => by omega, ?_⟩
    · rw [show addW .i64 (i : Int) 1 = ((i + 1 : Nat) : Int) from addN 1 (by omega)]
    · rw [List.take_add_one, words_get i bs e0 e1 e2 e3]
      simpa [u32] using y2
  · rw [if_neg hc]
    have hi16 : i = 16 := by
      by_cases hq : i = 16
      · exact hq
      · exact absurd (ltI_iff.2 (by omega)) hc
    subst hi16
    rw [List.take_of_length_le (by omega)] at bd1
    refine ⟨fun vals m hh => ∃ (a : Option Addr) (i : Nat) (r : List Nat), [.slice a i i, .int .i64 (i : Int)] = vals ∧ m = 64 - i ∧ 16 ≤ i ∧ i ≤ 64 ∧ r.length = i ∧ (∀ w ∈ r, W32 w) ∧ plan (64 - i) r = plan 48 (words bs).reverse ∧ Wf hh ∧ Kept h hh ∧ Bd hh 1 (h.next ≤ ·) a i i (r.reverse.map u32),
      ⟨48, a', 16, (words bs).reverse, rfl, rfl, Nat.le_refl _, by omega, by simp [hwl], fun w hx => hwo w (List.mem_reverse.1 hx), rfl, wf1, k1, by rw [List.reverse_reverse]; exact bd1⟩, ?_⟩
    rintro a l c n m h2 ⟨a3, i, r, e, rfl, hi1, hi2, hrl, hro, hpl, wf2, k2, bd2⟩
    simp at e
    obtain ⟨⟨rfl, rfl, rfl⟩, rfl⟩ := e
    by_cases hc : ltI (i : Int) 64 = true
    · rw [if_pos hc]
      have hi64 : i < 64 := by rw [ltI_iff] at hc; omega
      have q15 : subW .i64 (i : Int) 15 = ((i - 15 : Nat) : Int) := subN (b := 15) (by omega) (by omega)
      have q2 : subW .i64 (i : Int) 2 = ((i - 2 : Nat) : Int) := subN (b := 2) (by omega) (by omega)
      have q16 : subW .i64 (i : Int) 16 = ((i - 16 : Nat) : Int) := subN (b := 16) (by omega) (by omega)
      have q7 : subW .i64 (i : Int) 7 = ((i - 7 : Nat) : Int) := subN (b := 7) (by omega) (by omega)
      rw [q15, q2, q16, q7]
      obtain ⟨g, t⟩ := bd_sl bd2 (by simp [hrl])
      have r15 := rdx t (i := i - 15) (by rw [show i - 15 = r.length - 1 - 14 by omega]; exact rev_get (by omega))
      have r2 := rdx t (i := i - 2) (by rw [show i - 2 = r.length - 1 - 1 by omega]; exact rev_get (by omega))
      have r16 := rdx t (i := i - 16) (by rw [show i - 16 = r.length - 1 - 15 by omega]; exact rev_get (by omega))
      have r7 := rdx t (i := i - 7) (by rw [show i - 7 = r.length - 1 - 6 by omega]; exact rev_get (by omega))
      have w14 := getD_ok hro 14
      have w1 := getD_ok hro 1
      refine ⟨r15.1, _, r15.2, r15.1, _, r15.2, r15.1, _, r15.2, by simp [nonneg], ?_⟩
      refine (c269 w14 (n := 7) (by omega) (by omega) h2).mono fun v h3 ⟨e1, e2⟩ => ?_
      subst e2
      refine ⟨_, e1, r15.2, r15.2, ?_⟩
      refine (c269 w14 (n := 18) (by omega) (by omega) h3).mono fun v h4 ⟨e1, e2⟩ => ?_
      subst e2
      refine ⟨_, e1, r15.2, r2.1, _, r2.2, r2.1, _, r2.2, r2.1, _, r2.2, by simp [nonneg], ?_⟩
      refine (c269 w1 (n := 17) (by omega) (by omega) h4).mono fun v h5 ⟨e1, e2⟩ => ?_
      subst e2
      refine ⟨_, e1, r2.2, r2.2, ?_⟩
      refine (c269 w1 (n := 19) (by omega) (by omega) h5).mono fun v h6 ⟨e1, e2⟩ => ?_
      subst e2
      refine ⟨_, e1, r2.2, r16.1, _, r16.2, r7.1, _, r7.2, ?_⟩
      intro h7 e7
      rw [s0_eq w14, s1_eq w1, addW_u32, addW_u32, addW_u32] at e7
      obtain ⟨a4, h8, y1, y2, y3, y4⟩ := Bd.append1 wf2 app78 (S := (h.next ≤ ·)) (fun g hg => by have := k2.next; omega) bd2 e7 rfl rfl (roomy_of (by omega))
      refine ⟨a4, _, _, h8, y1, 64 - (i + 1), by simp only [lessN]; omega, a4, i + 1, wnext r :: r, ?_, rfl, by omega, by omega, by simp [hrl], ?_, ?_, y4, k2.trans wf y3 fun g hg hs => by omega, ?_⟩
      · rw [show addW .i64 (i : Int) 1 = ((i + 1 : Nat) : Int) from addN 1 (by omega)]
      · intro w hx
        rcases List.mem_cons.1 hx with rfl | hx
        · exact .add _ _
        · exact hro w hx
      · rw [← hpl, show 64 - i = (64 - (i + 1)) + 1 by omega]
        rfl
      · rw [List.reverse_cons, List.map_append]
        exact y2
    · rw [if_neg hc]
      have hi64 : i = 64 := by
        by_cases hq : i = 64
        · exact hq
        · exact absurd (ltI_iff.2 (by omega)) hc
      subst hi64
      have hwp : r.reverse = wplan bs := by unfold wplan; rw [← hpl]; rfl
      rw [hwp] at bd2
      have hwpl : (wplan bs).length = 64 := by rw [← hwp]; simp [hrl]
      have bd2' := bd2.bound wf2
      have hd := dataOf_sl ((s0.keep k2 fun _ _ hf => hf).sl)
      obtain ⟨a4, h3, y1, y2, y3, y4⟩ := Bd.append wf2 app78 (S := (h2.next ≤ ·)) (fun g hg => hg) (Bd.nil _ _ _) hd (by rw [← flat_map]; simp [hhl]) (by rw [← flat_map]; exact isCell_u32 _) (roomy_of (by omega))
      refine ⟨a4, _, _, h3, y1, ?_⟩
      have k3 : Kept h h3 := k2.trans wf y3 fun g hg hs => by have := k2.next; omega
      obtain ⟨gw, tw⟩ := bd_sl (bd2'.keep y3 fun x hx q => by omega) hwpl
      rw [List.nil_append] at y2
      obtain ⟨gs, _, ts⟩ := y2.slT hhl
      have tsa : SL32 h3 gs a4 8 8 (ofSt (toSt hs)) := by rw [of_to hhl]; exact ts
      refine ⟨fun vals m hh => ∃ (a : Option Addr) (c t : Nat) (st : St), [.slice a 8 c, .int .i64 (t : Int)] = vals ∧ m = 64 - t ∧ t ≤ 64 ∧ W8 st ∧ rounds (K.drop t) ((wplan bs).drop t) st = rounds K (wplan bs) (toSt hs) ∧ Wf hh ∧ Kept h hh ∧ (∃ g, SL32 hh g a 8 c (ofSt st)) ∧ SL32 hh gw a3 64 64 (wplan bs),
        ⟨64, a4, 8, 0, toSt hs, rfl, rfl, Nat.zero_le _, to_ok hhl hw, rfl, y4, k3, ⟨gs, tsa⟩, tw⟩, ?_⟩
      clear y1 y2 y3 y4 tsa ts tw bd2 bd2' hd
      rintro a5 l c n m h4 ⟨a6, c6, t, st, e, rfl, ht, hst, hrs, wf4, k4, ⟨g4, t4⟩, tw⟩
      simp at e
      obtain ⟨⟨rfl, rfl, rfl⟩, rfl⟩ := e
      by_cases hc : ltI (t : Int) 64 = true
      · rw [if_pos hc]
        have ht64 : t < 64 := by rw [ltI_iff] at hc; omega
        have ek : K[t]? = some (K[t]'(by rw [K_len]; omega)) := List.getElem?_eq_getElem _
        generalize K[t]'(by rw [K_len]; omega) = k at ek
        have ew : (wplan bs)[t]? = some ((wplan bs)[t]'(by omega)) := List.getElem?_eq_getElem _
        generalize (wplan bs)[t]'(by omega) = w at ew
        have rk := rdx (s1.keep k4 fun _ _ hf => hf) ek
        have rw' := rdx tw ew
        have R0 := rdx t4 (i := 0) (x := st.a) rfl
        have R1 := rdx t4 (i := 1) (x := st.b) rfl
        have R2 := rdx t4 (i := 2) (x := st.c) rfl
        have R3 := rdx t4 (i := 3) (x := st.d) rfl
        have R4 := rdx t4 (i := 4) (x := st.e) rfl
        have R5 := rdx t4 (i := 5) (x := st.f) rfl
        have R6 := rdx t4 (i := 6) (x := st.g) rfl
        have R7 := rdx t4 (i := 7) (x := st.h) rfl
        obtain ⟨ha, hb', hc', hd, he, hf, hg, hh'⟩ := hst
        refine ⟨R4.1, _, R4.2, R4.1, _, R4.2, R4.1, _, R4.2, ?_⟩
        refine (c269 he (n := 6) (by omega) (by omega) h4).mono fun v h5 ⟨e1, e2⟩ => ?_
        subst e2
        refine ⟨_, e1, R4.2, R4.2, ?_⟩
        refine (c269 he (n := 11) (by omega) (by omega) h5).mono fun v h6 ⟨e1, e2⟩ => ?_
        subst e2
        refine ⟨_, e1, R4.2, ?_⟩
        refine (c269 he (n := 25) (by omega) (by omega) h6).mono fun v h7 ⟨e1, e2⟩ => ?_
        subst e2
        refine ⟨_, e1, R4.1, _, R4.2, R5.1, _, R5.2, R4.1, _, R4.2, R6.1, _, R6.2, R7.1, _, R7.2, rk.1, _, rk.2, rw'.1, _, rw'.2, R0.1, _, R0.2, R0.1, _, R0.2, R0.1, _, R0.2, ?_⟩
        refine (c269 ha (n := 2) (by omega) (by omega) h7).mono fun v h8 ⟨e1, e2⟩ => ?_
        subst e2
        refine ⟨_, e1, R0.2, R0.2, ?_⟩
        refine (c269 ha (n := 13) (by omega) (by omega) h8).mono fun v h9 ⟨e1, e2⟩ => ?_
        subst e2
        refine ⟨_, e1, R0.2, ?_⟩
        refine (c269 ha (n := 22) (by omega) (by omega) h9).mono fun v h10 ⟨e1, e2⟩ => ?_
        subst e2
        refine ⟨_, e1, R0.1, _, R0.2, R1.1, _, R1.2, R0.1, _, R0.2, R2.1, _, R2.2, R1.1, _, R1.2, R2.1, _, R2.2, R0.1, _, R0.2, R1.1, _, R1.2, R2.1, _, R2.2, R3.1, _, R3.2, R4.1, _, R4.2, R5.1, _, R5.2, R6.1, _, R6.2, ?_⟩
        intro h11 e11
        rw [x3_eq he, x3_eq ha, ch_eq he hf hg, maj_eq ha hb' hc'] at e11
        simp only [addW_u32] at e11
        obtain ⟨b1, kk, n1, wf11⟩ := new_blk wf4 e11
        refine ⟨64 - (t + 1), by simp only [lessN]; omega, some ⟨_, 0, none⟩, 8, t + 1, round st k w, ?_, rfl, by omega, W8.round ⟨ha, hb', hc', hd, he, hf, hg, hh'⟩ k w, ?_, wf11, k4.trans wf kk fun _ _ hf => hf, ⟨some _, ⟨Nat.le_refl _, rfl, .inl rfl, fun _ => ⟨_, b1, Nat.le_refl _, rfl⟩⟩, rfl⟩, tw.keep kk fun _ _ hf => hf⟩
        · rw [show addW .i64 (t : Int) 1 = ((t + 1 : Nat) : Int) from addN 1 (by omega)]
        · rw [← hrs, drop_get ek, drop_get ew]
          rfl
      · rw [if_neg hc]
        have ht64 : t = 64 := by
          by_cases hq : t = 64
          · exact hq
          · exact absurd (ltI_iff.2 (by omega)) hc
        subst ht64
        have hfin : st = rounds K (wplan bs) (toSt hs) := by
          rw [← hrs, List.drop_eq_nil_of_le (by rw [K_len]; exact Nat.le_refl _)]
          rfl
        have hblk : block hs bs = List.zipWith add hs (ofSt st) := by rw [hfin]; rfl
        have hbll : (block hs bs).length = 8 := by rw [hblk, List.length_zipWith, hhl]; rfl
        obtain ⟨g5, hg5, t5⟩ := t4.grp wf4
        refine ⟨fun vals m hh => ∃ (a : Option Addr) (i : Nat), [.slice a i i, .int .i64 (i : Int)] = vals ∧ m = 8 - i ∧ i ≤ 8 ∧ Wf hh ∧ Kept h hh ∧ h4.next ≤ hh.next ∧ SL32 hh g5 a6 8 c6 (ofSt st) ∧ Bd hh 1 (h4.next ≤ ·) a i i (((block hs bs).take i).map u32), ⟨8, none, 0, rfl, rfl, Nat.zero_le _, wf4, k4, Nat.le_refl _, t5, Bd.nil _ _ _⟩, ?_⟩
        rintro a l c n m h5 ⟨a7, i, e, rfl, hi, wf5, k5, hn5, t6, bd5⟩
        simp at e
        obtain ⟨⟨rfl, rfl, rfl⟩, rfl⟩ := e
        by_cases hc : ltI (i : Int) 8 = true
        · rw [if_pos hc]
          have hi8 : i < 8 := by rw [ltI_iff] at hc; omega
          have e1 : hs[i]? = some (hs[i]'(by omega)) := List.getElem?_eq_getElem _
          generalize hs[i]'(by omega) = x at e1
          have e2 : (ofSt st)[i]? = some ((ofSt st)[i]'(by show i < 8; omega)) := List.getElem?_eq_getElem _
          generalize (ofSt st)[i]'(by show i < 8; omega) = y at e2
          have r1 := rdx (s0.keep k5 fun _ _ hf => hf) e1
          have r2 := rdx t6 e2
          refine ⟨r1.1, _, r1.2, r2.1, _, r2.2, ?_⟩
          intro h6 e6
          rw [addW_u32] at e6
          obtain ⟨a8, h7, y1, y2, y3, y4⟩ := Bd.append1 wf5 app78 (S := (h4.next ≤ ·)) (fun g hg => by omega) bd5 e6 rfl rfl (roomy_of (by omega))
          refine ⟨a8, _, _, h7, y1, 8 - (i + 1), by simp only [lessN]; omega, a8, i + 1, ?_, rfl, by omega, y4, k5.trans wf y3 fun g hg hs => by have := k4.next; omega, Nat.le_trans hn5 y3.next, t6.keep y3 fun x hx q => by have := hg5 x hx; omega, ?_⟩
          · rw [show addW .i64 (i : Int) 1 = ((i + 1 : Nat) : Int) from addN 1 (by omega)]
          · rw [hblk, zip_take e1 e2, ← hblk, List.map_append]
            exact y2
        · rw [if_neg hc]
          have hi8 : i = 8 := by
            by_cases hq : i = 8
            · exact hq
            · exact absurd (ltI_iff.2 (by omega)) hc
          subst hi8
          rw [List.take_of_length_le (by omega)] at bd5
          exact ⟨_, rfl, bd5.mono fun g hg => Nat.le_trans k4.next hg, k5⟩

/-- The table of the reference. -/
def Tab (h : Hp) (v : Value) : Prop := ∃ g0 g1 a0 a1 c0 c1, v = .agg #[.slice a0 8 c0, .slice a1 64 c1] ∧ SL32 h g0 a0 8 c0 H0 ∧ SL32 h g1 a1 64 c1 K

theorem c256 (h : Hp) : C 318 [] h fun v h' => Tab h' v ∧ Kept h h' := by
  refine SCalls_of_vw fol (pf := pfr) (shp := shp_256) (f := 318) (fn := Tryz.f318) (by kernel_rfl) (c := Tryz.f318.body.getD .skip) (by kernel_rfl) (by kernel_rfl) fun wf => ?_
  rw [vc_256]
  intro h1 e1 h2 e2 h3 e3
  obtain ⟨b1, k1, n1, wf1⟩ := new_blk wf e1
  obtain ⟨b2, k2, n2, wf2⟩ := new_blk wf1 e2
  obtain ⟨b3, k3, n3, wf3⟩ := new_blk wf2 e3
  have t2 := new_sl (f := u32) (L := H0) wf1 e2 (l := 8) rfl
  have t3 := new_sl (f := u32) (L := K) wf2 e3 (l := 64) rfl
  have k12 := k1.trans wf k2 fun _ _ hf => hf
  have k123 := k12.trans wf k3 fun _ _ hf => hf
  have b1' := Kept.blk k3 (Kept.blk k2 b1)
  obtain ⟨h4, y1, y2, y3, y4, y5, y6⟩ := set_blk wf3 b1' k123 wf (Nat.le_refl _) (vs := [.slice (some ⟨h1.next, 0, none⟩) 8 8, .slice (some ⟨h2.next, 0, none⟩) 64 64]) rfl rfl
  refine ⟨rfl, h4, y1, _, _, _, _, _, _, ⟨rfl, (y2.cells (Nat.le_of_ble_eq_true rfl)).trans rfl⟩, ⟨some h1.next, some h2.next, _, _, _, _, rfl, ?_, ?_⟩, y3⟩
  · exact (t2.keep k3 fun _ _ hf => hf).keep y4 fun x hx q => by simp at hx; omega
  · exact t3.keep y4 fun x hx q => by simp at hx; omega

set_option maxRecDepth 20000 in
theorem c255 {h : Hp} {g0 g1 : Option Nat} {a0 a1 : Option Addr} {c0 c1 : Nat} (s0 : SL32 h g0 a0 8 c0 H0) (s1 : SL32 h g1 a1 64 c1 K) (s : ByteArray) (hs : s.size ≤ 1073741824) :
    C 317 [.agg #[.slice a0 8 c0, .slice a1 64 c1], .string s] h fun v h' => v = .agg ((sum (bytes8 s)).map u8).toArray ∧ Kept h h' := by
  refine SCalls_of_vw fol (pf := pfr) (shp := shp_255) (f := 317) (fn := Tryz.f317) (by kernel_rfl) (c := Tryz.f317.body.getD .skip) (by kernel_rfl) (by kernel_rfl) fun wf => ?_
  rw [vc_255]
  intro h1 e1 h2 e2
  obtain ⟨b1, k1, n1, wf1⟩ := new_blk wf e1
  obtain ⟨b2, k2, n2, wf2⟩ := new_blk wf1 e2
  have k02 := k1.trans wf k2 fun _ _ hf => hf
  refine (c263 s h2 hs).wf fun v h3 wf3 _ ⟨a, l, e3, hl, bd3, k3⟩ => ?_
  have k03 := k02.trans wf k3 fun _ _ hf => hf
  have hp64 := pad_len (bytes8 s)
  obtain ⟨N, hN⟩ := hp64
  have b1' := Kept.blk k3 (Kept.blk k2 b1)
  have b2' := Kept.blk k3 b2
  obtain ⟨gp, tp⟩ := bd_sl bd3 hl.symm
  refine ⟨a, l, l, e3, rfl, a0, 8, c0, ⟨rfl, (b1'.cells (Nat.le_of_ble_eq_true rfl)).trans rfl⟩, ?_⟩
  have hN' : N < 33554432 := by
    have : (pad (bytes8 s)).length ≤ s.size + 200 := by
      have hl8 : (lenBytes (bytes8 s).length).length = 8 := rfl
      have hlen : (bytes8 s).length = s.size := by simp [bytes8]
      have hz : zeros (bytes8 s).length < 64 := Nat.mod_lt _ (by decide)
      unfold pad
      simp only [List.length_append, List.length_cons, List.length_replicate, hl8]
      omega
    omega
  refine ⟨fun vals m hh => ∃ (a : Option Addr) (c j : Nat) (cur : List Nat), [.slice a 8 c, .int .i64 ((64 * j : Nat) : Int)] = vals ∧ m = N - j ∧ j ≤ N ∧ cur.length = 8 ∧ (∀ w ∈ cur, W32 w) ∧ blocks (N - j) cur ((pad (bytes8 s)).drop (64 * j)) = blocks N H0 (pad (bytes8 s)) ∧ Wf hh ∧ Kept h3 hh ∧ (∃ g, SL32 hh g a 8 c cur),
    ⟨N, a0, c0, 0, H0, rfl, rfl, Nat.zero_le _, rfl, H0_ok, rfl, wf3, Keep.refl _ _, ⟨g0, s0.keep k03 fun _ _ hf => hf⟩⟩, ?_⟩
  rintro a2 l2 c2 n m h4 ⟨a3, c3, j, cur, e, rfl, hj, hcl, hco, hbl, wf4, k4, ⟨g4, t4⟩⟩
  simp at e
  obtain ⟨⟨rfl, rfl, rfl⟩, rfl⟩ := e
  have k04 := k03.trans wf k4 fun _ _ hf => hf
  by_cases hc : ltI (64 * (j : Int)) (natI l) = true
  · rw [if_pos hc]
    have hjN : j < N := by rw [ltI_iff, natI_eq] at hc; omega
    have q1 : addW .i64 (64 * (j : Int)) 64 = ((64 * (j + 1) : Nat) : Int) := by rw [addW_small (by omega) (by omega)]; omega
    have q0 : (64 * (j : Int)) = ((64 * j : Nat) : Int) := by omega
    rw [q1, q0]
    have b1'' := Kept.blk k4 b1'
    have tc := cut_sl (tp.keep k4 fun _ _ hf => hf) (i := 64 * j) (k := 64) (by omega)
    refine ⟨rfl, a1, 64, c1, ⟨rfl, (b1''.cells (Nat.le_of_ble_eq_true rfl)).trans rfl⟩, ⟨⟨by omega, by omega, by rw [natI_eq]; omega, Int.le_refl _⟩, ?_⟩, ?_⟩
    · have hm := tp.sl.mem
      unfold spotOk
      cases a with
      | none => trivial
      | some q => obtain ⟨b, o, sp⟩ := q; exact hm.1
    · have d1 : diffN ((64 * (j + 1) : Nat) : Int) ((64 * j : Nat) : Int) = 64 := by unfold diffN; omega
      have d2 : diffN (natI l) ((64 * j : Nat) : Int) = l - 64 * j := by unfold diffN; rw [natI_eq]; omega
      rw [d1, d2]
      refine (c264 t4 (s1.keep k04 fun _ _ hf => hf) tc (fun b hb => pad_ok (bytes8_ok s) b (List.mem_of_mem_drop (List.mem_of_mem_take hb))) hco).wf fun v h5 wf5 _ ⟨a5, e5, bd5, k5⟩ => ?_
      obtain ⟨g5, t5⟩ := bd_sl bd5 (block_len hcl)
      refine ⟨a5, 8, 8, e5, N - (j + 1), by simp only [lessN]; omega, a5, 8, j + 1, block cur (((pad (bytes8 s)).drop (64 * j)).take 64), rfl, rfl, by omega, block_len hcl, block_ok _ _, ?_, wf5, k4.trans wf3 k5 fun _ _ hf => hf, ⟨g5, t5⟩⟩
      rw [← hbl, show N - j = (N - (j + 1)) + 1 by omega]
      show _ = blocks (N - (j + 1)) (block cur (((pad (bytes8 s)).drop (64 * j)).take 64)) (((pad (bytes8 s)).drop (64 * j)).drop 64)
      rw [List.drop_drop, show 64 * j + 64 = 64 * (j + 1) by omega]
  · rw [if_neg hc]
    have hjN : j = N := by
      by_cases hq : j = N
      · exact hq
      · exact absurd (ltI_iff.2 (by rw [natI_eq]; omega)) hc
    subst hjN
    have hcur : cur = blocks j H0 (pad (bytes8 s)) := by rw [← hbl, Nat.sub_self]; rfl
    have hsum : sum (bytes8 s) = (cur.map outBytes).flatten := by
      unfold sum
      rw [hN, Nat.mul_div_cancel_left _ (by omega), ← hcur]
    rw [hsum]
    have hol : ((cur.map outBytes).flatten).length = 32 := by
      match cur, hcl with
      | [a, b, c, d, e, f, g, x], _ => rfl
    generalize hout : (cur.map outBytes).flatten = out at hol
    intro h5 e5
    obtain ⟨b5, k5, n5, wf5⟩ := new_blk wf4 e5
    refine ⟨fun vals m hh => ∃ i : Nat, [.int .i64 (i : Int)] = vals ∧ m = 32 - i ∧ i ≤ 32 ∧ Wf hh ∧ Kept h4 hh ∧ Blk hh h4.next (some h4.next) ((out.take i ++ List.replicate (32 - i) 0).map u8), ⟨32, 0, rfl, rfl, Nat.zero_le _, wf5, k5, by simpa [u8] using b5⟩, ?_⟩
    rintro n m h6 ⟨i, e, rfl, hi, wf6, k6, b6⟩
    simp at e
    subst e
    by_cases hc : ltI (i : Int) 32 = true
    · rw [if_pos hc]
      have hi32 : i < 32 := by rw [ltI_iff] at hc; omega
      rw [quo4 hi32, sh4 hi32]
      have ew : cur[i / 4]? = some (cur[i / 4]'(by omega)) := List.getElem?_eq_getElem _
      generalize cur[i / 4]'(by omega) = w at ew
      have ro := rdx (t4.keep k6 fun _ _ hf => hf) ew
      have eo : out[i]? = some ((w >>> (24 - 8 * (i % 4))) % 256) := by rw [← hout]; exact out_get (H := []) ew
      have m4 : toW .u8 ((w >>> (24 - 8 * (i % 4)) : Nat) : Int) = ((w >>> (24 - 8 * (i % 4)) % 256 : Nat) : Int) := by unfold toW; rw [wrap_u8]
      refine ⟨by simp [nonzero], ro.1, _, ro.2, by simp [nonzero], Int.natCast_nonneg _, ⟨rfl, Int.natCast_nonneg _, by omega⟩, rfl, ?_⟩
      rw [shrW_nat _ _ _ (show 24 - 8 * (i % 4) ≤ 32 by omega), m4]
      have hlen : ((out.take i ++ List.replicate (32 - i) 0).map u8).length = 32 := by simp; omega
      obtain ⟨h7, y1, y2, y3, y4, y5⟩ := b6.set (o := i) (by omega) (v := u8 (w >>> (24 - 8 * (i % 4)) % 256)) rfl
      rw [fill_step eo 32 hol] at y2
      have hpi : plusI 0 (i : Int) 1 = i := by simp [plusI]
      rw [hpi]
      refine ⟨h7, y1, 32 - (i + 1), by simp only [lessN]; omega, i + 1, ?_, rfl, by omega, y5 wf6, k6.trans wf4 y3 fun g hg hs => by omega, y2⟩
      rw [show addW .i64 (i : Int) 1 = ((i + 1 : Nat) : Int) from addN 1 (by omega)]
    · rw [if_neg hc]
      have hi32 : i = 32 := by
        by_cases hq : i = 32
        · exact hq
        · exact absurd (ltI_iff.2 (by omega)) hc
      subst hi32
      rw [List.take_of_length_le (by omega), Nat.sub_self, List.replicate_zero, List.append_nil] at b6
      have k06 : Kept h h6 := k04.trans wf k6 fun _ _ hf => hf
      have b2'' := Kept.blk k6 (Kept.blk k4 b2')
      obtain ⟨h7, y1, y2, y3, y4, y5, y6⟩ := set_blk wf6 b2'' k06 wf (by omega) (vs := out.map u8) (by simp [hol]) (by simp [u8, isCell])
      clear hout hsum hcur hbl
      obtain ⟨x0, x1, x2, x3, x4, x5, x6, x7, x8, x9, x10, x11, x12, x13, x14, x15, x16, x17, x18, x19, x20, x21, x22, x23, x24, x25, x26, x27, x28, x29, x30, x31, rfl⟩ := ex32 hol
      exact ⟨(fun i => ((([x0, x1, x2, x3, x4, x5, x6, x7, x8, x9, x10, x11, x12, x13, x14, x15, x16, x17, x18, x19, x20, x21, x22, x23, x24, x25, x26, x27, x28, x29, x30, x31] : List Nat).getD i 0 : Nat) : Int)), ⟨rfl, (b6.cells (Nat.le_of_ble_eq_true rfl)).trans rfl⟩, rfl, h7, y1, (fun i => ((([x0, x1, x2, x3, x4, x5, x6, x7, x8, x9, x10, x11, x12, x13, x14, x15, x16, x17, x18, x19, x20, x21, x22, x23, x24, x25, x26, x27, x28, x29, x30, x31] : List Nat).getD i 0 : Nat) : Int)), ⟨rfl, (y2.cells (Nat.le_of_ble_eq_true rfl)).trans rfl⟩, rfl, y3⟩

set_option maxRecDepth 20000 in
theorem c242' (s : ByteArray) (h : Hp) (hs : s.size ≤ 1073741824) : C 284 [.string s] h fun v h' => v = sumV s ∧ Kept h h' := by
  refine SCalls_of_vw fol (pf := pfr) (shp := shp_242) (f := 284) (fn := Tryz.f284) (by kernel_rfl) (c := Tryz.f284.body.getD .skip) (by kernel_rfl) (by kernel_rfl) fun wf => ?_
  rw [vc_242]
  intro h1 e1
  obtain ⟨b1, k1, n1, wf1⟩ := new_blk wf e1
  refine (c256 h1).wf fun v h2 wf2 _ ⟨⟨g0, g1, a0, a1, c0, c1, e2, s0, s1⟩, k2⟩ => ?_
  refine ⟨a0, 8, c0, a1, 64, c1, e2, ?_⟩
  refine (c255 s0 s1 s hs).wf fun v h3 wf3 _ ⟨e3, k3⟩ => ?_
  have hl := sum_len (bytes8 s)
  have k02 := k1.trans wf k2 fun _ _ hf => hf
  have k03 := k02.trans wf k3 fun _ _ hf => hf
  have b1' := Kept.blk k3 (Kept.blk k2 b1)
  obtain ⟨h4, y1, y2, y3, y4, y5, y6⟩ := set_blk wf3 b1' k03 wf (Nat.le_refl _) (vs := (sum (bytes8 s)).map u8) (by simp [hl]) (by simp [u8, isCell])
  unfold sumV
  generalize sum (bytes8 s) = out at *
  obtain ⟨x0, x1, x2, x3, x4, x5, x6, x7, x8, x9, x10, x11, x12, x13, x14, x15, x16, x17, x18, x19, x20, x21, x22, x23, x24, x25, x26, x27, x28, x29, x30, x31, rfl⟩ := ex32 hl
  exact ⟨(fun i => ((([x0, x1, x2, x3, x4, x5, x6, x7, x8, x9, x10, x11, x12, x13, x14, x15, x16, x17, x18, x19, x20, x21, x22, x23, x24, x25, x26, x27, x28, x29, x30, x31] : List Nat).getD i 0 : Nat) : Int)), e3, rfl, h4, y1, (fun i => ((([x0, x1, x2, x3, x4, x5, x6, x7, x8, x9, x10, x11, x12, x13, x14, x15, x16, x17, x18, x19, x20, x21, x22, x23, x24, x25, x26, x27, x28, x29, x30, x31] : List Nat).getD i 0 : Nat) : Int)), ⟨rfl, (y2.cells (Nat.le_of_ble_eq_true rfl)).trans rfl⟩, rfl, y3⟩

theorem c242 (s : ByteArray) (h : Hp) (hs : s.size ≤ 1073741824) : C 284 [.string s] h fun v h' => v = sumV s ∧ h' = h :=
  (c242' s h hs).trim (of_decide_eq_true (by kernel_rfl)) fun v h' ⟨e, k⟩ => ⟨stay_of k, by rw [e]; exact sumV_plain s, e⟩

end Go.Proofs.YtlodmlmlmkcpkaaGreatDoor.sb

/- Bytes, plainly: fixed numbers; writers and readers of the program's layer 1 in memory. -/
set_option linter.unusedVariables false
set_option linter.unusedSimpArgs false
namespace Go.Cn.Pk

/-- A byte as cells. -/
def u8c (b : UInt8) : List Value := [.int .u8 (b.toNat : Int)]
def bc (L : List UInt8) : List Value := L.flatMap u8c
def str (L : List UInt8) : ByteArray := ⟨L.toArray⟩
/-- The last n bytes of a number, the highest first. -/
def be : Nat → Nat → List UInt8
  | 0, _ => []
  | n + 1, x => UInt8.ofNat (x >>> (8 * n)) :: be n x
/-- The number that bytes are, the highest first. -/
def num (L : List UInt8) : Nat := L.foldl (fun n b => n * 256 + b.toNat) 0

theorem u8c_len (b : UInt8) : (u8c b).length = 1 := rfl
theorem bc_len (L : List UInt8) : (bc L).length = L.length := by
  unfold bc; rw [flat_len u8c_len, Nat.mul_one]
theorem bc_append (L M : List UInt8) : bc (L ++ M) = bc L ++ bc M := by unfold bc; rw [List.flatMap_append]
theorem bc_one (b : UInt8) : bc [b] = [.int .u8 (b.toNat : Int)] := rfl
theorem bc_cells (L : List UInt8) : (bc L).all isCell = true := by
  induction L with
  | nil => rfl
  | cons b L ih => show (bc ([b] ++ L)).all isCell = true; rw [bc_append, List.all_append, ih]; rfl
theorem bc_map (L : List UInt8) : bc L = L.map fun b => .int .u8 (b.toNat : Int) := by
  induction L with
  | nil => rfl
  | cons b L ih => show _ :: bc L = _; rw [ih]; rfl
theorem bytesOf_bc (L : List UInt8) : bytesOf (bc L) = some L := by
  induction L with
  | nil => rfl
  | cons b L ih =>
    show (bytesOf (bc L)).map (UInt8.ofNat ((b.toNat : Int)).toNat :: ·) = _
    rw [ih]
    simp
theorem str_data (L : List UInt8) : (str L).data.toList = L := rfl
theorem str_size (L : List UInt8) : (str L).size = L.length := rfl
theorem str_of (s : ByteArray) : str s.data.toList = s := rfl
theorem str_inj {L M : List UInt8} (h : str L = str M) : L = M := by
  have := congrArg (fun s : ByteArray => s.data.toList) h
  exact this
theorem str_cat (L M : List UInt8) : strCat (str L) (str M) = str (L ++ M) := by
  unfold strCat str
  show ByteArray.append _ _ = _
  rw [ByteArray.append_eq]
  apply ByteArray.ext
  rw [ByteArray.data_append]
  simp
theorem cells_str (s : ByteArray) : s.data.toList.map (fun b => Value.int .u8 (b.toNat : Int)) = bc s.data.toList := (bc_map _).symm

theorem be_len : ∀ n x, (be n x).length = n
  | 0, _ => rfl
  | n + 1, x => by unfold be; rw [List.length_cons, be_len n]

/-! ### Writers -/
/-- A writer that lies in block b, with these bytes; memory from n0 on. -/
structure WAt (n0 : Nat) (h : Hp) (b : Nat) (L : List UInt8) : Prop where
  le : n0 ≤ b
  mem : ∃ a, Blk h b (some b) [.bool true, .slice a L.length L.length] ∧ Bd h 1 (fun g => n0 ≤ g ∧ g ≠ b) a L.length L.length (bc L)

theorem WAt.keep {n0 n1 : Nat} {h h' : Hp} {b : Nat} {L : List UInt8} (w : WAt n0 h b L) (wf : Wf h) (k : Keep (n1 ≤ ·) h h') (hn : h.next ≤ n1) : WAt n0 h' b L := by
  obtain ⟨hle, a, h1, h2⟩ := w
  have hb := h1.glt wf
  refine ⟨hle, a, k.blk h1 fun x hx => by simp at hx; omega, ?_⟩
  exact ((h2.bound wf).keep k fun x hx => by have := hx.2; omega).mono fun g hg => hg.1
theorem WAt.weak {n0 n1 : Nat} {h : Hp} {b : Nat} {L : List UInt8} (w : WAt n1 h b L) (hn : n0 ≤ n1) : WAt n0 h b L := by
  obtain ⟨hle, a, h1, h2⟩ := w
  exact ⟨by omega, a, h1, h2.mono fun g hg => ⟨by omega, hg.2⟩⟩
theorem WAt.lt {n0 : Nat} {h : Hp} (wf : Wf h) {b : Nat} {L : List UInt8} (w : WAt n0 h b L) : b < h.next := by
  obtain ⟨hle, a, h1, h2⟩ := w
  exact h1.glt wf

/-- A new writer. -/
theorem WAt.new {h h1 : Hp} (wf : Wf h) {e : TypeId} (he : h1 = h.alloc [.bool true, .slice none 0 0] e) : WAt h.next h1 h.next [] ∧ Kept h h1 ∧ Wf h1 := by
  obtain ⟨b1, k1, n1, wf1⟩ := new_blk wf he
  exact ⟨⟨Nat.le_refl _, none, b1, Bd.nil _ _ _⟩, k1, wf1⟩

section
variable {P : Program}
/-- Bytes are appended, and the slice is stored again. -/
theorem WAt.app {n0 : Nat} {h h1 : Hp} (wf : Wf h) {t xt elem : TypeId} (ht : AppT P t xt elem 1 1) {b : Nat} {L : List UInt8} {a : Option Addr} (wf1 : Wf h1) (kk : Kept h h1) (hn0 : n0 ≤ b)
    (hb : Blk h b (some b) [.bool true, .slice a L.length L.length]) (bd : Bd h 1 (fun g => n0 ≤ g ∧ g ≠ b) a L.length L.length (bc L))
    {x : Value} {M : List UInt8} (hx : dataOf 1 x h1 = some (M.length, bc M)) (hr : L.length + M.length ≤ 1099511627776) :
    ∃ a' h2, cappend P t xt (.slice a L.length L.length) x h1 = some (.slice a' (L ++ M).length (L ++ M).length, h2) ∧
      ∃ h3, h2.store b 1 [.slice a' (L ++ M).length (L ++ M).length] = some h3 ∧ WAt n0 h3 b (L ++ M) ∧ Keep (n0 ≤ ·) h h3 ∧ Wf h3 := by
  have hbn := hb.glt wf
  have hn1 := kk.next
  obtain ⟨a', h2, e1, b1, k1, wf2⟩ := Bd.append wf1 ht (S := fun g => n0 ≤ g ∧ g ≠ b) (fun g hg => by constructor <;> omega) (bd.keep kk fun _ _ hf => hf) hx (by rw [bc_len, Nat.mul_one]) (bc_cells M) (roomy_of (by omega))
  have hb2 : Blk h2 b (some b) [.bool true, .slice a L.length L.length] := k1.blk (Kept.blk kk hb) fun x hx => by simp at hx; subst hx; exact fun hc => hc.2 rfl
  obtain ⟨h3, e3, b3, k3, n3, w3⟩ := hb2.set (o := 1) (v := .slice a' (L.length + M.length) (L.length + M.length)) (by simp) rfl
  rw [List.length_append]
  refine ⟨a', h2, e1, h3, e3, ⟨hn0, a', ?_, ?_⟩, ?_, w3 wf2⟩
  · rw [List.length_append]; exact b3
  · rw [List.length_append, bc_append]
    exact b1.keep k3 fun x hx hc => hx.2 hc
  · have k02 : Keep (n0 ≤ ·) h h2 := (kk.mono wf (S' := (n0 ≤ ·)) fun _ _ hf => hf.elim).trans wf (k1.mono wf1 (S' := (n0 ≤ ·)) fun _ _ hg => hg.1) fun _ _ hg => hg
    exact k02.trans wf (k3.mono wf2 (S' := (n0 ≤ ·)) fun _ _ hg => by subst hg; exact hn0) fun _ _ hg => hg

/-- One byte, which lies in a new block. -/
theorem WAt.app1 {n0 : Nat} {h h1 : Hp} (wf : Wf h) {t xt elem e : TypeId} (ht : AppT P t xt elem 1 1) {b : Nat} {L : List UInt8} {a : Option Addr} (hn0 : n0 ≤ b)
    (hb : Blk h b (some b) [.bool true, .slice a L.length L.length]) (bd : Bd h 1 (fun g => n0 ≤ g ∧ g ≠ b) a L.length L.length (bc L))
    {v : Int} {u : UInt8} (hv : v = u.toNat) (he : h1 = h.alloc [.int .u8 v] e) (hr : L.length + 1 ≤ 1099511627776) :
    ∃ a' h2, cappend P t xt (.slice a L.length L.length) (.slice (some ⟨h.next, 0, none⟩) 1 1) h1 = some (.slice a' (L ++ [u]).length (L ++ [u]).length, h2) ∧
      ∃ h3, h2.store b 1 [.slice a' (L ++ [u]).length (L ++ [u]).length] = some h3 ∧ WAt n0 h3 b (L ++ [u]) ∧ Keep (n0 ≤ ·) h h3 ∧ Wf h3 := by
  obtain ⟨b1, k1, n1, wf1⟩ := new_blk wf he
  refine WAt.app wf ht wf1 k1 hn0 hb bd (M := [u]) ?_ hr
  simp only [dataOf, Nat.one_mul]
  rw [b1.cells (by simp)]
  subst hv
  rfl

/-- A string's bytes. -/
theorem WAt.appS {n0 : Nat} {h : Hp} (wf : Wf h) {t xt elem : TypeId} (ht : AppT P t xt elem 1 1) {b : Nat} {L : List UInt8} {a : Option Addr} (hn0 : n0 ≤ b)
    (hb : Blk h b (some b) [.bool true, .slice a L.length L.length]) (bd : Bd h 1 (fun g => n0 ≤ g ∧ g ≠ b) a L.length L.length (bc L))
    (s : ByteArray) (hr : L.length + s.size ≤ 1099511627776) :
    ∃ a' h2, cappend P t xt (.slice a L.length L.length) (.string s) h = some (.slice a' (L ++ s.data.toList).length (L ++ s.data.toList).length, h2) ∧
      ∃ h3, h2.store b 1 [.slice a' (L ++ s.data.toList).length (L ++ s.data.toList).length] = some h3 ∧ WAt n0 h3 b (L ++ s.data.toList) ∧ Keep (n0 ≤ ·) h h3 ∧ Wf h3 := by
  have hl : s.data.toList.length = s.size := Array.length_toList
  refine WAt.app wf ht wf (Keep.refl _ _) hn0 hb bd (M := s.data.toList) ?_ (by rw [hl]; exact hr)
  simp only [dataOf, if_true]
  rw [hl, cells_str]

/-- The bytes of a writer as a string. -/
theorem WAt.read {n0 : Nat} {h : Hp} {b : Nat} {L : List UInt8} {a : Option Addr} (bd : Bd h 1 (fun g => n0 ≤ g ∧ g ≠ b) a L.length L.length (bc L)) : readStr a L.length h (str L) := by
  rcases bd with ⟨h1, h2, _, h3⟩ | ⟨b', g, h1, _, _, h2, h3, h4⟩
  · left
    refine ⟨h1, ?_⟩
    have : L = [] := List.eq_nil_of_length_eq_zero h2
    subst this
    rfl
  · right
    subst h1
    refine ⟨rfl, bc L, ?_, bytesOf_bc L⟩
    show h.cellsAt b' 0 L.length = _
    rw [h4.cells (by rw [bc_len]; omega), List.drop_zero, List.take_of_length_le (by rw [bc_len]; omega)]
end

/-! ### Readers -/
/-- A reader that lies in block b. -/
def RAt (h : Hp) (b : Nat) (s : ByteArray) (at' : Nat) (fault : Int) : Prop := Blk h b (some b) [.bool true, .string s, .int .i64 (at' : Int), .int .i64 fault]

/-! ### Numbers -/
theorem num_append (L : List UInt8) (b : UInt8) : num (L ++ [b]) = num L * 256 + b.toNat := by unfold num; rw [List.foldl_append]; rfl
theorem num_lt (L : List UInt8) : num L < 256 ^ L.length := by
  have : ∀ (L : List UInt8) (n m : Nat), n < m → L.foldl (fun n b => n * 256 + b.toNat) n < m * 256 ^ L.length := by
    intro L
    induction L with
    | nil => intro n m h; simpa using h
    | cons b L ih =>
      intro n m h
      have hb := b.toNat_lt
      have := ih (n * 256 + b.toNat) (m * 256) (by omega)
      simp only [List.foldl_cons, List.length_cons, Nat.pow_succ]
      rw [show m * (256 ^ L.length * 256) = m * 256 * 256 ^ L.length by rw [Nat.mul_comm (256 ^ L.length), Nat.mul_assoc]]
      exact this
  have := this L 0 1 (by omega)
  simpa [num] using this
end Go.Cn.Pk

/- Whole numbers of the machine: small ones, bytes of them, strings' bytes. -/
set_option linter.unusedVariables false
set_option linter.unusedSimpArgs false
namespace Go.Cn.Pk
open Go.Cn.Sha (wrap_u8 wrap_u32 wrap_u64 shrW_nat)

theorem wrap_u16 (n : Nat) : IntKind.u16.wrap (n : Int) = ((n % 65536 : Nat) : Int) := by
  unfold IntKind.wrap
  simp [IntKind.bits, IntKind.signed]
theorem toW_u8n (n : Nat) : toW .u8 (n : Int) = ((n % 256 : Nat) : Int) := wrap_u8 n
theorem toW_u16n (n : Nat) : toW .u16 (n : Int) = ((n % 65536 : Nat) : Int) := wrap_u16 n
theorem toW_u32n (n : Nat) : toW .u32 (n : Int) = ((n % 4294967296 : Nat) : Int) := wrap_u32 n
theorem toW_u64n (n : Nat) : toW .u64 (n : Int) = ((n % 18446744073709551616 : Nat) : Int) := wrap_u64 n
theorem toW_i64s {n : Int} (h0 : -9223372036854775808 ≤ n) (h1 : n < 9223372036854775808) : toW .i64 n = n := by
  unfold toW IntKind.wrap
  simp [IntKind.bits, IntKind.signed]
  omega
theorem mulW_u64n {a b : Nat} (h : a * b < 18446744073709551616) : mulW .u64 (a : Int) (b : Int) = ((a * b : Nat) : Int) := by
  unfold mulW
  rw [← Int.natCast_mul, wrap_u64, Nat.mod_eq_of_lt h]
theorem sh8 {j : Nat} (h : j < 8) : mulW .u64 8 (toW .u64 (j : Int)) = ((8 * j : Nat) : Int) := by
  rw [toW_u64n, Nat.mod_eq_of_lt (by omega)]
  exact mulW_u64n (a := 8) (by omega)
theorem nonneg_8 (j : Nat) (h : j < 8) : nonneg (mulW .u64 8 (toW .u64 (j : Int))) := by
  rw [sh8 h]; exact Int.natCast_nonneg _
theorem byteOf (n : Nat) : ((n % 256 : Nat) : Int) = (UInt8.ofNat n).toNat := by simp [UInt8.toNat_ofNat]

theorem byte_u8 (x j : Nat) (hj : j < 1) (hx : x ≤ 255) : shrW .u8 (x : Int) (mulW .u64 8 (toW .u64 (j : Int))) = ((UInt8.ofNat (x >>> (8 * j))).toNat : Int) := by
  rw [sh8 (by omega), shrW_nat .u8 x (8 * j) (by simp [IntKind.bits]; omega), ← byteOf]
  have : x >>> (8 * j) = x := by rw [show j = 0 by omega]; rfl
  rw [this, Nat.mod_eq_of_lt (by omega)]
theorem byte_u16 (x j : Nat) (hj : j < 2) (hx : x ≤ 65535) : toW .u8 (shrW .u16 (x : Int) (mulW .u64 8 (toW .u64 (j : Int)))) = ((UInt8.ofNat (x >>> (8 * j))).toNat : Int) := by
  rw [sh8 (by omega), shrW_nat .u16 x (8 * j) (by simp [IntKind.bits]; omega), ← byteOf, toW_u8n]
theorem byte_u32 (x j : Nat) (hj : j < 4) (hx : x ≤ 4294967295) : toW .u8 (shrW .u32 (x : Int) (mulW .u64 8 (toW .u64 (j : Int)))) = ((UInt8.ofNat (x >>> (8 * j))).toNat : Int) := by
  rw [sh8 (by omega), shrW_nat .u32 x (8 * j) (by simp [IntKind.bits]; omega), ← byteOf, toW_u8n]
theorem byte_u64 (x j : Nat) (hj : j < 8) (hx : x ≤ 18446744073709551615) : toW .u8 (shrW .u64 (x : Int) (mulW .u64 8 (toW .u64 (j : Int)))) = ((UInt8.ofNat (x >>> (8 * j))).toNat : Int) := by
  rw [sh8 (by omega), shrW_nat .u64 x (8 * j) (by simp [IntKind.bits]; omega), ← byteOf, toW_u8n]

theorem be_get : ∀ (n x i : Nat), i < n → (be n x)[i]? = some (UInt8.ofNat (x >>> (8 * (n - 1 - i))))
  | 0, x, i, h => by omega
  | n + 1, x, 0, h => by simp [be]
  | n + 1, x, i + 1, h => by
    unfold be
    rw [List.getElem?_cons_succ, be_get n x i (by omega)]
    congr 4
    omega
theorem be_take (n x j : Nat) (h : j < n) : (be n x).take (n - (j + 1)) ++ [UInt8.ofNat (x >>> (8 * j))] = (be n x).take (n - j) := by
  rw [show n - j = (n - (j + 1)) + 1 by omega, List.take_add_one, be_get n x _ (by omega)]
  rw [show n - 1 - (n - (j + 1)) = j by omega]
  rfl

/-! ### Reading -/
theorem byteAt_nat {s : ByteArray} {i : Nat} (h : i < s.size) : ∃ u : UInt8, s.data.toList[i]? = some u ∧ byteAt s (i : Int) = (u.toNat : Int) := by
  have hl : i < s.data.toList.length := by rw [Array.length_toList]; exact h
  refine ⟨s.data.toList[i], List.getElem?_eq_getElem hl, ?_⟩
  unfold byteAt
  rw [Int.toNat_natCast, getElem?_pos s i h]
  rfl
theorem shlW_u64_8 {n : Nat} (h : n < 72057594037927936) : shlW .u64 (n : Int) 8 = ((n * 256 : Nat) : Int) := by
  have : shlW .u64 (n : Int) 8 = IntKind.u64.wrap ((n * 256 : Nat) : Int) := by
    unfold shlW
    simp [IntKind.bits]
  rw [this, wrap_u64, Nat.mod_eq_of_lt (by omega)]
theorem bv64 {a : Nat} (ha : a < 18446744073709551616) : (BitVec.ofInt IntKind.u64.bits (a : Int)).toNat = a := by
  simp [IntKind.bits]
  omega
theorem or_byte {n b : Nat} (h : n < 72057594037927936) (hb : b < 256) : orW .u64 ((n * 256 : Nat) : Int) (b : Int) = ((n * 256 + b : Nat) : Int) := by
  unfold orW
  rw [BitVec.toNat_or, bv64 (by omega), bv64 (by omega), wrap_u64]
  have h1 : n * 256 ||| b = n * 256 + b := by
    have := Nat.shiftLeft_add_eq_or_of_lt (a := n) (b := b) (i := 8) (by omega)
    rw [Nat.shiftLeft_eq] at this
    exact this.symm
  rw [h1, Nat.mod_eq_of_lt (by omega)]
/-- One more byte of a number. -/
theorem shl_or {n : Nat} {u : UInt8} (h : n < 72057594037927936) : orW .u64 (shlW .u64 (n : Int) 8) (toW .u64 (u.toNat : Int)) = ((n * 256 + u.toNat : Nat) : Int) := by
  have hu := u.toNat_lt
  rw [shlW_u64_8 h, toW_u64n, Nat.mod_eq_of_lt (by omega), or_byte h (by omega)]

/-- What is read as a fixed number of n bytes: it, and where the reader stands then, and its fault. -/
def takeR (n : Nat) (s : ByteArray) (at' : Nat) (f : Int) : Nat × Nat × Int :=
  if f ≠ 0 then (0, at', f) else if s.size < at' + n then (0, at', 10) else (num ((s.data.toList.drop at').take n), at' + n, 0)
def rawR (n : Int) (s : ByteArray) (at' : Nat) (f : Int) : ByteArray × Nat × Int :=
  if f ≠ 0 ∨ n ≤ 0 then (.empty, at', f) else if (s.size : Int) < at' + n then (.empty, at', 10) else (str ((s.data.toList.drop at').take n.toNat), at' + n.toNat, 0)

theorem strSub_nat {s : ByteArray} {l h : Nat} : strSub s (l : Int) (h : Int) = str ((s.data.toList.drop l).take (h - l)) := by
  unfold strSub str
  rw [Int.toNat_natCast, Int.toNat_natCast]
  apply ByteArray.ext
  rw [ByteArray.data_extract]
  apply Array.toList_inj.1
  rw [Array.toList_extract]
end Go.Cn.Pk

/- The conditions of the symbolic runs of functions of the program (printed by a program of ours, vcgen.py; checked by the kernel). -/
set_option linter.unusedVariables false
set_option maxRecDepth 100000
namespace Go.Proofs.YtlodmlmlmkcpkaaGreatDoor.vc
open Go Go.Cn Go.Proofs
def pfk : FuncId → Bool := fun f => f == 100 || f == 276 || f == 132 || f == 185 || f == 187 || f == 186 || f == 278 || f == 191 || f == 279 || f == 277 || f == 221 || f == 222 || f == 213

def shp_New : Nat → List (Tmp × TypeId) := fun i => []
theorem vc_New (C : FuncId → List Value → Hp → (Value → Hp → Prop) → Prop)  (h : Hp) (K : Value → Hp → Prop) : vBody Tryz.prog C pfk shp_New Tryz.f214 (Tryz.f214.body.getD .skip) [] h K = (
 ∀ (h' : Hp), h' = h.alloc [Value.bool true, Value.slice none 0 0] 412 → K (Value.pointer (some (Addr.mk h.next 0 none))) h') := by kernel_rfl

def shp_PutU8 : Nat → List (Tmp × TypeId) := fun i => if i = 2 then [(4, 3)] else []
theorem vc_PutU8 (C : FuncId → List Value → Hp → (Value → Hp → Prop) → Prop) (b : Nat) (x : Int) (h : Hp) (K : Value → Hp → Prop) : vBody Tryz.prog C pfk shp_PutU8 Tryz.f216 (Tryz.f216.body.getD .skip) [.pointer (some ⟨b, 0, none⟩), .int .u8 x] h K = (
 (notB (isN (some (Addr.mk b 0 none))) = true → (some (Addr.mk b 0 none)).isSome = true) ∧
 (notB (isN (some (Addr.mk b 0 none))) = true → plainA (some (Addr.mk b 0 none)) = true) ∧
 ∃ (b_1 : Bool),
 (notB (isN (some (Addr.mk b 0 none))) = true → plainA (some (Addr.mk b 0 none)) = true ∧ h.cellsAt b 0 1 = some [Value.bool b_1]) ∧
 if sel (isN (some (Addr.mk b 0 none))) true (notB b_1) = true then K (Value.tuple (Array.mk [])) h
 else
 C 186 [] h fun (v : Value) (h' : Hp) =>
 ∃ (n : Int),
 v = Value.int IntKind.i64 n ∧
 ∃ (I : List Value → Nat → Hp → Prop),
 (∃ (m : Nat), I [Value.int IntKind.i64 (subW IntKind.i64 n 1)] m h') ∧
 ∀ (n : Int) (m : Nat) (h : Hp),
 I [Value.int IntKind.i64 n] m h →
 if geI n 0 = true then
 (some (Addr.mk b 0 none)).isSome = true ∧
 plainA (some (Addr.mk b 0 none)) = true ∧
 ∃ (a : Option Addr),
 ∃ (l : Nat),
 ∃ (c : Nat),
 (plainA (some (Addr.mk b 1 none)) = true ∧ h.cellsAt b 1 1 = some [Value.slice a l c]) ∧
 nonneg (mulW IntKind.u64 8 (toW IntKind.u64 n)) ∧
 ∀ (h' : Hp),
 h' = h.alloc [Value.int IntKind.u8 (shrW IntKind.u8 x (mulW IntKind.u64 8 (toW IntKind.u64 n)))] 5 →
 ∃ (a_2 : Option Addr),
 ∃ (m_1 : Nat),
 ∃ (n_1 : Nat),
 ∃ (h'_1 : Hp),
 cappend Tryz.prog 200 200 (Value.slice a l c) (Value.slice (some (Addr.mk h.next 0 none)) 1 1) h' = some (Value.slice a_2 m_1 n_1, h'_1) ∧
 (some (Addr.mk b 0 none)).isSome = true ∧ plainA (some (Addr.mk b 0 none)) = true ∧ plainA (some (Addr.mk b 1 none)) = true ∧ ∃ (h' : Hp), h'_1.store b 1 [Value.slice a_2 m_1 n_1] = some h' ∧ ∃ (m' : Nat), lessN m' m ∧ I [Value.int IntKind.i64 (subW IntKind.i64 n 1)] m' h'
 else K (Value.tuple (Array.mk [])) h) := by kernel_rfl

def shp_PutU16 : Nat → List (Tmp × TypeId) := fun i => if i = 2 then [(4, 3)] else []
theorem vc_PutU16 (C : FuncId → List Value → Hp → (Value → Hp → Prop) → Prop) (b : Nat) (x : Int) (h : Hp) (K : Value → Hp → Prop) : vBody Tryz.prog C pfk shp_PutU16 Tryz.f218 (Tryz.f218.body.getD .skip) [.pointer (some ⟨b, 0, none⟩), .int .u16 x] h K = (
 (notB (isN (some (Addr.mk b 0 none))) = true → (some (Addr.mk b 0 none)).isSome = true) ∧
 (notB (isN (some (Addr.mk b 0 none))) = true → plainA (some (Addr.mk b 0 none)) = true) ∧
 ∃ (b_1 : Bool),
 (notB (isN (some (Addr.mk b 0 none))) = true → plainA (some (Addr.mk b 0 none)) = true ∧ h.cellsAt b 0 1 = some [Value.bool b_1]) ∧
 if sel (isN (some (Addr.mk b 0 none))) true (notB b_1) = true then K (Value.tuple (Array.mk [])) h
 else
 C 278 [] h fun (v : Value) (h' : Hp) =>
 ∃ (n : Int),
 v = Value.int IntKind.i64 n ∧
 ∃ (I : List Value → Nat → Hp → Prop),
 (∃ (m : Nat), I [Value.int IntKind.i64 (subW IntKind.i64 n 1)] m h') ∧
 ∀ (n : Int) (m : Nat) (h : Hp),
 I [Value.int IntKind.i64 n] m h →
 if geI n 0 = true then
 (some (Addr.mk b 0 none)).isSome = true ∧
 plainA (some (Addr.mk b 0 none)) = true ∧
 ∃ (a : Option Addr),
 ∃ (l : Nat),
 ∃ (c : Nat),
 (plainA (some (Addr.mk b 1 none)) = true ∧ h.cellsAt b 1 1 = some [Value.slice a l c]) ∧
 nonneg (mulW IntKind.u64 8 (toW IntKind.u64 n)) ∧
 ∀ (h' : Hp),
 h' = h.alloc [Value.int IntKind.u8 (toW IntKind.u8 (shrW IntKind.u16 x (mulW IntKind.u64 8 (toW IntKind.u64 n))))] 5 →
 ∃ (a_2 : Option Addr),
 ∃ (m_1 : Nat),
 ∃ (n_1 : Nat),
 ∃ (h'_1 : Hp),
 cappend Tryz.prog 200 200 (Value.slice a l c) (Value.slice (some (Addr.mk h.next 0 none)) 1 1) h' = some (Value.slice a_2 m_1 n_1, h'_1) ∧
 (some (Addr.mk b 0 none)).isSome = true ∧ plainA (some (Addr.mk b 0 none)) = true ∧ plainA (some (Addr.mk b 1 none)) = true ∧ ∃ (h' : Hp), h'_1.store b 1 [Value.slice a_2 m_1 n_1] = some h' ∧ ∃ (m' : Nat), lessN m' m ∧ I [Value.int IntKind.i64 (subW IntKind.i64 n 1)] m' h'
 else K (Value.tuple (Array.mk [])) h) := by kernel_rfl

def shp_PutU32 : Nat → List (Tmp × TypeId) := fun i => if i = 2 then [(4, 3)] else []
theorem vc_PutU32 (C : FuncId → List Value → Hp → (Value → Hp → Prop) → Prop) (b : Nat) (x : Int) (h : Hp) (K : Value → Hp → Prop) : vBody Tryz.prog C pfk shp_PutU32 Tryz.f215 (Tryz.f215.body.getD .skip) [.pointer (some ⟨b, 0, none⟩), .int .u32 x] h K = (
 (notB (isN (some (Addr.mk b 0 none))) = true → (some (Addr.mk b 0 none)).isSome = true) ∧
 (notB (isN (some (Addr.mk b 0 none))) = true → plainA (some (Addr.mk b 0 none)) = true) ∧
 ∃ (b_1 : Bool),
 (notB (isN (some (Addr.mk b 0 none))) = true → plainA (some (Addr.mk b 0 none)) = true ∧ h.cellsAt b 0 1 = some [Value.bool b_1]) ∧
 if sel (isN (some (Addr.mk b 0 none))) true (notB b_1) = true then K (Value.tuple (Array.mk [])) h
 else
 C 191 [] h fun (v : Value) (h' : Hp) =>
 ∃ (n : Int),
 v = Value.int IntKind.i64 n ∧
 ∃ (I : List Value → Nat → Hp → Prop),
 (∃ (m : Nat), I [Value.int IntKind.i64 (subW IntKind.i64 n 1)] m h') ∧
 ∀ (n : Int) (m : Nat) (h : Hp),
 I [Value.int IntKind.i64 n] m h →
 if geI n 0 = true then
 (some (Addr.mk b 0 none)).isSome = true ∧
 plainA (some (Addr.mk b 0 none)) = true ∧
 ∃ (a : Option Addr),
 ∃ (l : Nat),
 ∃ (c : Nat),
 (plainA (some (Addr.mk b 1 none)) = true ∧ h.cellsAt b 1 1 = some [Value.slice a l c]) ∧
 nonneg (mulW IntKind.u64 8 (toW IntKind.u64 n)) ∧
 ∀ (h' : Hp),
 h' = h.alloc [Value.int IntKind.u8 (toW IntKind.u8 (shrW IntKind.u32 x (mulW IntKind.u64 8 (toW IntKind.u64 n))))] 5 →
 ∃ (a_2 : Option Addr),
 ∃ (m_1 : Nat),
 ∃ (n_1 : Nat),
 ∃ (h'_1 : Hp),
 cappend Tryz.prog 200 200 (Value.slice a l c) (Value.slice (some (Addr.mk h.next 0 none)) 1 1) h' = some (Value.slice a_2 m_1 n_1, h'_1) ∧
 (some (Addr.mk b 0 none)).isSome = true ∧ plainA (some (Addr.mk b 0 none)) = true ∧ plainA (some (Addr.mk b 1 none)) = true ∧ ∃ (h' : Hp), h'_1.store b 1 [Value.slice a_2 m_1 n_1] = some h' ∧ ∃ (m' : Nat), lessN m' m ∧ I [Value.int IntKind.i64 (subW IntKind.i64 n 1)] m' h'
 else K (Value.tuple (Array.mk [])) h) := by kernel_rfl

def shp_PutU64 : Nat → List (Tmp × TypeId) := fun i => if i = 2 then [(4, 3)] else []
theorem vc_PutU64 (C : FuncId → List Value → Hp → (Value → Hp → Prop) → Prop) (b : Nat) (x : Int) (h : Hp) (K : Value → Hp → Prop) : vBody Tryz.prog C pfk shp_PutU64 Tryz.f219 (Tryz.f219.body.getD .skip) [.pointer (some ⟨b, 0, none⟩), .int .u64 x] h K = (
 (notB (isN (some (Addr.mk b 0 none))) = true → (some (Addr.mk b 0 none)).isSome = true) ∧
 (notB (isN (some (Addr.mk b 0 none))) = true → plainA (some (Addr.mk b 0 none)) = true) ∧
 ∃ (b_1 : Bool),
 (notB (isN (some (Addr.mk b 0 none))) = true → plainA (some (Addr.mk b 0 none)) = true ∧ h.cellsAt b 0 1 = some [Value.bool b_1]) ∧
 if sel (isN (some (Addr.mk b 0 none))) true (notB b_1) = true then K (Value.tuple (Array.mk [])) h
 else
 C 279 [] h fun (v : Value) (h' : Hp) =>
 ∃ (n : Int),
 v = Value.int IntKind.i64 n ∧
 ∃ (I : List Value → Nat → Hp → Prop),
 (∃ (m : Nat), I [Value.int IntKind.i64 (subW IntKind.i64 n 1)] m h') ∧
 ∀ (n : Int) (m : Nat) (h : Hp),
 I [Value.int IntKind.i64 n] m h →
 if geI n 0 = true then
 (some (Addr.mk b 0 none)).isSome = true ∧
 plainA (some (Addr.mk b 0 none)) = true ∧
 ∃ (a : Option Addr),
 ∃ (l : Nat),
 ∃ (c : Nat),
 (plainA (some (Addr.mk b 1 none)) = true ∧ h.cellsAt b 1 1 = some [Value.slice a l c]) ∧
 nonneg (mulW IntKind.u64 8 (toW IntKind.u64 n)) ∧
 ∀ (h' : Hp),
 h' = h.alloc [Value.int IntKind.u8 (toW IntKind.u8 (shrW IntKind.u64 x (mulW IntKind.u64 8 (toW IntKind.u64 n))))] 5 →
 ∃ (a_2 : Option Addr),
 ∃ (m_1 : Nat),
 ∃ (n_1 : Nat),
 ∃ (h'_1 : Hp),
 cappend Tryz.prog 200 200 (Value.slice a l c) (Value.slice (some (Addr.mk h.next 0 none)) 1 1) h' = some (Value.slice a_2 m_1 n_1, h'_1) ∧
 (some (Addr.mk b 0 none)).isSome = true ∧ plainA (some (Addr.mk b 0 none)) = true ∧ plainA (some (Addr.mk b 1 none)) = true ∧ ∃ (h' : Hp), h'_1.store b 1 [Value.slice a_2 m_1 n_1] = some h' ∧ ∃ (m' : Nat), lessN m' m ∧ I [Value.int IntKind.i64 (subW IntKind.i64 n 1)] m' h'
 else K (Value.tuple (Array.mk [])) h) := by kernel_rfl

def shp_PutKind : Nat → List (Tmp × TypeId) := fun i => if i = 2 then [(4, 3)] else []
theorem vc_PutKind (C : FuncId → List Value → Hp → (Value → Hp → Prop) → Prop) (b : Nat) (x : Int) (h : Hp) (K : Value → Hp → Prop) : vBody Tryz.prog C pfk shp_PutKind Tryz.f217 (Tryz.f217.body.getD .skip) [.pointer (some ⟨b, 0, none⟩), .int .u8 x] h K = (
 (notB (isN (some (Addr.mk b 0 none))) = true → (some (Addr.mk b 0 none)).isSome = true) ∧
 (notB (isN (some (Addr.mk b 0 none))) = true → plainA (some (Addr.mk b 0 none)) = true) ∧
 ∃ (b_1 : Bool),
 (notB (isN (some (Addr.mk b 0 none))) = true → plainA (some (Addr.mk b 0 none)) = true ∧ h.cellsAt b 0 1 = some [Value.bool b_1]) ∧
 if sel (isN (some (Addr.mk b 0 none))) true (notB b_1) = true then K (Value.tuple (Array.mk [])) h
 else
 C 277 [] h fun (v : Value) (h' : Hp) =>
 ∃ (n : Int),
 v = Value.int IntKind.i64 n ∧
 ∃ (I : List Value → Nat → Hp → Prop),
 (∃ (m : Nat), I [Value.int IntKind.i64 (subW IntKind.i64 n 1)] m h') ∧
 ∀ (n : Int) (m : Nat) (h : Hp),
 I [Value.int IntKind.i64 n] m h →
 if geI n 0 = true then
 (some (Addr.mk b 0 none)).isSome = true ∧
 plainA (some (Addr.mk b 0 none)) = true ∧
 ∃ (a : Option Addr),
 ∃ (l : Nat),
 ∃ (c : Nat),
 (plainA (some (Addr.mk b 1 none)) = true ∧ h.cellsAt b 1 1 = some [Value.slice a l c]) ∧
 nonneg (mulW IntKind.u64 8 (toW IntKind.u64 n)) ∧
 ∀ (h' : Hp),
 h' = h.alloc [Value.int IntKind.u8 (shrW IntKind.u8 x (mulW IntKind.u64 8 (toW IntKind.u64 n)))] 5 →
 ∃ (a_2 : Option Addr),
 ∃ (m_1 : Nat),
 ∃ (n_1 : Nat),
 ∃ (h'_1 : Hp),
 cappend Tryz.prog 200 200 (Value.slice a l c) (Value.slice (some (Addr.mk h.next 0 none)) 1 1) h' = some (Value.slice a_2 m_1 n_1, h'_1) ∧
 (some (Addr.mk b 0 none)).isSome = true ∧ plainA (some (Addr.mk b 0 none)) = true ∧ plainA (some (Addr.mk b 1 none)) = true ∧ ∃ (h' : Hp), h'_1.store b 1 [Value.slice a_2 m_1 n_1] = some h' ∧ ∃ (m' : Nat), lessN m' m ∧ I [Value.int IntKind.i64 (subW IntKind.i64 n 1)] m' h'
 else K (Value.tuple (Array.mk [])) h) := by kernel_rfl

def shp_WString : Nat → List (Tmp × TypeId) := fun i => []
theorem vc_WString (C : FuncId → List Value → Hp → (Value → Hp → Prop) → Prop) (b : Nat) (h : Hp) (K : Value → Hp → Prop) : vBody Tryz.prog C pfk shp_WString Tryz.f220 (Tryz.f220.body.getD .skip) [.pointer (some ⟨b, 0, none⟩)] h K = (
 if isN (some (Addr.mk b 0 none)) = true then K (Value.string (ByteArray.mk (Array.mk []))) h else (some (Addr.mk b 0 none)).isSome = true ∧ plainA (some (Addr.mk b 0 none)) = true ∧ ∃ (a : Option Addr), ∃ (l : Nat), ∃ (c : Nat), (plainA (some (Addr.mk b 1 none)) = true ∧ h.cellsAt b 1 1 = some [Value.slice a l c]) ∧ ∃ (s : ByteArray), readStr a l h s ∧ K (Value.string s) h) := by kernel_rfl

def shp_CRC : Nat → List (Tmp × TypeId) := fun i => if i = 3 then [(3, 60), (8, 3)] else []
theorem vc_CRC (C : FuncId → List Value → Hp → (Value → Hp → Prop) → Prop) (a : Option Addr) (l c : Nat) (h : Hp) (K : Value → Hp → Prop) : vBody Tryz.prog C pfk shp_CRC Tryz.f222 (Tryz.f222.body.getD .skip) [.slice a l c] h K = (
 ∃ (I : List Value → Nat → Hp → Prop),
 (∃ (m : Nat), I [Value.int IntKind.u32 4294967295, Value.int IntKind.i64 0] m h) ∧
 ∀ (n n_1 : Int) (m : Nat) (h : Hp),
 I [Value.int IntKind.u32 n, Value.int IntKind.i64 n_1] m h →
 if ltI n_1 (natI l) = true then
 (a.isSome = true ∧ inR n_1 l) ∧
 ∃ (s : ByteArray), (plainA (some (Addr.mk (blk a) (plusI (off a) n_1 1) none)) = true ∧ h.cellsAt (blk a) (plusI (off a) n_1 1) 1 = some [Value.string s]) ∧ C 280 [Value.int IntKind.u32 n, Value.string s] h fun (v : Value) (h' : Hp) => ∃ (n : Int), v = Value.int IntKind.u32 n ∧ ∃ (m' : Nat), lessN m' m ∧ I [Value.int IntKind.u32 n, Value.int IntKind.i64 (addW IntKind.i64 n_1 1)] m' h'
 else K (Value.int IntKind.u32 (comW IntKind.u32 n)) h) := by kernel_rfl

def shp_feed : Nat → List (Tmp × TypeId) := fun i => if i = 2 then [(0, 60), (9, 3)] else if i = 6 then [(0, 60), (18, 3)] else []
theorem vc_feed (C : FuncId → List Value → Hp → (Value → Hp → Prop) → Prop) (r : Int) (s : ByteArray) (h : Hp) (K : Value → Hp → Prop) : vBody Tryz.prog C pfk shp_feed Tryz.f280 (Tryz.f280.body.getD .skip) [.int .u32 r, .string s] h K = (
 ∃ (I : List Value → Nat → Hp → Prop),
 (∃ (m : Nat), I [Value.int IntKind.u32 r, Value.int IntKind.i64 0] m h) ∧
 ∀ (n n_1 : Int) (m : Nat) (h : Hp),
 I [Value.int IntKind.u32 n, Value.int IntKind.i64 n_1] m h →
 if ltI n_1 (natI (lenS s)) = true then
 inR n_1 (lenS s) ∧
 ∃ (I_1 : List Value → Nat → Hp → Prop),
 (∃ (m : Nat), I_1 [Value.int IntKind.u32 (xorW IntKind.u32 n (toW IntKind.u32 (byteAt s n_1))), Value.int IntKind.i64 0] m h) ∧
 ∀ (n n_2 : Int) (m_1 : Nat) (h : Hp),
 I_1 [Value.int IntKind.u32 n, Value.int IntKind.i64 n_2] m_1 h →
 if ltI n_2 8 = true then nonneg 1 ∧ if eqI (andW IntKind.u32 n 1) 1 = true then ∃ (m' : Nat), lessN m' m_1 ∧ I_1 [Value.int IntKind.u32 (xorW IntKind.u32 (shrW IntKind.u32 n 1) 3988292384), Value.int IntKind.i64 (addW IntKind.i64 n_2 1)] m' h else ∃ (m' : Nat), lessN m' m_1 ∧ I_1 [Value.int IntKind.u32 (shrW IntKind.u32 n 1), Value.int IntKind.i64 (addW IntKind.i64 n_2 1)] m' h
 else ∃ (m' : Nat), lessN m' m ∧ I [Value.int IntKind.u32 n, Value.int IntKind.i64 (addW IntKind.i64 n_1 1)] m' h
 else K (Value.int IntKind.u32 n) h) := by kernel_rfl

def shp_four : Nat → List (Tmp × TypeId) := fun i => []
theorem vc_four (C : FuncId → List Value → Hp → (Value → Hp → Prop) → Prop) (x : Int) (h : Hp) (K : Value → Hp → Prop) : vBody Tryz.prog C pfk shp_four Tryz.f221 (Tryz.f221.body.getD .skip) [.int .u32 x] h K = (
 C 214 [] h fun (v : Value) (h' : Hp) => ∃ (a : Option Addr), v = Value.pointer a ∧ C 215 [Value.pointer a, Value.int IntKind.u32 x] h' fun (v : Value) (h' : Hp) => v = Value.tuple (Array.mk []) ∧ C 220 [Value.pointer a] h' fun (v : Value) (h' : Hp) => ∃ (s : ByteArray), v = Value.string s ∧ K (Value.string s) h') := by kernel_rfl

def shp_May : Nat → List (Tmp × TypeId) := fun i => []
theorem vc_May (C : FuncId → List Value → Hp → (Value → Hp → Prop) → Prop) (p w : Int) (h : Hp) (K : Value → Hp → Prop) : vBody Tryz.prog C pfk shp_May Tryz.f100 (Tryz.f100.body.getD .skip) [.agg (Array.mk [.int .i64 p, .int .i64 w])] h K = (
 ∀ (h' : Hp),
 h' = h.alloc [Value.int IntKind.i64 p, Value.int IntKind.i64 w] 45 →
 plainA (some (Addr.mk h.next 0 none)) = true ∧
 ∃ (n : Int),
 (plainA (some (Addr.mk h.next 0 none)) = true ∧ h'.cellsAt h.next 0 1 = some [Value.int IntKind.i64 n]) ∧
 if eqI n 1024 = true then
 if eqI n 1024 = true then
 plainA (some (Addr.mk h.next 0 none)) = true ∧
 ∃ (n : Int), (plainA (some (Addr.mk h.next 1 none)) = true ∧ h'.cellsAt h.next 1 1 = some [Value.int IntKind.i64 n]) ∧ (geI n 1 = true → plainA (some (Addr.mk h.next 0 none)) = true) ∧ ∃ (n_1 : Int), (geI n 1 = true → plainA (some (Addr.mk h.next 1 none)) = true ∧ h'.cellsAt h.next 1 1 = some [Value.int IntKind.i64 n_1]) ∧ K (Value.bool (sel (geI n 1) (leI n_1 32) false)) h'
 else K (Value.bool false) h'
 else
 if eqI n 2048 = true then
 if eqI n 2048 = true then
 plainA (some (Addr.mk h.next 0 none)) = true ∧
 ∃ (n : Int), (plainA (some (Addr.mk h.next 1 none)) = true ∧ h'.cellsAt h.next 1 1 = some [Value.int IntKind.i64 n]) ∧ (geI n 1 = true → plainA (some (Addr.mk h.next 0 none)) = true) ∧ ∃ (n_1 : Int), (geI n 1 = true → plainA (some (Addr.mk h.next 1 none)) = true ∧ h'.cellsAt h.next 1 1 = some [Value.int IntKind.i64 n_1]) ∧ K (Value.bool (sel (geI n 1) (leI n_1 32) false)) h'
 else K (Value.bool false) h'
 else
 if eqI n 4096 = true then
 if eqI n 4096 = true then
 plainA (some (Addr.mk h.next 0 none)) = true ∧
 ∃ (n : Int), (plainA (some (Addr.mk h.next 1 none)) = true ∧ h'.cellsAt h.next 1 1 = some [Value.int IntKind.i64 n]) ∧ (geI n 1 = true → plainA (some (Addr.mk h.next 0 none)) = true) ∧ ∃ (n_1 : Int), (geI n 1 = true → plainA (some (Addr.mk h.next 1 none)) = true ∧ h'.cellsAt h.next 1 1 = some [Value.int IntKind.i64 n_1]) ∧ K (Value.bool (sel (geI n 1) (leI n_1 32) false)) h'
 else K (Value.bool false) h'
 else
 if eqI n 8192 = true then
 plainA (some (Addr.mk h.next 0 none)) = true ∧
 ∃ (n : Int), (plainA (some (Addr.mk h.next 1 none)) = true ∧ h'.cellsAt h.next 1 1 = some [Value.int IntKind.i64 n]) ∧ (geI n 1 = true → plainA (some (Addr.mk h.next 0 none)) = true) ∧ ∃ (n_1 : Int), (geI n 1 = true → plainA (some (Addr.mk h.next 1 none)) = true ∧ h'.cellsAt h.next 1 1 = some [Value.int IntKind.i64 n_1]) ∧ K (Value.bool (sel (geI n 1) (leI n_1 32) false)) h'
 else K (Value.bool false) h') := by kernel_rfl

def shp_named : Nat → List (Tmp × TypeId) := fun i => []
theorem vc_named (C : FuncId → List Value → Hp → (Value → Hp → Prop) → Prop) (x : Int) (h : Hp) (K : Value → Hp → Prop) : vBody Tryz.prog C pfk shp_named Tryz.f276 (Tryz.f276.body.getD .skip) [.int .u32 x] h K = (
 K (Value.bool (sel (geI x 2) (ltI x 2147483648) false)) h) := by kernel_rfl

def shp_Room : Nat → List (Tmp × TypeId) := fun i => []
theorem vc_Room (C : FuncId → List Value → Hp → (Value → Hp → Prop) → Prop) (p w : Int) (h : Hp) (K : Value → Hp → Prop) : vBody Tryz.prog C pfk shp_Room Tryz.f132 (Tryz.f132.body.getD .skip) [.agg (Array.mk [.int .i64 p, .int .i64 w])] h K = (
 ∀ (h' : Hp), h' = h.alloc [Value.int IntKind.i64 p, Value.int IntKind.i64 w] 45 → plainA (some (Addr.mk h.next 0 none)) = true ∧ ∃ (n : Int), (plainA (some (Addr.mk h.next 0 none)) = true ∧ h'.cellsAt h.next 0 1 = some [Value.int IntKind.i64 n]) ∧ K (Value.int IntKind.i64 (subW IntKind.i64 n 32)) h') := by kernel_rfl

def shp_PCheck : Nat → List (Tmp × TypeId) := fun i => []
theorem vc_PCheck (C : FuncId → List Value → Hp → (Value → Hp → Prop) → Prop) (p w kind no ver : Int) (body : ByteArray) (h : Hp) (K : Value → Hp → Prop) : vBody Tryz.prog C pfk shp_PCheck Tryz.f213 (Tryz.f213.body.getD .skip) [.agg (Array.mk [.int .i64 p, .int .i64 w]), .agg (Array.mk [.int .u8 kind, .int .u32 no, .int .u64 ver, .string body])] h K = (
 ∀ (h' : Hp),
 h' = h.alloc [Value.int IntKind.i64 p, Value.int IntKind.i64 w] 45 →
 ∀ (h'_1 : Hp),
 h'_1 = h'.alloc [Value.int IntKind.u8 kind, Value.int IntKind.u32 no, Value.int IntKind.u64 ver, Value.string body] 261 →
 ∃ (n : Int),
 ∃ (n_1 : Int),
 (plainA (some (Addr.mk h.next 0 none)) = true ∧ h'_1.cellsAt h.next 0 2 = some [Value.int IntKind.i64 n, Value.int IntKind.i64 n_1]) ∧
 C 100 [Value.agg (Array.mk [Value.int IntKind.i64 n, Value.int IntKind.i64 n_1])] h'_1 fun (v : Value) (h'_2 : Hp) =>
 ∃ (b : Bool),
 v = Value.bool b ∧
 if notB b = true then K (Value.int IntKind.i64 2) h'_2
 else
 plainA (some (Addr.mk h'.next 0 none)) = true ∧
 ∃ (n : Int),
 (plainA (some (Addr.mk h'.next 0 none)) = true ∧ h'_2.cellsAt h'.next 0 1 = some [Value.int IntKind.u8 n]) ∧
 (notB (ltI n 1) = true → plainA (some (Addr.mk h'.next 0 none)) = true) ∧
 ∃ (n_2 : Int),
 (notB (ltI n 1) = true → plainA (some (Addr.mk h'.next 0 none)) = true ∧ h'_2.cellsAt h'.next 0 1 = some [Value.int IntKind.u8 n_2]) ∧
 if sel (ltI n 1) true (gtI n_2 3) = true then K (Value.int IntKind.i64 50) h'_2
 else
 plainA (some (Addr.mk h'.next 0 none)) = true ∧
 ∃ (n : Int),
 (plainA (some (Addr.mk h'.next 1 none)) = true ∧ h'_2.cellsAt h'.next 1 1 = some [Value.int IntKind.u32 n]) ∧
 C 276 [Value.int IntKind.u32 n] h'_2 fun (v : Value) (h'_3 : Hp) =>
 ∃ (b : Bool),
 v = Value.bool b ∧
 (notB (notB b) = true → plainA (some (Addr.mk h'.next 0 none)) = true) ∧
 ∃ (n : Int),
 (notB (notB b) = true → plainA (some (Addr.mk h'.next 2 none)) = true ∧ h'_3.cellsAt h'.next 2 1 = some [Value.int IntKind.u64 n]) ∧
 (notB (sel (notB b) true (ltI n 1)) = true → plainA (some (Addr.mk h'.next 0 none)) = true) ∧
 ∃ (n_3 : Int),
 (notB (sel (notB b) true (ltI n 1)) = true → plainA (some (Addr.mk h'.next 2 none)) = true ∧ h'_3.cellsAt h'.next 2 1 = some [Value.int IntKind.u64 n_3]) ∧
 if sel (sel (notB b) true (ltI n 1)) true (gtI n_3 1099511627776) = true then K (Value.int IntKind.i64 2) h'_3
 else
 plainA (some (Addr.mk h'.next 0 none)) = true ∧
 ∃ (s : ByteArray),
 (plainA (some (Addr.mk h'.next 3 none)) = true ∧ h'_3.cellsAt h'.next 3 1 = some [Value.string s]) ∧
 ∃ (n : Int),
 ∃ (n_4 : Int),
 (plainA (some (Addr.mk h.next 0 none)) = true ∧ h'_3.cellsAt h.next 0 2 = some [Value.int IntKind.i64 n, Value.int IntKind.i64 n_4]) ∧
 C 132 [Value.agg (Array.mk [Value.int IntKind.i64 n, Value.int IntKind.i64 n_4])] h'_3 fun (v : Value) (h'_4 : Hp) =>
 ∃ (n : Int), v = Value.int IntKind.i64 n ∧ (plainA (some (Addr.mk h'.next 3 none)) = true ∧ h'_4.cellsAt h'.next 3 1 = some [Value.string s]) ∧ if gtI (natI (lenS s)) n = true then K (Value.int IntKind.i64 4) h'_4 else K (Value.int IntKind.i64 0) h'_4) := by kernel_rfl

def shp_PWrite : Nat → List (Tmp × TypeId) := fun i => []
theorem vc_PWrite (C : FuncId → List Value → Hp → (Value → Hp → Prop) → Prop) (p w kind no ver : Int) (body : ByteArray) (h : Hp) (K : Value → Hp → Prop) : vBody Tryz.prog C pfk shp_PWrite Tryz.f141 (Tryz.f141.body.getD .skip) [.agg (Array.mk [.int .i64 p, .int .i64 w]), .agg (Array.mk [.int .u8 kind, .int .u32 no, .int .u64 ver, .string body])] h K = (
 ∀ (h' : Hp),
 h' = h.alloc [Value.int IntKind.i64 p, Value.int IntKind.i64 w] 45 →
 ∀ (h'_1 : Hp),
 h'_1 = h'.alloc [Value.int IntKind.u8 kind, Value.int IntKind.u32 no, Value.int IntKind.u64 ver, Value.string body] 261 →
 ∃ (n : Int),
 ∃ (n_1 : Int),
 (plainA (some (Addr.mk h.next 0 none)) = true ∧ h'_1.cellsAt h.next 0 2 = some [Value.int IntKind.i64 n, Value.int IntKind.i64 n_1]) ∧
 ∃ (n_2 : Int),
 ∃ (n_3 : Int),
 ∃ (n_4 : Int),
 ∃ (s : ByteArray),
 (plainA (some (Addr.mk h'.next 0 none)) = true ∧ h'_1.cellsAt h'.next 0 4 = some [Value.int IntKind.u8 n_2, Value.int IntKind.u32 n_3, Value.int IntKind.u64 n_4, Value.string s]) ∧
 C 213 [Value.agg (Array.mk [Value.int IntKind.i64 n, Value.int IntKind.i64 n_1]), Value.agg (Array.mk [Value.int IntKind.u8 n_2, Value.int IntKind.u32 n_3, Value.int IntKind.u64 n_4, Value.string s])] h'_1 fun (v : Value) (h'_2 : Hp) =>
 ∃ (n : Int),
 v = Value.int IntKind.i64 n ∧
 if neI n 0 = true then K (Value.tuple (Array.mk [Value.string (ByteArray.mk (Array.mk [])), Value.int IntKind.i64 n])) h'_2
 else
 C 214 [] h'_2 fun (v : Value) (h'_3 : Hp) =>
 ∃ (a : Option Addr),
 v = Value.pointer a ∧
 C 215 [Value.pointer a, Value.int IntKind.u32 1213681735] h'_3 fun (v : Value) (h'_4 : Hp) =>
 v = Value.tuple (Array.mk []) ∧
 C 216 [Value.pointer a, Value.int IntKind.u8 1] h'_4 fun (v : Value) (h'_5 : Hp) =>
 v = Value.tuple (Array.mk []) ∧
 plainA (some (Addr.mk h'.next 0 none)) = true ∧
 ∃ (n : Int),
 (plainA (some (Addr.mk h'.next 0 none)) = true ∧ h'_5.cellsAt h'.next 0 1 = some [Value.int IntKind.u8 n]) ∧
 C 217 [Value.pointer a, Value.int IntKind.u8 n] h'_5 fun (v : Value) (h'_6 : Hp) =>
 v = Value.tuple (Array.mk []) ∧
 plainA (some (Addr.mk h'.next 0 none)) = true ∧
 ∃ (s : ByteArray),
 (plainA (some (Addr.mk h'.next 3 none)) = true ∧ h'_6.cellsAt h'.next 3 1 = some [Value.string s]) ∧
 C 218 [Value.pointer a, Value.int IntKind.u16 (toW IntKind.u16 (natI (lenS s)))] h'_6 fun (v : Value) (h'_7 : Hp) =>
 v = Value.tuple (Array.mk []) ∧
 plainA (some (Addr.mk h'.next 0 none)) = true ∧
 ∃ (n : Int),
 (plainA (some (Addr.mk h'.next 1 none)) = true ∧ h'_7.cellsAt h'.next 1 1 = some [Value.int IntKind.u32 n]) ∧
 C 215 [Value.pointer a, Value.int IntKind.u32 n] h'_7 fun (v : Value) (h'_8 : Hp) =>
 v = Value.tuple (Array.mk []) ∧
 C 215 [Value.pointer a, Value.int IntKind.u32 0] h'_8 fun (v : Value) (h'_9 : Hp) =>
 v = Value.tuple (Array.mk []) ∧
 plainA (some (Addr.mk h'.next 0 none)) = true ∧
 ∃ (n : Int),
 (plainA (some (Addr.mk h'.next 2 none)) = true ∧ h'_9.cellsAt h'.next 2 1 = some [Value.int IntKind.u64 n]) ∧
 C 219 [Value.pointer a, Value.int IntKind.u64 n] h'_9 fun (v : Value) (h'_10 : Hp) =>
 v = Value.tuple (Array.mk []) ∧
 C 215 [Value.pointer a, Value.int IntKind.u32 0] h'_10 fun (v : Value) (h'_11 : Hp) =>
 v = Value.tuple (Array.mk []) ∧
 C 220 [Value.pointer a] h'_11 fun (v : Value) (h'_12 : Hp) =>
 ∃ (s : ByteArray),
 v = Value.string s ∧
 plainA (some (Addr.mk h'.next 0 none)) = true ∧
 ∃ (s_1 : ByteArray),
 (plainA (some (Addr.mk h'.next 3 none)) = true ∧ h'_12.cellsAt h'.next 3 1 = some [Value.string s_1]) ∧
 ∃ (n : Int),
 ∃ (n_5 : Int),
 (plainA (some (Addr.mk h.next 0 none)) = true ∧ h'_12.cellsAt h.next 0 2 = some [Value.int IntKind.i64 n, Value.int IntKind.i64 n_5]) ∧
 plainA (some (Addr.mk h'.next 0 none)) = true ∧
 ∃ (s_2 : ByteArray),
 (plainA (some (Addr.mk h'.next 3 none)) = true ∧ h'_12.cellsAt h'.next 3 1 = some [Value.string s_2]) ∧
 C 132 [Value.agg (Array.mk [Value.int IntKind.i64 n, Value.int IntKind.i64 n_5])] h'_12 fun (v : Value) (h'_13 : Hp) =>
 ∃ (n : Int),
 v = Value.int IntKind.i64 n ∧
 (plainA (some (Addr.mk h'.next 3 none)) = true ∧ h'_13.cellsAt h'.next 3 1 = some [Value.string s_2]) ∧
 (plainA (some (Addr.mk h'.next 3 none)) = true ∧ h'_13.cellsAt h'.next 3 1 = some [Value.string s_1]) ∧
 ∃ (a : Option Addr),
 ∃ (m : Nat),
 ∃ (n_6 : Nat),
 ∃ (h'_14 : Hp),
 cmakeSlice Tryz.prog 200 (Value.int IntKind.i64 (subW IntKind.i64 n (natI (lenS s_2)))) (Value.int IntKind.i64 (subW IntKind.i64 n (natI (lenS s_2)))) h'_13 = some (Value.slice a m n_6, h'_14) ∧
 (plainA (some (Addr.mk h'.next 3 none)) = true ∧ h'_14.cellsAt h'.next 3 1 = some [Value.string s_1]) ∧
 ∃ (s_3 : ByteArray),
 readStr a m h'_14 s_3 ∧
 catOk s_1 s_3 ∧
 ∀ (h' : Hp),
 h' = h'_14.alloc [Value.string s, Value.string (strCat s_1 s_3)] 9 →
 C 222 [Value.slice (some (Addr.mk h'_14.next 0 none)) 2 2] h' fun (v : Value) (h' : Hp) =>
 ∃ (n : Int),
 v = Value.int IntKind.u32 n ∧
 C 221 [Value.int IntKind.u32 n] h' fun (v : Value) (h' : Hp) =>
 ∃ (s_4 : ByteArray), v = Value.string s_4 ∧ catOk s s_4 ∧ catOk (strCat s s_4) (strCat s_1 s_3) ∧ K (Value.tuple (Array.mk [Value.string (strCat (strCat s s_4) (strCat s_1 s_3)), Value.int IntKind.i64 0])) h') := by kernel_rfl

def shp_ROpen : Nat → List (Tmp × TypeId) := fun i => []
theorem vc_ROpen (C : FuncId → List Value → Hp → (Value → Hp → Prop) → Prop) (s : ByteArray) (h : Hp) (K : Value → Hp → Prop) : vBody Tryz.prog C pfk shp_ROpen Tryz.f118 (Tryz.f118.body.getD .skip) [.string s] h K = (
 ∀ (h' : Hp), h' = h.alloc [Value.bool true, Value.string s, Value.int IntKind.i64 (Int.ofNat 0), Value.int IntKind.i64 (Int.ofNat 0)] 318 → K (Value.pointer (some (Addr.mk h.next 0 none))) h') := by kernel_rfl

def shp_RDead : Nat → List (Tmp × TypeId) := fun i => []
theorem vc_RDead (C : FuncId → List Value → Hp → (Value → Hp → Prop) → Prop) (b : Nat) (h : Hp) (K : Value → Hp → Prop) : vBody Tryz.prog C pfk shp_RDead Tryz.f185 (Tryz.f185.body.getD .skip) [.pointer (some ⟨b, 0, none⟩)] h K = (
 (notB (isN (some (Addr.mk b 0 none))) = true → (some (Addr.mk b 0 none)).isSome = true) ∧
 (notB (isN (some (Addr.mk b 0 none))) = true → plainA (some (Addr.mk b 0 none)) = true) ∧
 ∃ (b_1 : Bool),
 (notB (isN (some (Addr.mk b 0 none))) = true → plainA (some (Addr.mk b 0 none)) = true ∧ h.cellsAt b 0 1 = some [Value.bool b_1]) ∧
 (notB (sel (isN (some (Addr.mk b 0 none))) true (notB b_1)) = true → (some (Addr.mk b 0 none)).isSome = true) ∧
 (notB (sel (isN (some (Addr.mk b 0 none))) true (notB b_1)) = true → plainA (some (Addr.mk b 0 none)) = true) ∧ ∃ (n : Int), (notB (sel (isN (some (Addr.mk b 0 none))) true (notB b_1)) = true → plainA (some (Addr.mk b 3 none)) = true ∧ h.cellsAt b 3 1 = some [Value.int IntKind.i64 n]) ∧ K (Value.bool (sel (sel (isN (some (Addr.mk b 0 none))) true (notB b_1)) true (neI n 0))) h) := by kernel_rfl

def shp_RLeft : Nat → List (Tmp × TypeId) := fun i => []
theorem vc_RLeft (C : FuncId → List Value → Hp → (Value → Hp → Prop) → Prop) (b : Nat) (h : Hp) (K : Value → Hp → Prop) : vBody Tryz.prog C pfk shp_RLeft Tryz.f187 (Tryz.f187.body.getD .skip) [.pointer (some ⟨b, 0, none⟩)] h K = (
 if isN (some (Addr.mk b 0 none)) = true then K (Value.int IntKind.i64 0) h
 else
 (some (Addr.mk b 0 none)).isSome = true ∧
 plainA (some (Addr.mk b 0 none)) = true ∧
 ∃ (s : ByteArray), (plainA (some (Addr.mk b 1 none)) = true ∧ h.cellsAt b 1 1 = some [Value.string s]) ∧ (some (Addr.mk b 0 none)).isSome = true ∧ plainA (some (Addr.mk b 0 none)) = true ∧ ∃ (n : Int), (plainA (some (Addr.mk b 2 none)) = true ∧ h.cellsAt b 2 1 = some [Value.int IntKind.i64 n]) ∧ K (Value.int IntKind.i64 (subW IntKind.i64 (natI (lenS s)) n)) h) := by kernel_rfl

def shp_RFail : Nat → List (Tmp × TypeId) := fun i => []
theorem vc_RFail (C : FuncId → List Value → Hp → (Value → Hp → Prop) → Prop) (b : Nat) (code place : Int) (h : Hp) (K : Value → Hp → Prop) : vBody Tryz.prog C pfk shp_RFail Tryz.f188 (Tryz.f188.body.getD .skip) [.pointer (some ⟨b, 0, none⟩), .int .i64 code, .int .i64 place] h K = (
 (some (Addr.mk b 0 none)).isSome = true ∧
 plainA (some (Addr.mk b 0 none)) = true ∧ plainA (some (Addr.mk b 3 none)) = true ∧ ∃ (h' : Hp), h.store b 3 [Value.int IntKind.i64 code] = some h' ∧ (some (Addr.mk b 0 none)).isSome = true ∧ plainA (some (Addr.mk b 0 none)) = true ∧ plainA (some (Addr.mk b 2 none)) = true ∧ ∃ (h'_1 : Hp), h'.store b 2 [Value.int IntKind.i64 place] = some h'_1 ∧ K (Value.tuple (Array.mk [])) h'_1) := by kernel_rfl

def shp_RRaw : Nat → List (Tmp × TypeId) := fun i => []
theorem vc_RRaw (C : FuncId → List Value → Hp → (Value → Hp → Prop) → Prop) (b : Nat) (n : Int) (h : Hp) (K : Value → Hp → Prop) : vBody Tryz.prog C pfk shp_RRaw Tryz.f190 (Tryz.f190.body.getD .skip) [.pointer (some ⟨b, 0, none⟩), .int .i64 n] h K = (
 C 185 [Value.pointer (some (Addr.mk b 0 none))] h fun (v : Value) (h' : Hp) =>
 ∃ (b_1 : Bool),
 v = Value.bool b_1 ∧
 if sel b_1 true (leI n 0) = true then K (Value.string (ByteArray.mk (Array.mk []))) h'
 else
 C 187 [Value.pointer (some (Addr.mk b 0 none))] h' fun (v : Value) (h' : Hp) =>
 ∃ (n_1 : Int),
 v = Value.int IntKind.i64 n_1 ∧
 if ltI n_1 n = true then
 (some (Addr.mk b 0 none)).isSome = true ∧
 plainA (some (Addr.mk b 0 none)) = true ∧ ∃ (n : Int), (plainA (some (Addr.mk b 2 none)) = true ∧ h'.cellsAt b 2 1 = some [Value.int IntKind.i64 n]) ∧ C 188 [Value.pointer (some (Addr.mk b 0 none)), Value.int IntKind.i64 10, Value.int IntKind.i64 n] h' fun (v : Value) (h' : Hp) => v = Value.tuple (Array.mk []) ∧ K (Value.string (ByteArray.mk (Array.mk []))) h'
 else
 (some (Addr.mk b 0 none)).isSome = true ∧
 plainA (some (Addr.mk b 0 none)) = true ∧
 ∃ (s : ByteArray),
 (plainA (some (Addr.mk b 1 none)) = true ∧ h'.cellsAt b 1 1 = some [Value.string s]) ∧
 (some (Addr.mk b 0 none)).isSome = true ∧
 plainA (some (Addr.mk b 0 none)) = true ∧
 ∃ (n_2 : Int),
 (plainA (some (Addr.mk b 2 none)) = true ∧ h'.cellsAt b 2 1 = some [Value.int IntKind.i64 n_2]) ∧
 (some (Addr.mk b 0 none)).isSome = true ∧
 plainA (some (Addr.mk b 0 none)) = true ∧
 ∃ (n_3 : Int),
 (plainA (some (Addr.mk b 2 none)) = true ∧ h'.cellsAt b 2 1 = some [Value.int IntKind.i64 n_3]) ∧
 subOk s n_2 (addW IntKind.i64 n_3 n) ∧
 (some (Addr.mk b 0 none)).isSome = true ∧
 plainA (some (Addr.mk b 0 none)) = true ∧
 ∃ (n_4 : Int),
 (plainA (some (Addr.mk b 2 none)) = true ∧ h'.cellsAt b 2 1 = some [Value.int IntKind.i64 n_4]) ∧
 (some (Addr.mk b 0 none)).isSome = true ∧ plainA (some (Addr.mk b 0 none)) = true ∧ plainA (some (Addr.mk b 2 none)) = true ∧ ∃ (h'_1 : Hp), h'.store b 2 [Value.int IntKind.i64 (addW IntKind.i64 n_4 n)] = some h'_1 ∧ K (Value.string (strSub s n_2 (addW IntKind.i64 n_3 n))) h'_1) := by kernel_rfl

def shp_TakeU8 : Nat → List (Tmp × TypeId) := fun i => if i = 9 then [(4, 41), (20, 3)] else []
theorem vc_TakeU8 (C : FuncId → List Value → Hp → (Value → Hp → Prop) → Prop) (b : Nat) (h : Hp) (K : Value → Hp → Prop) : vBody Tryz.prog C pfk shp_TakeU8 Tryz.f119 (Tryz.f119.body.getD .skip) [.pointer (some ⟨b, 0, none⟩)] h K = (
 C 185 [Value.pointer (some (Addr.mk b 0 none))] h fun (v : Value) (h' : Hp) =>
 ∃ (b_1 : Bool),
 v = Value.bool b_1 ∧
 if b_1 = true then K (Value.int IntKind.u8 0) h'
 else
 C 186 [] h' fun (v : Value) (h' : Hp) =>
 ∃ (n : Int),
 v = Value.int IntKind.i64 n ∧
 C 187 [Value.pointer (some (Addr.mk b 0 none))] h' fun (v : Value) (h' : Hp) =>
 ∃ (n_1 : Int),
 v = Value.int IntKind.i64 n_1 ∧
 if ltI n_1 n = true then
 (some (Addr.mk b 0 none)).isSome = true ∧
 plainA (some (Addr.mk b 0 none)) = true ∧ ∃ (n : Int), (plainA (some (Addr.mk b 2 none)) = true ∧ h'.cellsAt b 2 1 = some [Value.int IntKind.i64 n]) ∧ C 188 [Value.pointer (some (Addr.mk b 0 none)), Value.int IntKind.i64 10, Value.int IntKind.i64 n] h' fun (v : Value) (h' : Hp) => v = Value.tuple (Array.mk []) ∧ K (Value.int IntKind.u8 0) h'
 else
 ∃ (I : List Value → Nat → Hp → Prop),
 (∃ (m : Nat), I [Value.int IntKind.u64 0, Value.int IntKind.i64 0] m h') ∧
 ∀ (n_2 n_3 : Int) (m : Nat) (h : Hp),
 I [Value.int IntKind.u64 n_2, Value.int IntKind.i64 n_3] m h →
 if ltI n_3 n = true then
 nonneg 8 ∧
 (some (Addr.mk b 0 none)).isSome = true ∧
 plainA (some (Addr.mk b 0 none)) = true ∧
 ∃ (s : ByteArray),
 (plainA (some (Addr.mk b 1 none)) = true ∧ h.cellsAt b 1 1 = some [Value.string s]) ∧
 (some (Addr.mk b 0 none)).isSome = true ∧
 plainA (some (Addr.mk b 0 none)) = true ∧
 ∃ (n : Int), (plainA (some (Addr.mk b 2 none)) = true ∧ h.cellsAt b 2 1 = some [Value.int IntKind.i64 n]) ∧ inR (addW IntKind.i64 n n_3) (lenS s) ∧ ∃ (m' : Nat), lessN m' m ∧ I [Value.int IntKind.u64 (orW IntKind.u64 (shlW IntKind.u64 n_2 8) (toW IntKind.u64 (byteAt s (addW IntKind.i64 n n_3)))), Value.int IntKind.i64 (addW IntKind.i64 n_3 1)] m' h
 else
 (some (Addr.mk b 0 none)).isSome = true ∧
 plainA (some (Addr.mk b 0 none)) = true ∧
 ∃ (n_4 : Int),
 (plainA (some (Addr.mk b 2 none)) = true ∧ h.cellsAt b 2 1 = some [Value.int IntKind.i64 n_4]) ∧ (some (Addr.mk b 0 none)).isSome = true ∧ plainA (some (Addr.mk b 0 none)) = true ∧ plainA (some (Addr.mk b 2 none)) = true ∧ ∃ (h' : Hp), h.store b 2 [Value.int IntKind.i64 (addW IntKind.i64 n_4 n)] = some h' ∧ K (Value.int IntKind.u8 (toW IntKind.u8 n_2)) h') := by kernel_rfl

def shp_TakeU16 : Nat → List (Tmp × TypeId) := fun i => if i = 9 then [(4, 41), (20, 3)] else []
theorem vc_TakeU16 (C : FuncId → List Value → Hp → (Value → Hp → Prop) → Prop) (b : Nat) (h : Hp) (K : Value → Hp → Prop) : vBody Tryz.prog C pfk shp_TakeU16 Tryz.f292 (Tryz.f292.body.getD .skip) [.pointer (some ⟨b, 0, none⟩)] h K = (
 C 185 [Value.pointer (some (Addr.mk b 0 none))] h fun (v : Value) (h' : Hp) =>
 ∃ (b_1 : Bool),
 v = Value.bool b_1 ∧
 if b_1 = true then K (Value.int IntKind.u16 0) h'
 else
 C 278 [] h' fun (v : Value) (h' : Hp) =>
 ∃ (n : Int),
 v = Value.int IntKind.i64 n ∧
 C 187 [Value.pointer (some (Addr.mk b 0 none))] h' fun (v : Value) (h' : Hp) =>
 ∃ (n_1 : Int),
 v = Value.int IntKind.i64 n_1 ∧
 if ltI n_1 n = true then
 (some (Addr.mk b 0 none)).isSome = true ∧
 plainA (some (Addr.mk b 0 none)) = true ∧ ∃ (n : Int), (plainA (some (Addr.mk b 2 none)) = true ∧ h'.cellsAt b 2 1 = some [Value.int IntKind.i64 n]) ∧ C 188 [Value.pointer (some (Addr.mk b 0 none)), Value.int IntKind.i64 10, Value.int IntKind.i64 n] h' fun (v : Value) (h' : Hp) => v = Value.tuple (Array.mk []) ∧ K (Value.int IntKind.u16 0) h'
 else
 ∃ (I : List Value → Nat → Hp → Prop),
 (∃ (m : Nat), I [Value.int IntKind.u64 0, Value.int IntKind.i64 0] m h') ∧
 ∀ (n_2 n_3 : Int) (m : Nat) (h : Hp),
 I [Value.int IntKind.u64 n_2, Value.int IntKind.i64 n_3] m h →
 if ltI n_3 n = true then
 nonneg 8 ∧
 (some (Addr.mk b 0 none)).isSome = true ∧
 plainA (some (Addr.mk b 0 none)) = true ∧
 ∃ (s : ByteArray),
 (plainA (some (Addr.mk b 1 none)) = true ∧ h.cellsAt b 1 1 = some [Value.string s]) ∧
 (some (Addr.mk b 0 none)).isSome = true ∧
 plainA (some (Addr.mk b 0 none)) = true ∧
 ∃ (n : Int), (plainA (some (Addr.mk b 2 none)) = true ∧ h.cellsAt b 2 1 = some [Value.int IntKind.i64 n]) ∧ inR (addW IntKind.i64 n n_3) (lenS s) ∧ ∃ (m' : Nat), lessN m' m ∧ I [Value.int IntKind.u64 (orW IntKind.u64 (shlW IntKind.u64 n_2 8) (toW IntKind.u64 (byteAt s (addW IntKind.i64 n n_3)))), Value.int IntKind.i64 (addW IntKind.i64 n_3 1)] m' h
 else
 (some (Addr.mk b 0 none)).isSome = true ∧
 plainA (some (Addr.mk b 0 none)) = true ∧
 ∃ (n_4 : Int),
 (plainA (some (Addr.mk b 2 none)) = true ∧ h.cellsAt b 2 1 = some [Value.int IntKind.i64 n_4]) ∧ (some (Addr.mk b 0 none)).isSome = true ∧ plainA (some (Addr.mk b 0 none)) = true ∧ plainA (some (Addr.mk b 2 none)) = true ∧ ∃ (h' : Hp), h.store b 2 [Value.int IntKind.i64 (addW IntKind.i64 n_4 n)] = some h' ∧ K (Value.int IntKind.u16 (toW IntKind.u16 n_2)) h') := by kernel_rfl

def shp_TakeU32 : Nat → List (Tmp × TypeId) := fun i => if i = 9 then [(4, 41), (20, 3)] else []
theorem vc_TakeU32 (C : FuncId → List Value → Hp → (Value → Hp → Prop) → Prop) (b : Nat) (h : Hp) (K : Value → Hp → Prop) : vBody Tryz.prog C pfk shp_TakeU32 Tryz.f127 (Tryz.f127.body.getD .skip) [.pointer (some ⟨b, 0, none⟩)] h K = (
 C 185 [Value.pointer (some (Addr.mk b 0 none))] h fun (v : Value) (h' : Hp) =>
 ∃ (b_1 : Bool),
 v = Value.bool b_1 ∧
 if b_1 = true then K (Value.int IntKind.u32 0) h'
 else
 C 191 [] h' fun (v : Value) (h' : Hp) =>
 ∃ (n : Int),
 v = Value.int IntKind.i64 n ∧
 C 187 [Value.pointer (some (Addr.mk b 0 none))] h' fun (v : Value) (h' : Hp) =>
 ∃ (n_1 : Int),
 v = Value.int IntKind.i64 n_1 ∧
 if ltI n_1 n = true then
 (some (Addr.mk b 0 none)).isSome = true ∧
 plainA (some (Addr.mk b 0 none)) = true ∧ ∃ (n : Int), (plainA (some (Addr.mk b 2 none)) = true ∧ h'.cellsAt b 2 1 = some [Value.int IntKind.i64 n]) ∧ C 188 [Value.pointer (some (Addr.mk b 0 none)), Value.int IntKind.i64 10, Value.int IntKind.i64 n] h' fun (v : Value) (h' : Hp) => v = Value.tuple (Array.mk []) ∧ K (Value.int IntKind.u32 0) h'
 else
 ∃ (I : List Value → Nat → Hp → Prop),
 (∃ (m : Nat), I [Value.int IntKind.u64 0, Value.int IntKind.i64 0] m h') ∧
 ∀ (n_2 n_3 : Int) (m : Nat) (h : Hp),
 I [Value.int IntKind.u64 n_2, Value.int IntKind.i64 n_3] m h →
 if ltI n_3 n = true then
 nonneg 8 ∧
 (some (Addr.mk b 0 none)).isSome = true ∧
 plainA (some (Addr.mk b 0 none)) = true ∧
 ∃ (s : ByteArray),
 (plainA (some (Addr.mk b 1 none)) = true ∧ h.cellsAt b 1 1 = some [Value.string s]) ∧
 (some (Addr.mk b 0 none)).isSome = true ∧
 plainA (some (Addr.mk b 0 none)) = true ∧
 ∃ (n : Int), (plainA (some (Addr.mk b 2 none)) = true ∧ h.cellsAt b 2 1 = some [Value.int IntKind.i64 n]) ∧ inR (addW IntKind.i64 n n_3) (lenS s) ∧ ∃ (m' : Nat), lessN m' m ∧ I [Value.int IntKind.u64 (orW IntKind.u64 (shlW IntKind.u64 n_2 8) (toW IntKind.u64 (byteAt s (addW IntKind.i64 n n_3)))), Value.int IntKind.i64 (addW IntKind.i64 n_3 1)] m' h
 else
 (some (Addr.mk b 0 none)).isSome = true ∧
 plainA (some (Addr.mk b 0 none)) = true ∧
 ∃ (n_4 : Int),
 (plainA (some (Addr.mk b 2 none)) = true ∧ h.cellsAt b 2 1 = some [Value.int IntKind.i64 n_4]) ∧ (some (Addr.mk b 0 none)).isSome = true ∧ plainA (some (Addr.mk b 0 none)) = true ∧ plainA (some (Addr.mk b 2 none)) = true ∧ ∃ (h' : Hp), h.store b 2 [Value.int IntKind.i64 (addW IntKind.i64 n_4 n)] = some h' ∧ K (Value.int IntKind.u32 (toW IntKind.u32 n_2)) h') := by kernel_rfl

def shp_TakeU64 : Nat → List (Tmp × TypeId) := fun i => if i = 9 then [(4, 41), (20, 3)] else []
theorem vc_TakeU64 (C : FuncId → List Value → Hp → (Value → Hp → Prop) → Prop) (b : Nat) (h : Hp) (K : Value → Hp → Prop) : vBody Tryz.prog C pfk shp_TakeU64 Tryz.f293 (Tryz.f293.body.getD .skip) [.pointer (some ⟨b, 0, none⟩)] h K = (
 C 185 [Value.pointer (some (Addr.mk b 0 none))] h fun (v : Value) (h' : Hp) =>
 ∃ (b_1 : Bool),
 v = Value.bool b_1 ∧
 if b_1 = true then K (Value.int IntKind.u64 0) h'
 else
 C 279 [] h' fun (v : Value) (h' : Hp) =>
 ∃ (n : Int),
 v = Value.int IntKind.i64 n ∧
 C 187 [Value.pointer (some (Addr.mk b 0 none))] h' fun (v : Value) (h' : Hp) =>
 ∃ (n_1 : Int),
 v = Value.int IntKind.i64 n_1 ∧
 if ltI n_1 n = true then
 (some (Addr.mk b 0 none)).isSome = true ∧
 plainA (some (Addr.mk b 0 none)) = true ∧ ∃ (n : Int), (plainA (some (Addr.mk b 2 none)) = true ∧ h'.cellsAt b 2 1 = some [Value.int IntKind.i64 n]) ∧ C 188 [Value.pointer (some (Addr.mk b 0 none)), Value.int IntKind.i64 10, Value.int IntKind.i64 n] h' fun (v : Value) (h' : Hp) => v = Value.tuple (Array.mk []) ∧ K (Value.int IntKind.u64 0) h'
 else
 ∃ (I : List Value → Nat → Hp → Prop),
 (∃ (m : Nat), I [Value.int IntKind.u64 0, Value.int IntKind.i64 0] m h') ∧
 ∀ (n_2 n_3 : Int) (m : Nat) (h : Hp),
 I [Value.int IntKind.u64 n_2, Value.int IntKind.i64 n_3] m h →
 if ltI n_3 n = true then
 nonneg 8 ∧
 (some (Addr.mk b 0 none)).isSome = true ∧
 plainA (some (Addr.mk b 0 none)) = true ∧
 ∃ (s : ByteArray),
 (plainA (some (Addr.mk b 1 none)) = true ∧ h.cellsAt b 1 1 = some [Value.string s]) ∧
 (some (Addr.mk b 0 none)).isSome = true ∧
 plainA (some (Addr.mk b 0 none)) = true ∧
 ∃ (n : Int), (plainA (some (Addr.mk b 2 none)) = true ∧ h.cellsAt b 2 1 = some [Value.int IntKind.i64 n]) ∧ inR (addW IntKind.i64 n n_3) (lenS s) ∧ ∃ (m' : Nat), lessN m' m ∧ I [Value.int IntKind.u64 (orW IntKind.u64 (shlW IntKind.u64 n_2 8) (toW IntKind.u64 (byteAt s (addW IntKind.i64 n n_3)))), Value.int IntKind.i64 (addW IntKind.i64 n_3 1)] m' h
 else
 (some (Addr.mk b 0 none)).isSome = true ∧
 plainA (some (Addr.mk b 0 none)) = true ∧
 ∃ (n_4 : Int), (plainA (some (Addr.mk b 2 none)) = true ∧ h.cellsAt b 2 1 = some [Value.int IntKind.i64 n_4]) ∧ (some (Addr.mk b 0 none)).isSome = true ∧ plainA (some (Addr.mk b 0 none)) = true ∧ plainA (some (Addr.mk b 2 none)) = true ∧ ∃ (h' : Hp), h.store b 2 [Value.int IntKind.i64 (addW IntKind.i64 n_4 n)] = some h' ∧ K (Value.int IntKind.u64 n_2) h') := by kernel_rfl

def shp_TakeKind : Nat → List (Tmp × TypeId) := fun i => if i = 9 then [(4, 41), (20, 3)] else []
theorem vc_TakeKind (C : FuncId → List Value → Hp → (Value → Hp → Prop) → Prop) (b : Nat) (h : Hp) (K : Value → Hp → Prop) : vBody Tryz.prog C pfk shp_TakeKind Tryz.f409 (Tryz.f409.body.getD .skip) [.pointer (some ⟨b, 0, none⟩)] h K = (
 C 185 [Value.pointer (some (Addr.mk b 0 none))] h fun (v : Value) (h' : Hp) =>
 ∃ (b_1 : Bool),
 v = Value.bool b_1 ∧
 if b_1 = true then K (Value.int IntKind.u8 0) h'
 else
 C 277 [] h' fun (v : Value) (h' : Hp) =>
 ∃ (n : Int),
 v = Value.int IntKind.i64 n ∧
 C 187 [Value.pointer (some (Addr.mk b 0 none))] h' fun (v : Value) (h' : Hp) =>
 ∃ (n_1 : Int),
 v = Value.int IntKind.i64 n_1 ∧
 if ltI n_1 n = true then
 (some (Addr.mk b 0 none)).isSome = true ∧
 plainA (some (Addr.mk b 0 none)) = true ∧ ∃ (n : Int), (plainA (some (Addr.mk b 2 none)) = true ∧ h'.cellsAt b 2 1 = some [Value.int IntKind.i64 n]) ∧ C 188 [Value.pointer (some (Addr.mk b 0 none)), Value.int IntKind.i64 10, Value.int IntKind.i64 n] h' fun (v : Value) (h' : Hp) => v = Value.tuple (Array.mk []) ∧ K (Value.int IntKind.u8 0) h'
 else
 ∃ (I : List Value → Nat → Hp → Prop),
 (∃ (m : Nat), I [Value.int IntKind.u64 0, Value.int IntKind.i64 0] m h') ∧
 ∀ (n_2 n_3 : Int) (m : Nat) (h : Hp),
 I [Value.int IntKind.u64 n_2, Value.int IntKind.i64 n_3] m h →
 if ltI n_3 n = true then
 nonneg 8 ∧
 (some (Addr.mk b 0 none)).isSome = true ∧
 plainA (some (Addr.mk b 0 none)) = true ∧
 ∃ (s : ByteArray),
 (plainA (some (Addr.mk b 1 none)) = true ∧ h.cellsAt b 1 1 = some [Value.string s]) ∧
 (some (Addr.mk b 0 none)).isSome = true ∧
 plainA (some (Addr.mk b 0 none)) = true ∧
 ∃ (n : Int), (plainA (some (Addr.mk b 2 none)) = true ∧ h.cellsAt b 2 1 = some [Value.int IntKind.i64 n]) ∧ inR (addW IntKind.i64 n n_3) (lenS s) ∧ ∃ (m' : Nat), lessN m' m ∧ I [Value.int IntKind.u64 (orW IntKind.u64 (shlW IntKind.u64 n_2 8) (toW IntKind.u64 (byteAt s (addW IntKind.i64 n n_3)))), Value.int IntKind.i64 (addW IntKind.i64 n_3 1)] m' h
 else
 (some (Addr.mk b 0 none)).isSome = true ∧
 plainA (some (Addr.mk b 0 none)) = true ∧
 ∃ (n_4 : Int),
 (plainA (some (Addr.mk b 2 none)) = true ∧ h.cellsAt b 2 1 = some [Value.int IntKind.i64 n_4]) ∧ (some (Addr.mk b 0 none)).isSome = true ∧ plainA (some (Addr.mk b 0 none)) = true ∧ plainA (some (Addr.mk b 2 none)) = true ∧ ∃ (h' : Hp), h.store b 2 [Value.int IntKind.i64 (addW IntKind.i64 n_4 n)] = some h' ∧ K (Value.int IntKind.u8 (toW IntKind.u8 n_2)) h') := by kernel_rfl

def shp_PRead : Nat → List (Tmp × TypeId) := fun i => []
theorem vc_PRead (C : FuncId → List Value → Hp → (Value → Hp → Prop) → Prop) (p w : Int) (s : ByteArray) (h : Hp) (K : Value → Hp → Prop) : vBody Tryz.prog C pfk shp_PRead Tryz.f408 (Tryz.f408.body.getD .skip) [.agg (Array.mk [.int .i64 p, .int .i64 w]), .string s] h K = (
 ∀ (h' : Hp),
 h' = h.alloc [Value.int IntKind.i64 p, Value.int IntKind.i64 w] 45 →
 ∀ (h'_1 : Hp),
 h'_1 = h'.alloc [Value.int IntKind.u8 (Int.ofNat 0), Value.int IntKind.u32 (Int.ofNat 0), Value.int IntKind.u64 (Int.ofNat 0), Value.string (ByteArray.mk (Array.mk []))] 261 →
 ∀ (h'_2 : Hp),
 h'_2 = h'_1.alloc [Value.int IntKind.u8 (Int.ofNat 0), Value.int IntKind.u32 (Int.ofNat 0), Value.int IntKind.u64 (Int.ofNat 0), Value.string (ByteArray.mk (Array.mk []))] 261 →
 ∃ (n : Int),
 ∃ (n_1 : Int),
 (plainA (some (Addr.mk h.next 0 none)) = true ∧ h'_2.cellsAt h.next 0 2 = some [Value.int IntKind.i64 n, Value.int IntKind.i64 n_1]) ∧
 C 100 [Value.agg (Array.mk [Value.int IntKind.i64 n, Value.int IntKind.i64 n_1])] h'_2 fun (v : Value) (h'_3 : Hp) =>
 ∃ (b : Bool),
 v = Value.bool b ∧
 if notB b = true then
 ∃ (n : Int),
 ∃ (n_2 : Int),
 ∃ (n_3 : Int),
 ∃ (s : ByteArray),
 (plainA (some (Addr.mk h'_1.next 0 none)) = true ∧ h'_3.cellsAt h'_1.next 0 4 = some [Value.int IntKind.u8 n, Value.int IntKind.u32 n_2, Value.int IntKind.u64 n_3, Value.string s]) ∧
 plainA (some (Addr.mk h'.next 0 none)) = true ∧
 ∃ (h'_4 : Hp),
 h'_3.store h'.next 0 [Value.int IntKind.u8 n, Value.int IntKind.u32 n_2, Value.int IntKind.u64 n_3, Value.string s] = some h'_4 ∧
 ∃ (n : Int),
 ∃ (n_4 : Int),
 ∃ (n_5 : Int),
 ∃ (s : ByteArray),
 (plainA (some (Addr.mk h'.next 0 none)) = true ∧ h'_4.cellsAt h'.next 0 4 = some [Value.int IntKind.u8 n, Value.int IntKind.u32 n_4, Value.int IntKind.u64 n_5, Value.string s]) ∧
 K (Value.tuple (Array.mk [Value.agg (Array.mk [Value.int IntKind.u8 n, Value.int IntKind.u32 n_4, Value.int IntKind.u64 n_5, Value.string s]), Value.int IntKind.i64 2])) h'_4
 else
 plainA (some (Addr.mk h.next 0 none)) = true ∧
 ∃ (n : Int),
 (plainA (some (Addr.mk h.next 0 none)) = true ∧ h'_3.cellsAt h.next 0 1 = some [Value.int IntKind.i64 n]) ∧
 if neI (natI (lenS s)) n = true then
 ∃ (n : Int),
 ∃ (n_2 : Int),
 ∃ (n_3 : Int),
 ∃ (s : ByteArray),
 (plainA (some (Addr.mk h'_1.next 0 none)) = true ∧ h'_3.cellsAt h'_1.next 0 4 = some [Value.int IntKind.u8 n, Value.int IntKind.u32 n_2, Value.int IntKind.u64 n_3, Value.string s]) ∧
 plainA (some (Addr.mk h'.next 0 none)) = true ∧
 ∃ (h'_4 : Hp),
 h'_3.store h'.next 0 [Value.int IntKind.u8 n, Value.int IntKind.u32 n_2, Value.int IntKind.u64 n_3, Value.string s] = some h'_4 ∧
 ∃ (n : Int),
 ∃ (n_4 : Int),
 ∃ (n_5 : Int),
 ∃ (s : ByteArray),
 (plainA (some (Addr.mk h'.next 0 none)) = true ∧ h'_4.cellsAt h'.next 0 4 = some [Value.int IntKind.u8 n, Value.int IntKind.u32 n_4, Value.int IntKind.u64 n_5, Value.string s]) ∧
 K (Value.tuple (Array.mk [Value.agg (Array.mk [Value.int IntKind.u8 n, Value.int IntKind.u32 n_4, Value.int IntKind.u64 n_5, Value.string s]), Value.int IntKind.i64 51])) h'_4
 else
 subOk s 0 28 ∧
 subOk s 32 (natI (lenS s)) ∧
 ∀ (h'_4 : Hp),
 h'_4 = h'_3.alloc [Value.string (strSub s 0 28), Value.string (strSub s 32 (natI (lenS s)))] 9 →
 subOk s 28 32 ∧
 C 222 [Value.slice (some (Addr.mk h'_3.next 0 none)) 2 2] h'_4 fun (v : Value) (h'_5 : Hp) =>
 ∃ (n : Int),
 v = Value.int IntKind.u32 n ∧
 C 221 [Value.int IntKind.u32 n] h'_5 fun (v : Value) (h'_6 : Hp) =>
 ∃ (s_1 : ByteArray),
 v = Value.string s_1 ∧
 if notB (strEq s_1 (strSub s 28 32)) = true then
 ∃ (n : Int),
 ∃ (n_2 : Int),
 ∃ (n_3 : Int),
 ∃ (s : ByteArray),
 (plainA (some (Addr.mk h'_1.next 0 none)) = true ∧ h'_6.cellsAt h'_1.next 0 4 = some [Value.int IntKind.u8 n, Value.int IntKind.u32 n_2, Value.int IntKind.u64 n_3, Value.string s]) ∧
 plainA (some (Addr.mk h'.next 0 none)) = true ∧
 ∃ (h'_7 : Hp),
 h'_6.store h'.next 0 [Value.int IntKind.u8 n, Value.int IntKind.u32 n_2, Value.int IntKind.u64 n_3, Value.string s] = some h'_7 ∧
 ∃ (n : Int),
 ∃ (n_4 : Int),
 ∃ (n_5 : Int),
 ∃ (s : ByteArray),
 (plainA (some (Addr.mk h'.next 0 none)) = true ∧ h'_7.cellsAt h'.next 0 4 = some [Value.int IntKind.u8 n, Value.int IntKind.u32 n_4, Value.int IntKind.u64 n_5, Value.string s]) ∧
 K (Value.tuple (Array.mk [Value.agg (Array.mk [Value.int IntKind.u8 n, Value.int IntKind.u32 n_4, Value.int IntKind.u64 n_5, Value.string s]), Value.int IntKind.i64 52])) h'_7
 else
 C 118 [Value.string s] h'_6 fun (v : Value) (h'_7 : Hp) =>
 ∃ (a : Option Addr),
 v = Value.pointer a ∧
 C 190 [Value.pointer a, Value.int IntKind.i64 5] h'_7 fun (v : Value) (h'_8 : Hp) =>
 ∃ (s_2 : ByteArray),
 v = Value.string s_2 ∧
 C 409 [Value.pointer a] h'_8 fun (v : Value) (h'_9 : Hp) =>
 ∃ (n : Int),
 v = Value.int IntKind.u8 n ∧
 plainA (some (Addr.mk h'_1.next 0 none)) = true ∧
 plainA (some (Addr.mk h'_1.next 0 none)) = true ∧
 ∃ (h'_10 : Hp),
 h'_9.store h'_1.next 0 [Value.int IntKind.u8 n] = some h'_10 ∧
 C 292 [Value.pointer a] h'_10 fun (v : Value) (h'_11 : Hp) =>
 ∃ (n : Int),
 v = Value.int IntKind.u16 n ∧
 C 127 [Value.pointer a] h'_11 fun (v : Value) (h'_12 : Hp) =>
 ∃ (n_2 : Int),
 v = Value.int IntKind.u32 n_2 ∧
 plainA (some (Addr.mk h'_1.next 0 none)) = true ∧
 plainA (some (Addr.mk h'_1.next 1 none)) = true ∧
 ∃ (h'_13 : Hp),
 h'_12.store h'_1.next 1 [Value.int IntKind.u32 n_2] = some h'_13 ∧
 C 190 [Value.pointer a, Value.int IntKind.i64 4] h'_13 fun (v : Value) (h'_14 : Hp) =>
 ∃ (s_3 : ByteArray),
 v = Value.string s_3 ∧
 C 293 [Value.pointer a] h'_14 fun (v : Value) (h'_15 : Hp) =>
 ∃ (n_3 : Int),
 v = Value.int IntKind.u64 n_3 ∧
 plainA (some (Addr.mk h'_1.next 0 none)) = true ∧
 plainA (some (Addr.mk h'_1.next 2 none)) = true ∧
 ∃ (h'_16 : Hp),
 h'_15.store h'_1.next 2 [Value.int IntKind.u64 n_3] = some h'_16 ∧
 ∃ (n_4 : Int),
 ∃ (n_5 : Int),
 (plainA (some (Addr.mk h.next 0 none)) = true ∧ h'_16.cellsAt h.next 0 2 = some [Value.int IntKind.i64 n_4, Value.int IntKind.i64 n_5]) ∧
 C 132 [Value.agg (Array.mk [Value.int IntKind.i64 n_4, Value.int IntKind.i64 n_5])] h'_16 fun (v : Value) (h'_17 : Hp) =>
 ∃ (n_6 : Int),
 v = Value.int IntKind.i64 n_6 ∧
 if gtI (toW IntKind.i64 n) n_6 = true then
 plainA (some (Addr.mk h'.next 0 none)) = true ∧
 ∃ (h'_18 : Hp),
 h'_17.store h'.next 0 [Value.int IntKind.u8 (Int.ofNat 0), Value.int IntKind.u32 (Int.ofNat 0), Value.int IntKind.u64 (Int.ofNat 0), Value.string (ByteArray.mk (Array.mk []))] = some h'_18 ∧
 ∃ (n : Int),
 ∃ (n_7 : Int),
 ∃ (n_8 : Int),
 ∃ (s : ByteArray),
 (plainA (some (Addr.mk h'.next 0 none)) = true ∧ h'_18.cellsAt h'.next 0 4 = some [Value.int IntKind.u8 n, Value.int IntKind.u32 n_7, Value.int IntKind.u64 n_8, Value.string s]) ∧
 K (Value.tuple (Array.mk [Value.agg (Array.mk [Value.int IntKind.u8 n, Value.int IntKind.u32 n_7, Value.int IntKind.u64 n_8, Value.string s]), Value.int IntKind.i64 53])) h'_18
 else
 subOk s 32 (addW IntKind.i64 32 (toW IntKind.i64 n)) ∧
 plainA (some (Addr.mk h'_1.next 0 none)) = true ∧
 plainA (some (Addr.mk h'_1.next 3 none)) = true ∧
 ∃ (h'_18 : Hp),
 h'_17.store h'_1.next 3 [Value.string (strSub s 32 (addW IntKind.i64 32 (toW IntKind.i64 n)))] = some h'_18 ∧
 ∃ (n : Int),
 ∃ (n_7 : Int),
 (plainA (some (Addr.mk h.next 0 none)) = true ∧ h'_18.cellsAt h.next 0 2 = some [Value.int IntKind.i64 n, Value.int IntKind.i64 n_7]) ∧
 ∃ (n_8 : Int),
 ∃ (n_9 : Int),
 ∃ (n_10 : Int),
 ∃ (s_4 : ByteArray),
 (plainA (some (Addr.mk h'_1.next 0 none)) = true ∧ h'_18.cellsAt h'_1.next 0 4 = some [Value.int IntKind.u8 n_8, Value.int IntKind.u32 n_9, Value.int IntKind.u64 n_10, Value.string s_4]) ∧
 C 141 [Value.agg (Array.mk [Value.int IntKind.i64 n, Value.int IntKind.i64 n_7]), Value.agg (Array.mk [Value.int IntKind.u8 n_8, Value.int IntKind.u32 n_9, Value.int IntKind.u64 n_10, Value.string s_4])] h'_18
 fun (v : Value) (h'_19 : Hp) =>
 ∃ (s_5 : ByteArray),
 ∃ (n : Int),
 v = Value.tuple (Array.mk [Value.string s_5, Value.int IntKind.i64 n]) ∧
 if sel (neI n 0) true (notB (strEq s_5 s)) = true then
 plainA (some (Addr.mk h'.next 0 none)) = true ∧
 ∃ (h'_20 : Hp),
 h'_19.store h'.next 0 [Value.int IntKind.u8 (Int.ofNat 0), Value.int IntKind.u32 (Int.ofNat 0), Value.int IntKind.u64 (Int.ofNat 0), Value.string (ByteArray.mk (Array.mk []))] = some h'_20 ∧
 ∃ (n : Int),
 ∃ (n_11 : Int),
 ∃ (n_12 : Int),
 ∃ (s : ByteArray),
 (plainA (some (Addr.mk h'.next 0 none)) = true ∧ h'_20.cellsAt h'.next 0 4 = some [Value.int IntKind.u8 n, Value.int IntKind.u32 n_11, Value.int IntKind.u64 n_12, Value.string s]) ∧
 K (Value.tuple (Array.mk [Value.agg (Array.mk [Value.int IntKind.u8 n, Value.int IntKind.u32 n_11, Value.int IntKind.u64 n_12, Value.string s]), Value.int IntKind.i64 53])) h'_20
 else
 ∃ (n : Int),
 ∃ (n_11 : Int),
 ∃ (n_12 : Int),
 ∃ (s : ByteArray),
 (plainA (some (Addr.mk h'_1.next 0 none)) = true ∧ h'_19.cellsAt h'_1.next 0 4 = some [Value.int IntKind.u8 n, Value.int IntKind.u32 n_11, Value.int IntKind.u64 n_12, Value.string s]) ∧
 plainA (some (Addr.mk h'.next 0 none)) = true ∧
 ∃ (h'_20 : Hp),
 h'_19.store h'.next 0 [Value.int IntKind.u8 n, Value.int IntKind.u32 n_11, Value.int IntKind.u64 n_12, Value.string s] = some h'_20 ∧
 ∃ (n : Int),
 ∃ (n_13 : Int),
 ∃ (n_14 : Int),
 ∃ (s : ByteArray),
 (plainA (some (Addr.mk h'.next 0 none)) = true ∧ h'_20.cellsAt h'.next 0 4 = some [Value.int IntKind.u8 n, Value.int IntKind.u32 n_13, Value.int IntKind.u64 n_14, Value.string s]) ∧
 K (Value.tuple (Array.mk [Value.agg (Array.mk [Value.int IntKind.u8 n, Value.int IntKind.u32 n_13, Value.int IntKind.u64 n_14, Value.string s]), Value.int IntKind.i64 0])) h'_20) := by kernel_rfl
end Go.Proofs.YtlodmlmlmkcpkaaGreatDoor.vc
