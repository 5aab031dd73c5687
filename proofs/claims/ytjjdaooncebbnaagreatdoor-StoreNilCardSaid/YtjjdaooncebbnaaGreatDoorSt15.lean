/- Joined: SzW, SzS, PkN, StoreNilE, StoreNilM. -/
import Derived.Test.YtjjdaooncebbnaaGreatDoorSt14
import Derived.Test.YtjjdaooncebbnaaGreatDoorProg
import Derived.KernelRfl
/- The conditions of the symbolic runs of functions of the program (printed by a program of ours, vcgen.py; checked by the kernel). -/
set_option linter.unusedVariables false
set_option maxRecDepth 100000
namespace Go.Proofs.YtjjdaooncebbnaaGreatDoor.vc
open Go Go.Cn Go.Proofs

def shp_274 : Nat → List (Tmp × TypeId) := fun i => if i = 1 then [(0, 9)] else []
theorem vc_274 (C : FuncId → List Value → Hp → (Value → Hp → Prop) → Prop) (s : ByteArray) (n : Int) (h : Hp) (K : Value → Hp → Prop) : vBody Tryz.prog C pf shp_274 Tryz.f305 (Tryz.f305.body.getD .skip) [.string s, .int .u8 n] h K = (
 ∃ (I : List Value → Nat → Hp → Prop), (∃ (m : Nat), I [Value.string s] m h) ∧ ∀ (s : ByteArray) (m : Nat) (h : Hp), I [Value.string s] m h → (gtI (natI (lenS s)) 0 = true → inR 0 (lenS s)) ∧ if sel (gtI (natI (lenS s)) 0) (eqI (byteAt s 0) n) false = true then subOk s 1 (natI (lenS s)) ∧ ∃ (m' : Nat), lessN m' m ∧ I [Value.string (strSub s 1 (natI (lenS s)))] m' h else K (Value.string s) h) := by kernel_rfl

def shp_275 : Nat → List (Tmp × TypeId) := fun i => if i = 1 then [(0, 9)] else []
theorem vc_275 (C : FuncId → List Value → Hp → (Value → Hp → Prop) → Prop) (s : ByteArray) (n : Int) (h : Hp) (K : Value → Hp → Prop) : vBody Tryz.prog C pf shp_275 Tryz.f306 (Tryz.f306.body.getD .skip) [.string s, .int .u8 n] h K = (
 ∃ (I : List Value → Nat → Hp → Prop),
 (∃ (m : Nat), I [Value.string s] m h) ∧
 ∀ (s : ByteArray) (m : Nat) (h : Hp),
 I [Value.string s] m h → (gtI (natI (lenS s)) 0 = true → inR (subW IntKind.i64 (natI (lenS s)) 1) (lenS s)) ∧ if sel (gtI (natI (lenS s)) 0) (eqI (byteAt s (subW IntKind.i64 (natI (lenS s)) 1)) n) false = true then subOk s 0 (subW IntKind.i64 (natI (lenS s)) 1) ∧ ∃ (m' : Nat), lessN m' m ∧ I [Value.string (strSub s 0 (subW IntKind.i64 (natI (lenS s)) 1))] m' h else K (Value.string s) h) := by kernel_rfl
end Go.Proofs.YtjjdaooncebbnaaGreatDoor.vc

/- Contracts of strings.trimLeftByte and strings.trimRightByte. -/
set_option linter.unusedVariables false
namespace Go.Proofs.YtjjdaooncebbnaaGreatDoor.sb
open Go Go.Cn Go.Cn.Sha Go.Proofs Go.Proofs.YtjjdaooncebbnaaGreatDoor.vc

def trimL (c : Nat) : List UInt8 → List UInt8
  | [] => []
  | x :: l => match Nat.beq x.toNat c with
    | true => trimL c l
    | false => x :: l
def trimR (c : Nat) (l : List UInt8) : List UInt8 := (trimL c l.reverse).reverse

theorem bytes_ext {s : ByteArray} {l : List UInt8} (h : s.data.toList = l) : s = ⟨⟨l⟩⟩ := by
  subst h
  rfl
theorem subL (s : ByteArray) {l h : Nat} : (strSub s (l : Int) (h : Int)).data.toList = (s.data.toList.drop l).take (h - l) := by
  unfold strSub
  rw [Int.toNat_natCast, Int.toNat_natCast, ByteArray.data_extract, Array.toList_extract, List.extract_eq_take_drop]
theorem byteAt_get {s : ByteArray} {i : Nat} {b : UInt8} (h : s.data.toList[i]? = some b) : byteAt s (i : Int) = (b.toNat : Int) := by
  refine byteAt_eq ?_
  unfold bytes8
  rw [List.getElem?_map, h]
  rfl

theorem c274 (s : ByteArray) (c : Nat) (h : Hp) (hs : s.size ≤ 1073741824) : C 305 [.string s, .int .u8 (c : Int)] h fun v h' => v = .string ⟨⟨trimL c s.data.toList⟩⟩ ∧ h' = h := by
  refine SCalls_of_vw fol (pf := pf) (shp := shp_274) (f := 305) (fn := Tryz.f305) (by kernel_rfl) (c := Tryz.f305.body.getD .skip) (by kernel_rfl) (by kernel_rfl) fun wf => ?_
  rw [vc_274]
  refine ⟨fun vals m hh => ∃ t : ByteArray, [.string t] = vals ∧ m = t.size ∧ t.size ≤ s.size ∧ trimL c t.data.toList = trimL c s.data.toList ∧ hh = h, ⟨s.size, s, rfl, rfl, Nat.le_refl _, rfl, rfl⟩, ?_⟩
  rintro x m hh ⟨t, e, rfl, hle, ht, rfl⟩
  simp at e
  subst e
  have hl : t.data.toList.length = t.size := by simp
  cases htl : t.data.toList with
  | nil =>
    rw [htl] at hl ht
    have h0 : gtI (natI (lenS t)) 0 = false := by
      rw [Bool.eq_false_iff, Ne, gtI_iff, natI_eq]; unfold lenS; simp at hl; omega
    rw [h0]
    refine ⟨fun h => by simp at h, ?_⟩
    rw [if_neg (by simp [sel])]
    exact ⟨by rw [bytes_ext htl, ← ht]; rfl, rfl⟩
  | cons b l =>
    rw [htl] at hl ht
    simp only [List.length_cons] at hl
    have h0 : gtI (natI (lenS t)) 0 = true := by rw [gtI_iff, natI_eq]; unfold lenS; omega
    have hb : byteAt t 0 = (b.toNat : Int) := byteAt_get (i := 0) (by rw [htl]; rfl)
    rw [h0, hb]
    refine ⟨fun _ => ⟨Int.le_refl _, by unfold lenS; omega⟩, ?_⟩
    cases hc : Nat.beq b.toNat c with
    | true =>
      have he : b.toNat = c := Nat.eq_of_beq_eq_true hc
      rw [if_pos (by simp [sel, eqI, he])]
      have hsub : (strSub t 1 (natI (lenS t))).data.toList = l := by
        have := subL t (l := 1) (h := t.size)
        rw [htl, List.drop_one, List.tail_cons, List.take_of_length_le (by omega)] at this
        exact this
      have hsz : (strSub t 1 (natI (lenS t))).size = l.length := by rw [← hsub]; simp
      refine ⟨⟨by omega, by rw [natI_eq]; unfold lenS; omega, by rw [natI_eq]; unfold lenS; omega⟩, l.length, by simp only [lessN]; omega, _, rfl, hsz.symm, by omega, ?_, rfl⟩
      rw [hsub, ← ht]
      conv => rhs; unfold trimL
      rw [hc]
    | false =>
      have he : b.toNat ≠ c := fun h => by rw [h] at hc; simp at hc
      rw [if_neg (by simp [sel, eqI]; omega)]
      refine ⟨?_, rfl⟩
      rw [bytes_ext htl, ← ht]
      conv => rhs; unfold trimL
      rw [hc]

theorem c275 (s : ByteArray) (c : Nat) (h : Hp) (hs : s.size ≤ 1073741824) : C 306 [.string s, .int .u8 (c : Int)] h fun v h' => v = .string ⟨⟨trimR c s.data.toList⟩⟩ ∧ h' = h := by
  refine SCalls_of_vw fol (pf := pf) (shp := shp_275) (f := 306) (fn := Tryz.f306) (by kernel_rfl) (c := Tryz.f306.body.getD .skip) (by kernel_rfl) (by kernel_rfl) fun wf => ?_
  rw [vc_275]
  refine ⟨fun vals m hh => ∃ t : ByteArray, [.string t] = vals ∧ m = t.size ∧ t.size ≤ s.size ∧ trimR c t.data.toList = trimR c s.data.toList ∧ hh = h, ⟨s.size, s, rfl, rfl, Nat.le_refl _, rfl, rfl⟩, ?_⟩
  rintro x m hh ⟨t, e, rfl, hle, ht, rfl⟩
  simp at e
  subst e
  have hl : t.data.toList.length = t.size := by simp
  have hrev : t.data.toList = t.data.toList.reverse.reverse := (List.reverse_reverse _).symm
  cases htl : t.data.toList.reverse with
  | nil =>
    rw [htl] at hrev
    have h0 : gtI (natI (lenS t)) 0 = false := by
      rw [Bool.eq_false_iff, Ne, gtI_iff, natI_eq]; unfold lenS; rw [hrev] at hl; simp at hl; omega
    rw [h0]
    refine ⟨fun h => by simp at h, ?_⟩
    rw [if_neg (by simp [sel])]
    refine ⟨?_, rfl⟩
    rw [bytes_ext hrev, ← ht]
    unfold trimR
    rw [htl]
    rfl
  | cons b l =>
    have hlen : l.length + 1 = t.size := by
      have := congrArg List.length htl
      simp only [List.length_reverse, List.length_cons] at this
      omega
    have hcut : t.data.toList = l.reverse ++ [b] := by rw [hrev, htl, List.reverse_cons]
    have h0 : gtI (natI (lenS t)) 0 = true := by rw [gtI_iff, natI_eq]; unfold lenS; omega
    have hi : subW .i64 (natI (lenS t)) 1 = ((t.size - 1 : Nat) : Int) := by
      rw [natI_eq]; unfold lenS
      rw [subW_small (by omega) (by omega)]; omega
    have hb : byteAt t ((t.size - 1 : Nat) : Int) = (b.toNat : Int) := byteAt_get (by
      rw [hcut, List.getElem?_append_right (by simp; omega)]
      simp [show t.size - 1 - l.length = 0 by omega])
    rw [h0, hi, hb]
    refine ⟨fun _ => ⟨Int.natCast_nonneg _, by unfold lenS; omega⟩, ?_⟩
    cases hc : Nat.beq b.toNat c with
    | true =>
      have he : b.toNat = c := Nat.eq_of_beq_eq_true hc
      rw [if_pos (by simp [sel, eqI, he])]
      have hsub : (strSub t 0 ((t.size - 1 : Nat) : Int)).data.toList = l.reverse := by
        have := subL t (l := 0) (h := t.size - 1)
        rw [hcut, List.drop_zero, Nat.sub_zero, List.take_append_of_le_length (by simp; omega), List.take_of_length_le (by simp; omega)] at this
        exact this
      have hsz : (strSub t 0 ((t.size - 1 : Nat) : Int)).size = l.length := by
        have := congrArg List.length hsub
        simpa using this
      refine ⟨⟨by omega, Int.natCast_nonneg _, by omega⟩, l.length, by simp only [lessN]; omega, _, rfl, hsz.symm, by omega, ?_, rfl⟩
      rw [hsub, ← ht]
      unfold trimR
      rw [htl, List.reverse_reverse]
      congr 1
      conv => rhs; unfold trimL
      rw [hc]
    | false =>
      have he : b.toNat ≠ c := fun h => by rw [h] at hc; simp at hc
      rw [if_neg (by simp [sel, eqI]; omega)]
      refine ⟨?_, rfl⟩
      rw [bytes_ext hrev, ← ht]
      unfold trimR
      rw [htl]
      congr 4
      conv => rhs; unfold trimL
      rw [hc]

/-- Strings are trimmed by a law, too. -/
def nat2 : FuncId → List Value → Hp → Option (Option Value) := fun f args h =>
  match Nat.beq f 305 with
  | true => match args with
    | [.string s, .int .u8 (.ofNat c)] => match Nat.ble s.size 1073741824 with
      | true => some (some (.string ⟨⟨trimL c s.data.toList⟩⟩))
      | false => some none
    | _ => some none
  | false => match Nat.beq f 306 with
    | true => match args with
      | [.string s, .int .u8 (.ofNat c)] => match Nat.ble s.size 1073741824 with
        | true => some (some (.string ⟨⟨trimR c s.data.toList⟩⟩))
        | false => some none
      | _ => some none
    | false => nat f args h

theorem nat2_ok : NatOk Tryz.prog nat2 := by
  intro f args h v hn
  unfold nat2 at hn
  split at hn
  · rename_i hf
    have hf := Nat.eq_of_beq_eq_true hf
    subst hf
    split at hn
    · rename_i s c
      split at hn
      · rename_i hs
        simp only [Option.some.injEq] at hn
        subst hn
        exact c274 s c h (Nat.le_of_ble_eq_true hs)
      · simp at hn
    · simp at hn
  · split at hn
    · rename_i hf
      have hf := Nat.eq_of_beq_eq_true hf
      subst hf
      split at hn
      · rename_i s c
        split at hn
        · rename_i hs
          simp only [Option.some.injEq] at hn
          subst hn
          exact c275 s c h (Nat.le_of_ble_eq_true hs)
        · simp at hn
      · simp at hn
    · exact nat_ok f args h v hn
end Go.Proofs.YtjjdaooncebbnaaGreatDoor.sb

/- Pages are written and read by a law, too: what the kernel reckons. -/
set_option linter.unusedVariables false
namespace Go.Proofs.YtjjdaooncebbnaaGreatDoor.pk
open Go Go.Cn Go.Cn.Pk Go.Proofs

def eqU : List UInt8 → List UInt8 → Bool
  | [], [] => true
  | a :: x, b :: y => match Nat.beq a.toNat b.toNat with | true => eqU x y | false => false
  | _, _ => false
theorem eqU_iff : ∀ {x y : List UInt8}, eqU x y = true ↔ x = y
  | [], [] => by simp [eqU]
  | [], _ :: _ => by simp [eqU]
  | _ :: _, [] => by simp [eqU]
  | a :: x, b :: y => by
    unfold eqU
    cases hc : Nat.beq a.toNat b.toNat with
    | true =>
      have := Nat.eq_of_beq_eq_true hc
      have hab : a = b := UInt8.toNat_inj.1 this
      simp only [eqU_iff (x := x) (y := y), hab, List.cons.injEq, true_and]
    | false =>
      have : a ≠ b := fun h => by rw [h] at hc; simp at hc
      simp [this]

def frB (p w : Int) : Bool := (decide (p = 1024) || decide (p = 2048) || decide (p = 4096) || decide (p = 8192)) && (decide (1 ≤ w) && decide (w ≤ 32))
theorem frB_iff (p w : Int) : frB p w = true ↔ Fr p w := by
  unfold frB Fr
  simp only [Bool.and_eq_true, Bool.or_eq_true, decide_eq_true_eq]
  constructor <;> (rintro ⟨h1, h2⟩; refine ⟨?_, h2⟩; omega)
def err (p w : Int) (kind no ver len : Nat) : Int :=
  bif !frB p w then 2 else bif Nat.blt kind 1 || Nat.blt 3 kind then 50 else bif !(Nat.ble 2 no && Nat.blt no 2147483648) || Nat.blt ver 1 || Nat.blt 1099511627776 ver then 2 else bif decide (p - 32 < len) then 4 else 0
theorem err_eq (p w : Int) (kind no ver len : Nat) : err p w kind no ver len = pageErr p w kind no ver len := by
  unfold err pageErr
  by_cases h1 : Fr p w
  · rw [(frB_iff p w).2 h1, if_neg (fun h => h h1)]
    simp only [Bool.not_true, cond_false]
    by_cases h2 : kind < 1 ∨ 3 < kind
    · rw [if_pos h2]
      have : (Nat.blt kind 1 || Nat.blt 3 kind) = true := by simp only [Bool.or_eq_true, Nat.blt_eq]; exact h2
      rw [this, cond_true]
    · rw [if_neg h2]
      have : (Nat.blt kind 1 || Nat.blt 3 kind) = false := by rw [Bool.eq_false_iff]; simp only [ne_eq, Bool.or_eq_true, Nat.blt_eq]; exact h2
      rw [this, cond_false]
      by_cases h3 : (¬ (2 ≤ no ∧ no < 2147483648) ∨ ver < 1) ∨ 1099511627776 < ver
      · rw [if_pos h3]
        have : (!(Nat.ble 2 no && Nat.blt no 2147483648) || Nat.blt ver 1 || Nat.blt 1099511627776 ver) = true := by
          simp only [Bool.or_eq_true, Bool.not_eq_true', Bool.and_eq_false_iff, Nat.blt_eq]
          rcases h3 with (h3 | h3) | h3
          · left; left
            by_cases h5 : 2 ≤ no
            · right; rw [Bool.eq_false_iff]; simp only [ne_eq, Nat.blt_eq]; omega
            · left; rw [Bool.eq_false_iff]; simp only [ne_eq, Nat.ble_eq]; omega
          · left; right; exact h3
          · right; exact h3
        rw [this, cond_true]
      · rw [if_neg h3]
        have : (!(Nat.ble 2 no && Nat.blt no 2147483648) || Nat.blt ver 1 || Nat.blt 1099511627776 ver) = false := by
          rw [Bool.eq_false_iff]
          simp only [ne_eq, Bool.or_eq_true, Bool.not_eq_true', Bool.and_eq_false_iff, Nat.blt_eq]
          rintro ((h5 | h5) | h5)
          · rcases h5 with h5 | h5
            · rw [Bool.eq_false_iff] at h5; simp only [ne_eq, Nat.ble_eq] at h5; omega
            · rw [Bool.eq_false_iff] at h5; simp only [ne_eq, Nat.blt_eq] at h5; omega
          · omega
          · omega
        rw [this, cond_false]
        by_cases h4 : p - 32 < (len : Int)
        · rw [if_pos h4, decide_eq_true h4, cond_true]
        · rw [if_neg h4, decide_eq_false h4, cond_false]
  · have : frB p w = false := by rw [Bool.eq_false_iff]; intro hc; exact h1 ((frB_iff p w).1 hc)
    rw [this, if_pos h1]
    rfl

def pgW (p w : Int) (kind no ver : Nat) (body : ByteArray) : Value :=
  match err p w kind no ver body.size with
  | .ofNat 0 => .tuple #[.string (str (pageForm p kind no ver body.data.toList)), .int .i64 0]
  | e => .tuple #[.string ⟨#[]⟩, .int .i64 e]
theorem pgW_eq (p w : Int) (kind no ver : Nat) (body : ByteArray) : pgW p w kind no ver body = pageW p w kind no ver body := by
  unfold pgW pageW
  rw [err_eq]
  split
  · rename_i e; rw [if_neg (by rw [e]; simp)]
  · rename_i e
    have e' : pageErr p w kind no ver body.size ≠ 0 := fun h => e h
    rw [if_pos e']
def pgR (p w : Int) (s : ByteArray) : Value :=
  bif !frB p w then noPage 2 else bif !decide ((s.size : Int) = p) then noPage 51 else
  bif !eqU (be 4 (crc (cutS s 0 28 ++ cutS s 32 (s.size - 32)))) (cutS s 28 4) then noPage 52 else
  bif decide (p - 32 < (num (cutS s 6 2) : Nat)) then noPage 53 else
  match err p w (num (cutS s 5 1)) (num (cutS s 8 4)) (num (cutS s 16 8)) (num (cutS s 6 2)), eqU (pageForm p (num (cutS s 5 1)) (num (cutS s 8 4)) (num (cutS s 16 8)) (cutS s 32 (num (cutS s 6 2)))) s.data.toList with
  | .ofNat 0, true => .tuple #[.agg #[.int .u8 (num (cutS s 5 1) : Nat), .int .u32 (num (cutS s 8 4) : Nat), .int .u64 (num (cutS s 16 8) : Nat), .string (str (cutS s 32 (num (cutS s 6 2))))], .int .i64 0]
  | _, _ => noPage 53
theorem pgR_eq (p w : Int) (s : ByteArray) : pgR p w s = pageR p w s := by
  unfold pgR pageR
  by_cases h1 : Fr p w
  · rw [(frB_iff p w).2 h1, if_neg (fun h => h h1)]
    simp only [Bool.not_true, cond_false]
    by_cases h2 : (s.size : Int) = p
    · rw [decide_eq_true h2, if_neg (fun h => h h2)]
      simp only [Bool.not_true, cond_false]
      by_cases h3 : be 4 (crc (cutS s 0 28 ++ cutS s 32 (s.size - 32))) = cutS s 28 4
      · rw [eqU_iff.2 h3, if_neg (fun h => h h3)]
        simp only [Bool.not_true, cond_false]
        by_cases h4 : p - 32 < ((num (cutS s 6 2) : Nat) : Int)
        · rw [if_pos h4, decide_eq_true h4, cond_true]
        · rw [if_neg h4, decide_eq_false h4, cond_false, err_eq]
          split
          · rename_i e1 e2
            rw [if_neg]
            rintro (h5 | h5)
            · exact h5 e1
            · exact h5 (eqU_iff.1 e2)
          · rename_i e
            rw [if_pos]
            apply Classical.byContradiction
            intro hc
            refine e ?_ ?_
            · exact Classical.not_not.1 fun h => hc (.inl h)
            · exact eqU_iff.2 (Classical.not_not.1 fun h => hc (.inr h))
      · have : eqU (be 4 (crc (cutS s 0 28 ++ cutS s 32 (s.size - 32)))) (cutS s 28 4) = false := by rw [Bool.eq_false_iff]; intro hc; exact h3 (eqU_iff.1 hc)
        rw [this, if_pos h3]
        rfl
    · rw [decide_eq_false h2, if_pos h2]
      rfl
  · have : frB p w = false := by rw [Bool.eq_false_iff]; intro hc; exact h1 ((frB_iff p w).1 hc)
    rw [this, if_pos h1]
    rfl

def nat3 : FuncId → List Value → Hp → Option (Option Value) := fun f args h =>
  match Nat.beq f 247 with
  | true => match args with
    | [.agg (Array.mk [.int .i64 p, .int .i64 w]), .agg (Array.mk [.int .u8 (.ofNat kind), .int .u32 (.ofNat no), .int .u64 (.ofNat ver), .string body])] => some (some (pgW p w kind no ver body))
    | _ => some none
  | false => match Nat.beq f 182 with
    | true => match args with
      | [.agg (Array.mk [.int .i64 p, .int .i64 w]), .string s] => match Nat.ble s.size 1099511627776 with
        | true => some (some (pgR p w s))
        | false => some none
      | _ => some none
    | false => sb.nat2 f args h

theorem nat3_ok : NatOk Tryz.prog nat3 := by
  intro f args h v hn
  unfold nat3 at hn
  split at hn
  · rename_i hf
    have hf := Nat.eq_of_beq_eq_true hf
    subst hf
    split at hn
    · simp only [Option.some.injEq] at hn
      subst hn
      rw [pgW_eq]
      exact cPWrite _ _ _ _ _ _ h
    · simp at hn
  · split at hn
    · rename_i hf
      have hf := Nat.eq_of_beq_eq_true hf
      subst hf
      split at hn
      · split at hn
        · rename_i hs
          simp only [Option.some.injEq] at hn
          subst hn
          rw [pgR_eq]
          exact cPRead _ _ _ (Nat.le_of_ble_eq_true hs) h
        · simp at hn
      · simp at hn
    · exact sb.nat2_ok f args h v hn
end Go.Proofs.YtjjdaooncebbnaaGreatDoor.pk

/- 'StoreNil' evaluated for an operation whose parts are not known; what every statement on stores asks ('lives'), evaluated (a text of its own: memory). -/
namespace Go.Proofs.YtjjdaooncebbnaaGreatDoor.sb
open Go Go.Cn
set_option linter.unusedVariables false

theorem lives_eval : xK Tryz.prog 30000 pk.nat3 100 11 [] Hp.empty (fun v _ => match v with | .bool b => b | _ => false) = true := by kernel_rfl
theorem lives_ok (h : Hp) : SCalls Tryz.prog 11 [] h fun v h' => v = .bool true ∧ h' = h :=
  SCalls.closed (K := fun v => v = .bool true) (of_decide_eq_true (by kernel_rfl)) (closedK_bool pk.fol pk.nat3_ok lives_eval) (by rintro v rfl; exact ⟨_, rfl⟩)

def nat4 : FuncId → List Value → Hp → Option (Option Value) := fun f args h =>
  match Nat.beq f 11 with
  | true => match args with
    | [] => some (some (.bool true))
    | _ => some none
  | false => pk.nat3 f args h
theorem nat4_ok : NatOk Tryz.prog nat4 := by
  intro f args h v hn
  unfold nat4 at hn
  split at hn
  · rename_i hf
    have hf := Nat.eq_of_beq_eq_true hf
    subst hf
    split at hn
    · simp only [Option.some.injEq] at hn
      subst hn
      exact lives_ok h
    · simp at hn
  · exact pk.nat3_ok f args h v hn

theorem evald_StoreNil (k l : Int) (s t : ByteArray) (K : Value → Bool) : xK Tryz.prog 30000 nat4 100 4 [.agg (Array.mk [.int .u8 k, .string s, .string t, .int .i64 l])] Hp.empty (fun v _ => K v) = K (.bool true) := by kernel_rfl

end Go.Proofs.YtjjdaooncebbnaaGreatDoor.sb

/- 'StoreNil' over arguments of plain data. -/
namespace Go.Proofs.YtjjdaooncebbnaaGreatDoor.sb
open Go Go.Cn
set_option linter.unusedVariables false

set_option maxRecDepth 100000 in
theorem main_StoreNil (N : Nat) (hN : N ≤ 140737488355327) (h : Hp) (vs : List Value) (wf : Wf h) (hg : FineArgs Tryz.prog h N Tryz.f4.params.toList vs) :
    SCalls Tryz.prog 4 vs h fun v _ => v = .bool true := by
  rw [Tryz.params4] at hg
  obtain ⟨v, vs', n, cs, rfl, hG, hv, hnil⟩ := hg
  have hv : v = .agg cs.toArray := hv
  have hnil : vs' = [] := hnil
  subst hnil
  obtain ⟨m, rfl, x1, x2, rfl, f1, y1, y2, rfl, f2, z1, z2, rfl, f3, w1, w2, rfl, f4, f5⟩ := hG.struct Tryz.underlying41
  obtain ⟨k, rfl, _⟩ := f1.int Tryz.underlying39
  obtain ⟨s, rfl, _⟩ := f2.string Tryz.underlying9
  obtain ⟨t, rfl, _⟩ := f3.string Tryz.underlying9
  obtain ⟨l, rfl, _⟩ := f4.int Tryz.underlying3
  have f5 : w2 = [] := f5
  subst f5 hv
  exact (bareV (m := 30000) (n := 100) pk.fol nat4_ok (of_decide_eq_true (by kernel_rfl)) rfl (fun K => evald_StoreNil k l s t K) rfl h).mono fun v h' ⟨e, _⟩ => e
end Go.Proofs.YtjjdaooncebbnaaGreatDoor.sb
