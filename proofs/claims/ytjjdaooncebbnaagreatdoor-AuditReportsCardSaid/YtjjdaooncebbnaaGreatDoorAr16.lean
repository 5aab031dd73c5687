/- Joined: SzW, SzS, PkN, RepE, RepM. -/
import Derived.Test.YtjjdaooncebbnaaGreatDoorAr15
import Derived.Test.YtjjdaooncebbnaaGreatDoorProg
import Derived.KernelRfl
/- The conditions of the symbolic runs of functions of the program (printed by a program of ours, vcgen.py; checked by the kernel). -/
set_option linter.unusedVariables false
set_option maxRecDepth 100000
namespace Go.Proofs.YtjjdaooncebbnaaGreatDoor.vc
open Go Go.Cn Go.Proofs

def shp_274 : Nat → List (Tmp × TypeId) := fun i => if i = 1 then [(0, 9)] else []
theorem vc_274 (C : FuncId → List Value → Hp → (Value → Hp → Prop) → Prop) (s : ByteArray) (n : Int) (h : Hp) (K : Value → Hp → Prop) : vBody Tryz.prog C pf shp_274 Tryz.f305 (Tryz.f305.body.getD .skip) [.string s, .int .u8 n] h K = (
 ∃ (I : List Value → Nat → Hp → Prop), (∃ (m : Nat), I [Value.string s] m h) ∧ ∀ (s : ByteArray) (m : Nat) (h : Hp), I [Value.string s] m h → (gtI (natI (lenS s)) 0 = true → inR 0 (lenS s)) ∧ if sel (gtI (natI (lenS s)) 0) (eqI (byteAt s 0) n) false = true then subOk s 1 (natI (lenS s)) ∧ ∃ (m' : Nat), lessN m' m ∧ I [Value.string (strSub s 1 (natI (lenS s)))] m' h else K (Value.string s) h) := by kernel_rfl

def shp_275 : Nat → List (Tmp × TypeId) := fun i => if i = 1 then [(0, 9)] else []
theorem vc_275 (C : FuncId → List Value → Hp → (Value → Hp → Prop) → Prop) (s : ByteArray) (n : Int) (h : Hp) (K : Value → Hp → Prop) : vBody Tryz.prog C pf shp_275 Tryz.f306 (Tryz.f306.body.getD .skip) [.string s, .int .u8 n] h K = (
 ∃ (I : List Value → Nat → Hp → Prop),
 (∃ (m : Nat), I [Value.string s] m h) ∧
 ∀ (s : ByteArray) (m : Nat) (h : Hp),
 I [Value.string s] m h → (gtI (natI (lenS s)) 0 = true → inR (subW IntKind.i64 (natI (lenS s)) 1) (lenS s)) ∧ if sel (gtI (natI (lenS s)) 0) (eqI (byteAt s (subW IntKind.i64 (natI (lenS s)) 1)) n) false = true then subOk s 0 (subW IntKind.i64 (natI (lenS s)) 1) ∧ ∃ (m' : Nat), lessN m' m ∧ I [Value.string (strSub s 0 (subW IntKind.i64 (natI (lenS s)) 1))] m' h else K (Value.string s) h) := by kernel_rfl
end Go.Proofs.YtjjdaooncebbnaaGreatDoor.vc

/- Contracts of strings.trimLeftByte and strings.trimRightByte. -/
set_option linter.unusedVariables false
namespace Go.Proofs.YtjjdaooncebbnaaGreatDoor.sb
open Go Go.Cn Go.Cn.Sha Go.Proofs Go.Proofs.YtjjdaooncebbnaaGreatDoor.vc

def trimL (c : Nat) : List UInt8 → List UInt8
  | [] => []
  | x :: l => match Nat.beq x.toNat c with
    | true => trimL c l
    | false => x :: l
def trimR (c : Nat) (l : List UInt8) : List UInt8 := (trimL c l.reverse).reverse

theorem bytes_ext {s : ByteArray} {l : List UInt8} (h : s.data.toList = l) : s = ⟨⟨l⟩⟩ := by
  subst h
  rfl
theorem subL (s : ByteArray) {l h : Nat} : (strSub s (l : Int) (h : Int)).data.toList = (s.data.toList.drop l).take (h - l) := by
  unfold strSub
  rw [Int.toNat_natCast, Int.toNat_natCast, ByteArray.data_extract, Array.toList_extract, List.extract_eq_take_drop]
theorem byteAt_get {s : ByteArray} {i : Nat} {b : UInt8} (h : s.data.toList[i]? = some b) : byteAt s (i : Int) = (b.toNat : Int) := by
  refine byteAt_eq ?_
  unfold bytes8
  rw [List.getElem?_map, h]
  rfl

theorem c274 (s : ByteArray) (c : Nat) (h : Hp) (hs : s.size ≤ 1073741824) : C 305 [.string s, .int .u8 (c : Int)] h fun v h' => v = .string ⟨⟨trimL c s.data.toList⟩⟩ ∧ h' = h := by
  refine SCalls_of_vw fol (pf := pf) (shp := shp_274) (f := 305) (fn := Tryz.f305) (by kernel_rfl) (c := Tryz.f305.body.getD .skip) (by kernel_rfl) (by kernel_rfl) fun wf => ?_
  rw [vc_274]
  refine ⟨fun vals m hh => ∃ t : ByteArray, [.string t] = vals ∧ m = t.size ∧ t.size ≤ s.size ∧ trimL c t.data.toList = trimL c s.data.toList ∧ hh = h, ⟨s.size, s, rfl, rfl, Nat.le_refl _, rfl, rfl⟩, ?_⟩
  rintro x m hh ⟨t, e, rfl, hle, ht, rfl⟩
  simp at e
  subst e
  have hl : t.data.toList.length = t.size := by simp
  cases htl : t.data.toList with
  | nil =>
    rw [htl] at hl ht
    have h0 : gtI (natI (lenS t)) 0 = false := by
      rw [Bool.eq_false_iff, Ne, gtI_iff, natI_eq]; unfold lenS; simp at hl; omega
    rw [h0]
    refine ⟨fun h => by simp at h, ?_⟩
    rw [if_neg (by simp [sel])]
    exact ⟨by rw [bytes_ext htl, ← ht]; rfl, rfl⟩
  | cons b l =>
    rw [htl] at hl ht
    simp only [List.length_cons] at hl
    have h0 : gtI (natI (lenS t)) 0 = true := by rw [gtI_iff, natI_eq]; unfold lenS; omega
    have hb : byteAt t 0 = (b.toNat : Int) := byteAt_get (i := 0) (by rw [htl]; rfl)
    rw [h0, hb]
    refine ⟨fun _ => ⟨Int.le_refl _, by unfold lenS; omega⟩, ?_⟩
    cases hc : Nat.beq b.toNat c with
    | true =>
      have he : b.toNat = c := Nat.eq_of_beq_eq_true hc
      rw [if_pos (by simp [sel, eqI, he])]
      have hsub : (strSub t 1 (natI (lenS t))).data.toList = l := by
        have := subL t (l := 1) (h := t.size)
        rw [htl, List.drop_one, List.tail_cons, List.take_of_length_le (by omega)] at this
        exact this
      have hsz : (strSub t 1 (natI (lenS t))).size = l.length := by rw [← hsub]; simp
      refine ⟨⟨by omega, by rw [natI_eq]; unfold lenS; omega, by rw [natI_eq]; unfold lenS; omega⟩, l.length, by simp only [lessN]; omega, _, rfl, hsz.symm, by omega, ?_, rfl⟩
      rw [hsub, ← ht]
      conv => rhs; unfold trimL
      rw [hc]
    | false =>
      have he : b.toNat ≠ c := fun h => by rw [h] at hc; simp at hc
      rw [if_neg (by simp [sel, eqI]; omega)]
      refine ⟨?_, rfl⟩
      rw [bytes_ext htl, ← ht]
      conv => rhs; unfold trimL
      rw [hc]

theorem c275 (s : ByteArray) (c : Nat) (h : Hp) (hs : s.size ≤ 1073741824) : C 306 [.string s, .int .u8 (c : Int)] h fun v h' => v = .string ⟨⟨trimR c s.data.toList⟩⟩ ∧ h' = h := by
  refine SCalls_of_vw fol (pf := pf) (shp := shp_275) (f := 306) (fn := Tryz.f306) (by kernel_rfl) (c := Tryz.f306.body.getD .skip) (by kernel_rfl) (by kernel_rfl) fun wf => ?_
  rw [vc_275]
  refine ⟨fun vals m hh => ∃ t : ByteArray, [.string t] = vals ∧ m = t.size ∧ t.size ≤ s.size ∧ trimR c t.data.toList = trimR c s.data.toList ∧ hh = h, ⟨s.size, s, rfl, rfl, Nat.le_refl _, rfl, rfl⟩, ?_⟩
  rintro x m hh ⟨t, e, rfl, hle, ht, rfl⟩
  simp at e
  subst e
  have hl : t.data.toList.length = t.size := by simp
  have hrev : t.data.toList = t.data.toList.reverse.reverse := (List.reverse_reverse _).symm
  cases htl : t.data.toList.reverse with
  | nil =>
    rw [htl] at hrev
    have h0 : gtI (natI (lenS t)) 0 = false := by
      rw [Bool.eq_false_iff, Ne, gtI_iff, natI_eq]; unfold lenS; rw [hrev] at hl; simp at hl; omega
    rw [h0]
    refine ⟨fun h => by simp at h, ?_⟩
    rw [if_neg (by simp [sel])]
    refine ⟨?_, rfl⟩
    rw [bytes_ext hrev, ← ht]
    unfold trimR
    rw [htl]
    rfl
  | cons b l =>
    have hlen : l.length + 1 = t.size := by
      have := congrArg List.length htl
      simp only [List.length_reverse, List.length_cons] at this
      omega
    have hcut : t.data.toList = l.reverse ++ [b] := by rw [hrev, htl, List.reverse_cons]
    have h0 : gtI (natI (lenS t)) 0 = true := by rw [gtI_iff, natI_eq]; unfold lenS; omega
    have hi : subW .i64 (natI (lenS t)) 1 = ((t.size - 1 : Nat) : Int) := by
      rw [natI_eq]; unfold lenS
      rw [subW_small (by omega) (by omega)]; omega
    have hb : byteAt t ((t.size - 1 : Nat) : Int) = (b.toNat : Int) := byteAt_get (by
      rw [hcut, List.getElem?_append_right (by simp; omega)]
      simp [show t.size - 1 - l.length = 0 by omega])
    rw [h0, hi, hb]
    refine ⟨fun _ => ⟨Int.natCast_nonneg _, by unfold lenS; omega⟩, ?_⟩
    cases hc : Nat.beq b.toNat c with
    | true =>
      have he : b.toNat = c := Nat.eq_of_beq_eq_true hc
      rw [if_pos (by simp [sel, eqI, he])]
      have hsub : (strSub t 0 ((t.size - 1 : Nat) : Int)).data.toList = l.reverse := by
        have := subL t (l := 0) (h := t.size - 1)
        rw [hcut, List.drop_zero, Nat.sub_zero, List.take_append_of_le_length (by simp; omega), List.take_of_length_le (by simp; omega)] at this
        exact this
      have hsz : (strSub t 0 ((t.size - 1 : Nat) : Int)).size = l.length := by
        have := congrArg List.length hsub
        simpa using this
      refine ⟨⟨by omega, Int.natCast_nonneg _, by omega⟩, l.length, by simp only [lessN]; omega, _, rfl, hsz.symm, by omega, ?_, rfl⟩
      rw [hsub, ← ht]
      unfold trimR
      rw [htl, List.reverse_reverse]
      congr 1
      conv => rhs; unfold trimL
      rw [hc]
    | false =>
      have he : b.toNat ≠ c := fun h => by rw [h] at hc; simp at hc
      rw [if_neg (by simp [sel, eqI]; omega)]
      refine ⟨?_, rfl⟩
      rw [bytes_ext hrev, ← ht]
      unfold trimR
      rw [htl]
      congr 4
      conv => rhs; unfold trimL
      rw [hc]

/-- Strings are trimmed by a law, too. -/
def nat2 : FuncId → List Value → Hp → Option (Option Value) := fun f args h =>
  match Nat.beq f 305 with
  | true => match args with
    | [.string s, .int .u8 (.ofNat c)] => match Nat.ble s.size 1073741824 with
      | true => some (some (.string ⟨⟨trimL c s.data.toList⟩⟩))
      | false => some none
    | _ => some none
  | false => match Nat.beq f 306 with
    | true => match args with
      | [.string s, .int .u8 (.ofNat c)] => match Nat.ble s.size 1073741824 with
        | true => some (some (.string ⟨⟨trimR c s.data.toList⟩⟩))
        | false => some none
      | _ => some none
    | false => nat f args h

theorem nat2_ok : NatOk Tryz.prog nat2 := by
  intro f args h v hn
  unfold nat2 at hn
  split at hn
  · rename_i hf
    have hf := Nat.eq_of_beq_eq_true hf
    subst hf
    split at hn
    · rename_i s c
      split at hn
      · rename_i hs
        simp only [Option.some.injEq] at hn
        subst hn
        exact c274 s c h (Nat.le_of_ble_eq_true hs)
      · simp at hn
    · simp at hn
  · split at hn
    · rename_i hf
      have hf := Nat.eq_of_beq_eq_true hf
      subst hf
      split at hn
      · rename_i s c
        split at hn
        · rename_i hs
          simp only [Option.some.injEq] at hn
          subst hn
          exact c275 s c h (Nat.le_of_ble_eq_true hs)
        · simp at hn
      · simp at hn
    · exact nat_ok f args h v hn
end Go.Proofs.YtjjdaooncebbnaaGreatDoor.sb

/- Pages are written and read by a law, too: what the kernel reckons. -/
set_option linter.unusedVariables false
namespace Go.Proofs.YtjjdaooncebbnaaGreatDoor.pk
open Go Go.Cn Go.Cn.Pk Go.Proofs

def eqU : List UInt8 → List UInt8 → Bool
  | [], [] => true
  | a :: x, b :: y => match Nat.beq a.toNat b.toNat with | true => eqU x y | false => false
  | _, _ => false
theorem eqU_iff : ∀ {x y : List UInt8}, eqU x y = true ↔ x = y
  | [], [] => by simp [eqU]
  | [], _ :: _ => by simp [eqU]
  | _ :: _, [] => by simp [eqU]
  | a :: x, b :: y => by
    unfold eqU
    cases hc : Nat.beq a.toNat b.toNat with
    | true =>
      have := Nat.eq_of_beq_eq_true hc
      have hab : a = b := UInt8.toNat_inj.1 this
      simp only [eqU_iff (x := x) (y := y), hab, List.cons.injEq, true_and]
    | false =>
      have : a ≠ b := fun h => by rw [h] at hc; simp at hc
      simp [this]

def frB (p w : Int) : Bool := (decide (p = 1024) || decide (p = 2048) || decide (p = 4096) || decide (p = 8192)) && (decide (1 ≤ w) && decide (w ≤ 32))
theorem frB_iff (p w : Int) : frB p w = true ↔ Fr p w := by
  unfold frB Fr
  simp only [Bool.and_eq_true, Bool.or_eq_true, decide_eq_true_eq]
  constructor <;> (rintro ⟨h1, h2⟩; refine ⟨?_, h2⟩; omega)
def err (p w : Int) (kind no ver len : Nat) : Int :=
  bif !frB p w then 2 else bif Nat.blt kind 1 || Nat.blt 3 kind then 50 else bif !(Nat.ble 2 no && Nat.blt no 2147483648) || Nat.blt ver 1 || Nat.blt 1099511627776 ver then 2 else bif decide (p - 32 < len) then 4 else 0
theorem err_eq (p w : Int) (kind no ver len : Nat) : err p w kind no ver len = pageErr p w kind no ver len := by
  unfold err pageErr
  by_cases h1 : Fr p w
  · rw [(frB_iff p w).2 h1, if_neg (fun h => h h1)]
    simp only [Bool.not_true, cond_false]
    by_cases h2 : kind < 1 ∨ 3 < kind
    · rw [if_pos h2]
      have : (Nat.blt kind 1 || Nat.blt 3 kind) = true := by simp only [Bool.or_eq_true, Nat.blt_eq]; exact h2
      rw [this, cond_true]
    · rw [if_neg h2]
      have : (Nat.blt kind 1 || Nat.blt 3 kind) = false := by rw [Bool.eq_false_iff]; simp only [ne_eq, Bool.or_eq_true, Nat.blt_eq]; exact h2
      rw [this, cond_false]
      by_cases h3 : (¬ (2 ≤ no ∧ no < 2147483648) ∨ ver < 1) ∨ 1099511627776 < ver
      · rw [if_pos h3]
        have : (!(Nat.ble 2 no && Nat.blt no 2147483648) || Nat.blt ver 1 || Nat.blt 1099511627776 ver) = true := by
          simp only [Bool.or_eq_true, Bool.not_eq_true', Bool.and_eq_false_iff, Nat.blt_eq]
          rcases h3 with (h3 | h3) | h3
          · left; left
            by_cases h5 : 2 ≤ no
            · right; rw [Bool.eq_false_iff]; simp only [ne_eq, Nat.blt_eq]; omega
            · left; rw [Bool.eq_false_iff]; simp only [ne_eq, Nat.ble_eq]; omega
          · left; right; exact h3
          · right; exact h3
        rw [this, cond_true]
      · rw [if_neg h3]
        have : (!(Nat.ble 2 no && Nat.blt no 2147483648) || Nat.blt ver 1 || Nat.blt 1099511627776 ver) = false := by
          rw [Bool.eq_false_iff]
          simp only [ne_eq, Bool.or_eq_true, Bool.not_eq_true', Bool.and_eq_false_iff, Nat.blt_eq]
          rintro ((h5 | h5) | h5)
          · rcases h5 with h5 | h5
            · rw [Bool.eq_false_iff] at h5; simp only [ne_eq, Nat.ble_eq] at h5; omega
            · rw [Bool.eq_false_iff] at h5; simp only [ne_eq, Nat.blt_eq] at h5; omega
          · omega
          · omega
        rw [this, cond_false]
        by_cases h4 : p - 32 < (len : Int)
        · rw [if_pos h4, decide_eq_true h4, cond_true]
        · rw [if_neg h4, decide_eq_false h4, cond_false]
  · have : frB p w = false := by rw [Bool.eq_false_iff]; intro hc; exact h1 ((frB_iff p w).1 hc)
    rw [this, if_pos h1]
    rfl

def pgW (p w : Int) (kind no ver : Nat) (body : ByteArray) : Value :=
  match err p w kind no ver body.size with
  | .ofNat 0 => .tuple #[.string (str (pageForm p kind no ver body.data.toList)), .int .i64 0]
  | e => .tuple #[.string ⟨#[]⟩, .int .i64 e]
theorem pgW_eq (p w : Int) (kind no ver : Nat) (body : ByteArray) : pgW p w kind no ver body = pageW p w kind no ver body := by
  unfold pgW pageW
  rw [err_eq]
  split
  · rename_i e; rw [if_neg (by rw [e]; simp)]
  · rename_i e
    have e' : pageErr p w kind no ver body.size ≠ 0 := fun h => e h
    rw [if_pos e']
def pgR (p w : Int) (s : ByteArray) : Value :=
  bif !frB p w then noPage 2 else bif !decide ((s.size : Int) = p) then noPage 51 else
  bif !eqU (be 4 (crc (cutS s 0 28 ++ cutS s 32 (s.size - 32)))) (cutS s 28 4) then noPage 52 else
  bif decide (p - 32 < (num (cutS s 6 2) : Nat)) then noPage 53 else
  match err p w (num (cutS s 5 1)) (num (cutS s 8 4)) (num (cutS s 16 8)) (num (cutS s 6 2)), eqU (pageForm p (num (cutS s 5 1)) (num (cutS s 8 4)) (num (cutS s 16 8)) (cutS s 32 (num (cutS s 6 2)))) s.data.toList with
  | .ofNat 0, true => .tuple #[.agg #[.int .u8 (num (cutS s 5 1) : Nat), .int .u32 (num (cutS s 8 4) : Nat), .int .u64 (num (cutS s 16 8) : Nat), .string (str (cutS s 32 (num (cutS s 6 2))))], .int .i64 0]
  | _, _ => noPage 53
theorem pgR_eq (p w : Int) (s : ByteArray) : pgR p w s = pageR p w s := by
  unfold pgR pageR
  by_cases h1 : Fr p w
  · rw [(frB_iff p w).2 h1, if_neg (fun h => h h1)]
    simp only [Bool.not_true, cond_false]
    by_cases h2 : (s.size : Int) = p
    · rw [decide_eq_true h2, if_neg (fun h => h h2)]
      simp only [Bool.not_true, cond_false]
      by_cases h3 : be 4 (crc (cutS s 0 28 ++ cutS s 32 (s.size - 32))) = cutS s 28 4
      · rw [eqU_iff.2 h3, if_neg (fun h => h h3)]
        simp only [Bool.not_true, cond_false]
        by_cases h4 : p - 32 < ((num (cutS s 6 2) : Nat) : Int)
        · rw [if_pos h4, decide_eq_true h4, cond_true]
        · rw [if_neg h4, decide_eq_false h4, cond_false, err_eq]
          split
          · rename_i e1 e2
            rw [if_neg]
            rintro (h5 | h5)
            · exact h5 e1
            · exact h5 (eqU_iff.1 e2)
          · rename_i e
            rw [if_pos]
            apply Classical.byContradiction
            intro hc
            refine e ?_ ?_
            · exact Classical.not_not.1 fun h => hc (.inl h)
            · exact eqU_iff.2 (Classical.not_not.1 fun h => hc (.inr h))
      · have : eqU (be 4 (crc (cutS s 0 28 ++ cutS s 32 (s.size - 32)))) (cutS s 28 4) = false := by rw [Bool.eq_false_iff]; intro hc; exact h3 (eqU_iff.1 hc)
        rw [this, if_pos h3]
        rfl
    · rw [decide_eq_false h2, if_pos h2]
      rfl
  · have : frB p w = false := by rw [Bool.eq_false_iff]; intro hc; exact h1 ((frB_iff p w).1 hc)
    rw [this, if_pos h1]
    rfl

def nat3 : FuncId → List Value → Hp → Option (Option Value) := fun f args h =>
  match Nat.beq f 247 with
  | true => match args with
    | [.agg (Array.mk [.int .i64 p, .int .i64 w]), .agg (Array.mk [.int .u8 (.ofNat kind), .int .u32 (.ofNat no), .int .u64 (.ofNat ver), .string body])] => some (some (pgW p w kind no ver body))
    | _ => some none
  | false => match Nat.beq f 182 with
    | true => match args with
      | [.agg (Array.mk [.int .i64 p, .int .i64 w]), .string s] => match Nat.ble s.size 1099511627776 with
        | true => some (some (pgR p w s))
        | false => some none
      | _ => some none
    | false => sb.nat2 f args h

theorem nat3_ok : NatOk Tryz.prog nat3 := by
  intro f args h v hn
  unfold nat3 at hn
  split at hn
  · rename_i hf
    have hf := Nat.eq_of_beq_eq_true hf
    subst hf
    split at hn
    · simp only [Option.some.injEq] at hn
      subst hn
      rw [pgW_eq]
      exact cPWrite _ _ _ _ _ _ h
    · simp at hn
  · split at hn
    · rename_i hf
      have hf := Nat.eq_of_beq_eq_true hf
      subst hf
      split at hn
      · split at hn
        · rename_i hs
          simp only [Option.some.injEq] at hn
          subst hn
          rw [pgR_eq]
          exact cPRead _ _ _ (Nat.le_of_ble_eq_true hs) h
        · simp at hn
      · simp at hn
    · exact sb.nat2_ok f args h v hn
end Go.Proofs.YtjjdaooncebbnaaGreatDoor.pk

/- What every statement on reports asks ('awake'), evaluated. -/
set_option linter.unusedVariables false
namespace Go.Proofs.YtjjdaooncebbnaaGreatDoor.rep
open Go Go.Cn
theorem awake_eval : xK Tryz.prog 30000 pk.nat3 100 9 [] Hp.empty (fun v _ => match v with | .bool b => b | _ => false) = true := by kernel_rfl
theorem awake_ok (h : Hp) : SCalls Tryz.prog 9 [] h fun v h' => v = .bool true ∧ h' = h :=
  SCalls.closed (K := fun v => v = .bool true) (of_decide_eq_true (by kernel_rfl)) (closedK_bool pk.fol pk.nat3_ok awake_eval) (by rintro v rfl; exact ⟨_, rfl⟩)
end Go.Proofs.YtjjdaooncebbnaaGreatDoor.rep

/- 'AuditReports' over arguments of plain data. -/
set_option linter.unusedVariables false
namespace Go.Proofs.YtjjdaooncebbnaaGreatDoor.rep
open Go Go.Cn Go.Cn.Pk Go.Cn.Bits Go.Proofs Go.Proofs.YtjjdaooncebbnaaGreatDoor.vc

theorem eqB_self (b : Bool) : eqB b b = true := by cases b <;> rfl

theorem cReports (p w : Int) (mv rp cnt rv lst pgs sz ht : Int) (prs : Nat) (D : Nat → Int) (a1 a2 a3 a4 a5 a6 a7 : Option Addr) (l1 c1 l2 c2 l3 c3 l4 c4 l5 c5 l6 c6 l7 c7 : Nat) (hl : l4 + l5 + l6 + l7 < 9223372036854775808) (hl1 : l1 < 9223372036854775807) (hp : prs < 18446744073709551616) (h : Hp) :
    C 3 [frame p w, repV mv rp cnt rv lst pgs sz ht prs D a1 a2 a3 a4 a5 a6 a7 l1 c1 l2 c2 l3 c3 l4 c4 l5 c5 l6 c6 l7 c7] h fun v h' => v = .bool true := by
  refine SCalls_of_vw fol (pf := pfr) (shp := shp_Reports) (f := 3) (fn := Tryz.f3) (by kernel_rfl) (c := Tryz.f3.body.getD .skip) (by kernel_rfl) (by kernel_rfl) fun wf => ?_
  rw [vc_Reports]
  intro h1 e1 h2 e2
  obtain ⟨b1, k1, n1, wf1⟩ := new_blk wf e1
  obtain ⟨b2, k2, n2, wf2⟩ := new_blk wf1 e2
  have b1 := Kept.blk k2 b1
  have r1 : h2.cellsAt h.next 0 2 = some [.int .i64 p, .int .i64 w] := (b1.cells (Nat.le_of_ble_eq_true rfl)).trans rfl
  have r2 := (b2.cells (o := 0) (n := 48) (Nat.le_of_ble_eq_true rfl)).trans rfl
  refine ⟨mv, rp, D, cnt, rv, lst, pgs, sz, ht, prs, a1, l1, c1, a2, l2, c2, a3, l3, c3, a4, l4, c4, a5, l5, c5, a6, l6, c6, a7, l7, c7, ⟨rfl, r2⟩, mv, rp, D, cnt, rv, lst, pgs, sz, ht, prs, a1, l1, c1, a2, l2, c2, a3, l3, c3, a4, l4, c4, a5, l5, c5, a6, l6, c6, a7, l7, c7, ⟨rfl, r2⟩, (cAWhole mv rp cnt rv lst pgs sz ht prs D a1 a2 a3 a4 a5 a6 a7 l1 c1 l2 c2 l3 c3 l4 c4 l5 c5 l6 c6 l7 c7 hl h2).mono fun v h3 ⟨e, eh⟩ => ?_⟩
  subst eh
  refine ⟨_, e, ⟨rfl, r2⟩, (cRWhole mv rp cnt rv lst pgs sz ht prs D a1 a2 a3 a4 a5 a6 a7 l1 c1 l2 c2 l3 c3 l4 c4 l5 c5 l6 c6 l7 c7 h3).mono fun v h4 ⟨e, eh⟩ => ?_⟩
  subst eh
  refine ⟨_, e, p, w, fun _ => ⟨rfl, r1⟩, mv, rp, D, cnt, rv, lst, pgs, sz, ht, prs, a1, l1, c1, a2, l2, c2, a3, l3, c3, a4, l4, c4, a5, l5, c5, a6, l6, c6, a7, l7, c7, fun _ => ⟨rfl, r2⟩, p, w, fun _ => ⟨rfl, r1⟩, mv, rp, D, cnt, rv, lst, pgs, sz, ht, prs, a1, l1, c1, a2, l2, c2, a3, l3, c3, a4, l4, c4, a5, l5, c5, a6, l6, c6, a7, l7, c7, fun _ => ⟨rfl, r2⟩, _, fun _ => cABounds p w mv rp cnt rv lst pgs sz ht prs D a1 a2 a3 a4 a5 a6 a7 l1 c1 l2 c2 l3 c3 l4 c4 l5 c5 l6 c6 l7 c7 hl1 hp h4, fun _ => ⟨rfl, r2⟩, fun _ => ⟨rfl, r1⟩, _, fun _ => cRBounds p w mv rp cnt rv lst pgs sz ht prs D a1 a2 a3 a4 a5 a6 a7 l1 c1 l2 c2 l3 c3 l4 c4 l5 c5 l6 c6 l7 c7 hl1 hp h4, true, fun _ => awake_ok h4, ?_⟩
  rw [eqB_self, eqB_self]
  rfl

theorem fine_sl {h : Hp} {N n : Nat} {t e : TypeId} {cs : List Value} (hu : Tryz.prog.underlying t = some (.slice e)) (hg : Fine Tryz.prog h N n t cs) : ∃ a l c, cs = [.slice a l c] ∧ l ≤ N := by
  cases n with
  | zero => exact hg.elim
  | succ n =>
    unfold Fine at hg
    rw [hu] at hg
    rcases hg with rfl | ⟨b, l, c, rfl, h1, h2, _⟩
    · exact ⟨none, 0, 0, rfl, Nat.zero_le _⟩
    · exact ⟨_, l, c, rfl, by omega⟩
theorem fine_ints {G : TypeId → List Value → Prop} {k : IntKind} : ∀ {fs : List Field} {cs : List Value}, (∀ f ∈ fs, ∀ c, G f.type c → ∃ i, c = [.int k i]) → FineFs G fs cs → ∃ L : List Int, L.length = fs.length ∧ cs = L.map (.int k)
  | [], cs, _, h => ⟨[], rfl, h⟩
  | f :: fs, cs, hf, ⟨c1, c2, h1, h2, h3⟩ => by
    obtain ⟨i, rfl⟩ := hf f (by simp) c1 h2
    obtain ⟨L, h4, rfl⟩ := fine_ints (fun g hg => hf g (by simp [hg])) h3
    exact ⟨i :: L, by simp [h4], by rw [h1]; rfl⟩
theorem ints_dgV {k : IntKind} {n : Nat} {L : List Int} (h : L.length = n) : L.map (.int k) = dgV k n fun i => L.getD i 0 := by
  subst h
  unfold dgV
  apply List.ext_getElem?
  intro i
  rw [List.getElem?_map, List.getElem?_map]
  by_cases hi : i < L.length
  · rw [List.getElem?_eq_getElem hi, List.getElem?_range hi]
    simp [List.getD_eq_getElem?_getD, hi]
  · rw [List.getElem?_eq_none (by omega), List.getElem?_eq_none (by simp; omega)]
    rfl
end Go.Proofs.YtjjdaooncebbnaaGreatDoor.rep

namespace Go.Proofs.YtjjdaooncebbnaaGreatDoor.sb
open Go Go.Cn Go.Cn.Pk Go.Proofs Go.Proofs.YtjjdaooncebbnaaGreatDoor.rep
set_option maxRecDepth 100000 in
theorem main_AuditReports (N : Nat) (hN : N ≤ 140737488355327) (h : Hp) (vs : List Value) (wf : Wf h) (hg : FineArgs Tryz.prog h N Tryz.f3.params.toList vs) :
    SCalls Tryz.prog 3 vs h fun v _ => v = .bool true := by
  rw [Tryz.params3] at hg
  obtain ⟨v, vs', n, cs, rfl, hG, hv, v2, vs2, n2, cs2, rfl, hG2, hv2, hnil⟩ := hg
  have hv : v = .agg cs.toArray := hv
  have hv2 : v2 = .agg cs2.toArray := hv2
  have hnil : vs2 = [] := hnil
  subst hnil
  obtain ⟨m, rfl, x1, x2, rfl, f1, y1, y2, rfl, f2, f3⟩ := hG.struct Tryz.underlying23
  obtain ⟨p, rfl, _⟩ := f1.int Tryz.underlying3
  obtain ⟨w, rfl, _⟩ := f2.int Tryz.underlying3
  have f3 : y2 = [] := f3
  subst f3
  obtain ⟨m2, rfl, q1, o1, rfl, g1, q2, o2, rfl, g2, q3, o3, rfl, g3, q4, o4, rfl, g4, q5, o5, rfl, g5, q6, o6, rfl, g6, q7, o7, rfl, g7, q8, o8, rfl, g8, q9, o9, rfl, g9, q10, o10, rfl, g10, q11, o11, rfl, g11, g12⟩ := hG2.struct Tryz.underlying35
  have g12 : o11 = [] := g12
  subst g12
  obtain ⟨m3, rfl, u1, t1, rfl, i1, u2, t2, rfl, i2, u3, t3, rfl, i3, u4, t4, rfl, i4, i5⟩ := g1.struct Tryz.underlying31
  have i5 : t4 = [] := i5
  subst i5
  obtain ⟨mv, rfl, _⟩ := i1.int Tryz.underlying24
  obtain ⟨lst, rfl, _⟩ := i3.int Tryz.underlying25
  obtain ⟨pgs, rfl, _⟩ := i4.int Tryz.underlying25
  obtain ⟨m4, rfl, w1, z1, rfl, j1, w2, z2, rfl, j2, w3, z3, rfl, j3, w4, z4, rfl, j4, j5⟩ := i2.struct Tryz.underlying29
  have j5 : z4 = [] := j5
  subst j5
  obtain ⟨rp, rfl, _⟩ := j1.int Tryz.underlying25
  obtain ⟨cnt, rfl, _⟩ := j3.int Tryz.underlying24
  obtain ⟨rv, rfl, _⟩ := j4.int Tryz.underlying24
  obtain ⟨m5, rfl, j2⟩ := j2.array Tryz.underlying27
  obtain ⟨L, hL, rfl⟩ := fine_ints (k := .u8) (fun f hf cc hc => by
    obtain ⟨j, hj⟩ := List.getElem?_of_mem hf
    have := (arrF_get hj).2.1
    rw [this] at hc
    obtain ⟨i, hi, _⟩ := hc.int Tryz.underlying5
    exact ⟨i, hi⟩) j2
  rw [arrF_len] at hL
  rw [ints_dgV hL] at hv2
  generalize (fun i => L.getD i 0) = D at hv2
  obtain ⟨sz, rfl, _⟩ := g2.int Tryz.underlying3
  obtain ⟨ht, rfl, _⟩ := g3.int Tryz.underlying3
  obtain ⟨pr, rfl, hpr⟩ := g4.int Tryz.underlying24
  simp only [Lit.wf, Bool.and_eq_true, decide_eq_true_eq] at hpr
  have e0 : IntKind.u64.min = 0 := rfl
  have e1 : IntKind.u64.max = 18446744073709551615 := rfl
  rw [e0, e1] at hpr
  obtain ⟨prs, rfl⟩ : ∃ n : Nat, pr = (n : Int) := ⟨pr.toNat, by omega⟩
  obtain ⟨a1, l1, c1, rfl, hl1⟩ := fine_sl Tryz.underlying32 g5
  obtain ⟨a2, l2, c2, rfl, hl2⟩ := fine_sl Tryz.underlying32 g6
  obtain ⟨a3, l3, c3, rfl, hl3⟩ := fine_sl Tryz.underlying32 g7
  obtain ⟨a4, l4, c4, rfl, hl4⟩ := fine_sl Tryz.underlying32 g8
  obtain ⟨a5, l5, c5, rfl, hl5⟩ := fine_sl Tryz.underlying32 g9
  obtain ⟨a6, l6, c6, rfl, hl6⟩ := fine_sl Tryz.underlying32 g10
  obtain ⟨a7, l7, c7, rfl, hl7⟩ := fine_sl Tryz.underlying33 g11
  subst hv hv2
  exact cReports p w mv rp cnt rv lst pgs sz ht prs D a1 a2 a3 a4 a5 a6 a7 l1 c1 l2 c2 l3 c3 l4 c4 l5 c5 l6 c6 l7 c7 (by omega) (by omega) (by omega) h
end Go.Proofs.YtjjdaooncebbnaaGreatDoor.sb
