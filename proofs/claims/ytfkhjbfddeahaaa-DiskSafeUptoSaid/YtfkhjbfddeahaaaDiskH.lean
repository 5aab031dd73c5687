/- Contracts: which arms are due, and that they are struck. -/
import Derived.Test.YtfkhjbfddeahaaaDiskF
set_option linter.unusedVariables false
namespace Go.Proofs.Ytfkhjbfddeahaaa.kc
open Go Go.Cn Go.Proofs Go.Proofs.Ytfkhjbfddeahaaa.vc

def Ar.due (x : Ar) : Bool := eqI x.left 0

theorem c97 (x : Ar) (h : Hp) : C 97 [.agg x.enc.toArray] h fun v h' => v = .bool x.due ∧ Kept h h' := by
  refine SCalls_of_vw fol (pf := pf) (shp := shp97) (f := 97) (fn := Try.f97) (by kernel_rfl) (c := Try.f97.body.getD .skip) (by kernel_rfl) (by kernel_rfl) fun wf => ?_
  show vBody Try.prog C pf shp97 Try.f97 (Try.f97.body.getD .skip) [.agg #[.int .u8 x.on, .int .i64 x.nth, .bool x.pw, .slice x.fa x.fl x.fc, .int .i64 x.left]] h _
  rw [vc97]
  intro h1 e1
  obtain ⟨b1, k1, n1, wf1⟩ := new_blk wf e1
  exact ⟨rfl, x.left, ⟨rfl, b1.one rfl⟩, rfl, k1⟩

/-- The place of the first that is due. -/
def First (L : List Ar) (n : Int) : Prop :=
  (∃ (i : Nat) (x : Ar), n = (i : Int) ∧ L[i]? = some x ∧ x.due = true ∧ ∀ (j : Nat) y, j < i → L[j]? = some y → y.due = false) ∨ (n = -1 ∧ ∀ y ∈ L, y.due = false)

theorem c98 {h : Hp} {G : Option Nat} {a : Option Addr} {l c : Nat} {L : List Ar} (s : SlT Ar.enc 5 h G a l c L) (hl : l ≤ 8589934592) :
    C 98 [.slice a l c, .func (.func 97) #[] #[]] h fun v h' => (∃ n, v = .int .i64 n ∧ First L n) ∧ Kept h h' := by
  refine SCalls_of_vw fol (pf := pf) (shp := shp98) (f := 98) (fn := Try.f98) (by kernel_rfl) (c := Try.f98.body.getD .skip) (by kernel_rfl) (by kernel_rfl) fun wf => ?_
  rw [vc98]
  have hL := s.len
  refine ⟨fun vals m hh => ∃ i : Nat, [.int .i64 i] = vals ∧ i ≤ l ∧ m = l - i ∧ Wf hh ∧ Kept h hh ∧ ∀ (j : Nat) y, j < i → L[j]? = some y → y.due = false, ⟨l, 0, rfl, by omega, rfl, wf, Keep.refl _ _, by omega⟩, ?_⟩
  rintro n m hh ⟨i, e, hi, rfl, wf1, k1, hno⟩
  simp at e; subst e
  split
  · rename_i hlt
    have hlt : i < l := by rw [ltI_iff] at hlt; simp only [natI] at hlt; omega
    have hx : L[i]? = some (L[i]'(by omega)) := List.getElem?_eq_getElem _
    generalize L[i]'(by omega) = x at hx
    obtain ⟨i1, i2⟩ := (s.keep k1 fun _ _ hf => hf).get Ar.w hx (j := 0) (m := 5) (by omega)
    refine ⟨⟨i1, by simp [inR]; omega⟩, _, _, _, _, _, _, _, ⟨rfl, i2.trans rfl⟩, ?_⟩
    refine (c97 x hh).wf fun v h2 wf2 _ ⟨e, k2⟩ => ⟨_, e, ?_⟩
    have k12 := k1.trans wf k2 fun _ _ hf => hf
    split
    · rename_i hd
      exact ⟨⟨_, rfl, .inl ⟨i, x, rfl, hx, hd, hno⟩⟩, k12⟩
    · rename_i hd
      refine ⟨l - (i + 1), by simp only [lessN]; omega, i + 1, by rw [addW_small (by omega) (by omega)]; rfl, by omega, rfl, wf2, k12, fun j y hj hy => ?_⟩
      by_cases hji : j = i
      · subst hji; rw [hx] at hy; simp at hy; subst hy; simpa using hd
      · exact hno j y (by omega) hy
  · rename_i hlt
    have hil : i = l := by rw [ltI_iff] at hlt; simp only [natI] at hlt; omega
    refine ⟨⟨_, rfl, .inr ⟨rfl, fun y hy => ?_⟩⟩, k1⟩
    obtain ⟨j, hj⟩ := List.getElem?_of_mem hy
    exact hno j y (by have := (List.getElem?_eq_some_iff.mp hj).1; omega) hj

theorem zero108 : ∃ z, zero? Try.prog 108 = some z ∧ plainV 100 z = true ∧ z.cells.toList = [.int .u8 0, .int .i64 0, .bool false, .slice none 0 0, .int .i64 0] := ⟨.agg #[.int .u8 0, .int .i64 0, .bool false, .slice none 0 0, .int .i64 0], by kernel_rfl, by rfl, rfl⟩

theorem flat_set {α : Type} {enc : α → List Value} {w : Nat} (hw : ∀ x, (enc x).length = w) {L : List α} {i : Nat} (hi : i < L.length) (x : α) : splice (L.flatMap enc) (i * w) (enc x) = (L.set i x).flatMap enc := by
  induction L generalizing i with
  | nil => simp at hi
  | cons y L ih =>
    cases i with
    | zero =>
      simp only [splice, List.flatMap_cons, List.set_cons_zero, Nat.zero_mul, List.take_zero, List.nil_append, Nat.zero_add]
      rw [hw, List.drop_append, List.drop_eq_nil_of_le (by rw [hw]; exact Nat.le_refl _), hw, Nat.sub_self, List.drop_zero, List.nil_append]
    | succ i =>
      have := ih (i := i) (by simpa using hi)
      simp only [splice, List.flatMap_cons, List.set_cons_succ] at this ⊢
      rw [← this]
      have hy := hw y
      have hx := hw x
      rw [show (i + 1) * w = (enc y).length + i * w by rw [hy, Nat.succ_mul]; omega, List.take_append, List.take_of_length_le (by omega), show (enc y).length + i * w - (enc y).length = i * w by omega,
        Nat.add_assoc, List.drop_append, List.drop_eq_nil_of_le (by omega), show (enc y).length + (i * w + (enc x).length) - (enc y).length = i * w + (enc x).length by omega]
      simp [List.append_assoc]

theorem flat_take {α : Type} {enc : α → List Value} {w : Nat} (hw : ∀ x, (enc x).length = w) (L : List α) (i : Nat) : (L.flatMap enc).take (i * w) = (L.take i).flatMap enc := by
  induction L generalizing i with
  | nil => simp
  | cons y L ih =>
    cases i with
    | zero => simp
    | succ i =>
      simp only [List.flatMap_cons, List.take_succ_cons]
      rw [show (i + 1) * w = (enc y).length + i * w by rw [hw, Nat.succ_mul]; omega, List.take_append, List.take_of_length_le (by omega), show (enc y).length + i * w - (enc y).length = i * w by omega, ih]

def nd (x : Ar) : Bool := !x.due

/-- slices.DeleteFunc of the arms that are due. -/
theorem c99 {h : Hp} {ga : Option Nat} {s : Sv} {L : List Ar} (o : OwT Ar.enc 5 h ga s L) (hl : s.l ≤ 8589934592) :
    C 99 [s.v, .func (.func 97) #[] #[]] h fun v h' => ∃ s', v = Sv.v s' ∧ OwT Ar.enc 5 h' ga s' (L.filter nd) ∧ Keep (fun y => ga = some y) h h' := by
  refine SCalls_of_vw fol (pf := pf) (shp := shp99) (f := 99) (fn := Try.f99) (by kernel_rfl) (c := Try.f99.body.getD .skip) (by kernel_rfl) (by kernel_rfl) fun wf => ?_
  rw [vc99]
  have hL := o.2
  refine (c98 o.slT hl).wf fun v h1 wf1 _ ⟨⟨n, e, hF⟩, k1⟩ => ⟨_, e, ?_⟩
  have o1 := o.keep k1 fun _ _ hf => hf
  have kk1 : Keep (fun y => ga = some y) h h1 := k1.mono wf fun _ _ hf => hf.elim
  rcases hF with ⟨i0, x0, rfl, hx0, hd0, hno⟩ | ⟨rfl, hno⟩
  · have hi0 := (List.getElem?_eq_some_iff.mp hx0).1
    rw [if_neg (by rw [eqI_iff]; omega)]
    have hfirst : (L.take (i0 + 1)).filter nd = L.take i0 := by
      rw [List.take_add_one, hx0, List.filter_append]
      have e1 : (L.take i0).filter nd = L.take i0 := by
        rw [List.filter_eq_self]
        intro y hy
        obtain ⟨j, hj⟩ := List.getElem?_of_mem hy
        rw [List.getElem?_take] at hj
        split at hj
        · rename_i hji; simp [nd, hno j y hji hj]
        · simp at hj
      rw [e1]; simp [nd, hd0]
    refine ⟨fun vals m hh => ∃ (i j : Nat) (M : List Ar), [.int .i64 i, .int .i64 j] = vals ∧ j ≤ s.l ∧ m = s.l - j ∧ Wf hh ∧ Keep (fun y => ga = some y) h hh ∧ OwT Ar.enc 5 hh ga s M ∧ M.take i = (L.take j).filter nd ∧ i < j ∧
        (∀ q, j ≤ q → M[q]? = L[q]?), ⟨_, i0, i0 + 1, L, by rw [addW_small (by omega) (by omega)]; rfl, by omega, rfl, wf1, kk1, o1, hfirst.symm, by omega, fun _ _ => rfl⟩, ?_⟩
    rintro n1 n2 m hh ⟨i, j, M, e, hj, rfl, wf2, k2, o2, hM, hij, hrest⟩
    simp at e
    obtain ⟨rfl, rfl⟩ := e
    have hMl := o2.2
    split
    · rename_i hlt
      have hlt : j < s.l := by rw [ltI_iff] at hlt; simp only [natI] at hlt; omega
      have hx : L[j]? = some (L[j]'(by omega)) := List.getElem?_eq_getElem _
      generalize L[j]'(by omega) = x at hx
      have hxM : M[j]? = some x := by rw [hrest j (Nat.le_refl _)]; exact hx
      obtain ⟨i1, i2⟩ := o2.slT.get Ar.w hxM (j := 0) (m := 5) (by omega)
      refine ⟨⟨i1, by simp [inR]; omega⟩, _, _, _, _, _, _, _, ⟨rfl, i2.trans rfl⟩, ?_⟩
      intro h3 e3
      obtain ⟨b3, k3, n3, wf3⟩ := new_blk wf2 e3
      obtain ⟨h4, e4, b4, k4, _, n4, wf4⟩ := set_blk wf3 b3 k3 wf2 (Nat.le_refl _) (vs := x.enc) rfl rfl
      refine ⟨rfl, h4, e4, ?_⟩
      (repeat' first | refine ⟨rfl, ?_⟩ | refine ⟨fun _ => rfl, ?_⟩ | refine ⟨_, ⟨rfl, (Blk.cells (by assumption) (Nat.le_of_ble_eq_true rfl)).trans rfl⟩, ?_⟩ | refine ⟨_, fun _ => ⟨rfl, (Blk.cells (by assumption) (Nat.le_of_ble_eq_true rfl)).trans rfl⟩, ?_⟩ | refine ⟨_, _, ⟨rfl, (Blk.cells (by assumption) (Nat.le_of_ble_eq_true rfl)).trans rfl⟩, ?_⟩ | refine ⟨_, _, fun _ => ⟨rfl, (Blk.cells (by assumption) (Nat.le_of_ble_eq_true rfl)).trans rfl⟩, ?_⟩ | refine ⟨_, _, _, ⟨rfl, (Blk.cells (by assumption) (Nat.le_of_ble_eq_true rfl)).trans rfl⟩, ?_⟩ | refine ⟨_, _, _, fun _ => ⟨rfl, (Blk.cells (by assumption) (Nat.le_of_ble_eq_true rfl)).trans rfl⟩, ?_⟩ | refine ⟨_, _, _, _, ⟨rfl, (Blk.cells (by assumption) (Nat.le_of_ble_eq_true rfl)).trans rfl⟩, ?_⟩ | refine ⟨_, _, _, _, fun _ => ⟨rfl, (Blk.cells (by assumption) (Nat.le_of_ble_eq_true rfl)).trans rfl⟩, ?_⟩ | refine ⟨_, _, _, _, _, ⟨rfl, (Blk.cells (by assumption) (Nat.le_of_ble_eq_true rfl)).trans rfl⟩, ?_⟩ | refine ⟨_, _, _, _, _, fun _ => ⟨rfl, (Blk.cells (by assumption) (Nat.le_of_ble_eq_true rfl)).trans rfl⟩, ?_⟩ | refine ⟨_, _, _, _, _, _, ⟨rfl, (Blk.cells (by assumption) (Nat.le_of_ble_eq_true rfl)).trans rfl⟩, ?_⟩ | refine ⟨_, _, _, _, _, _, fun _ => ⟨rfl, (Blk.cells (by assumption) (Nat.le_of_ble_eq_true rfl)).trans rfl⟩, ?_⟩ | refine ⟨_, _, _, _, _, _, _, ⟨rfl, (Blk.cells (by assumption) (Nat.le_of_ble_eq_true rfl)).trans rfl⟩, ?_⟩ | refine ⟨_, _, _, _, _, _, _, fun _ => ⟨rfl, (Blk.cells (by assumption) (Nat.le_of_ble_eq_true rfl)).trans rfl⟩, ?_⟩ | refine ⟨_, _, _, _, _, _, _, _, ⟨rfl, (Blk.cells (by assumption) (Nat.le_of_ble_eq_true rfl)).trans rfl⟩, ?_⟩ | refine ⟨_, _, _, _, _, _, _, _, fun _ => ⟨rfl, (Blk.cells (by assumption) (Nat.le_of_ble_eq_true rfl)).trans rfl⟩, ?_⟩ | fail)
      refine (c97 x h4).wf fun v h5 wf5 _ ⟨e, k5⟩ => ⟨_, e, ?_⟩
      have b5 := Keep.blk k5 b4 fun _ _ hf => hf
      have k25 : Kept hh h5 := k4.trans wf2 k5 fun _ _ hf => hf
      have o5 := o2.keep k25 fun _ _ hf => hf
      have kh5 : Keep (fun y => ga = some y) h h5 := k2.trans wf k25 fun _ _ hf => hf.elim
      have ej : addW .i64 (j : Int) 1 = ((j + 1 : Nat) : Int) := by rw [addW_small (by omega) (by omega)]; rfl
      have ei : addW .i64 (i : Int) 1 = ((i + 1 : Nat) : Int) := by rw [addW_small (by omega) (by omega)]; rfl
      have htake : (L.take (j + 1)).filter nd = (L.take j).filter nd ++ (if x.due = true then [] else [x]) := by
        rw [List.take_add_one, hx, List.filter_append]
        cases hd : x.due <;> simp [nd, hd]
      split
      · rename_i hnd
        have hnd : x.due = false := notB_iff.mp hnd
        (repeat' first | refine ⟨rfl, ?_⟩ | refine ⟨fun _ => rfl, ?_⟩ | refine ⟨_, ⟨rfl, (Blk.cells (by assumption) (Nat.le_of_ble_eq_true rfl)).trans rfl⟩, ?_⟩ | refine ⟨_, fun _ => ⟨rfl, (Blk.cells (by assumption) (Nat.le_of_ble_eq_true rfl)).trans rfl⟩, ?_⟩ | refine ⟨_, _, ⟨rfl, (Blk.cells (by assumption) (Nat.le_of_ble_eq_true rfl)).trans rfl⟩, ?_⟩ | refine ⟨_, _, fun _ => ⟨rfl, (Blk.cells (by assumption) (Nat.le_of_ble_eq_true rfl)).trans rfl⟩, ?_⟩ | refine ⟨_, _, _, ⟨rfl, (Blk.cells (by assumption) (Nat.le_of_ble_eq_true rfl)).trans rfl⟩, ?_⟩ | refine ⟨_, _, _, fun _ => ⟨rfl, (Blk.cells (by assumption) (Nat.le_of_ble_eq_true rfl)).trans rfl⟩, ?_⟩ | refine ⟨_, _, _, _, ⟨rfl, (Blk.cells (by assumption) (Nat.le_of_ble_eq_true rfl)).trans rfl⟩, ?_⟩ | refine ⟨_, _, _, _, fun _ => ⟨rfl, (Blk.cells (by assumption) (Nat.le_of_ble_eq_true rfl)).trans rfl⟩, ?_⟩ | refine ⟨_, _, _, _, _, ⟨rfl, (Blk.cells (by assumption) (Nat.le_of_ble_eq_true rfl)).trans rfl⟩, ?_⟩ | refine ⟨_, _, _, _, _, fun _ => ⟨rfl, (Blk.cells (by assumption) (Nat.le_of_ble_eq_true rfl)).trans rfl⟩, ?_⟩ | refine ⟨_, _, _, _, _, _, ⟨rfl, (Blk.cells (by assumption) (Nat.le_of_ble_eq_true rfl)).trans rfl⟩, ?_⟩ | refine ⟨_, _, _, _, _, _, fun _ => ⟨rfl, (Blk.cells (by assumption) (Nat.le_of_ble_eq_true rfl)).trans rfl⟩, ?_⟩ | refine ⟨_, _, _, _, _, _, _, ⟨rfl, (Blk.cells (by assumption) (Nat.le_of_ble_eq_true rfl)).trans rfl⟩, ?_⟩ | refine ⟨_, _, _, _, _, _, _, fun _ => ⟨rfl, (Blk.cells (by assumption) (Nat.le_of_ble_eq_true rfl)).trans rfl⟩, ?_⟩ | refine ⟨_, _, _, _, _, _, _, _, ⟨rfl, (Blk.cells (by assumption) (Nat.le_of_ble_eq_true rfl)).trans rfl⟩, ?_⟩ | refine ⟨_, _, _, _, _, _, _, _, fun _ => ⟨rfl, (Blk.cells (by assumption) (Nat.le_of_ble_eq_true rfl)).trans rfl⟩, ?_⟩ | fail)
        refine ⟨⟨i1, by simp [inR]; omega⟩, rfl, ?_⟩
        obtain ⟨_, h6, e6, o6, k6, n6, w6⟩ := o5.1.store (i := i * 5) (vs := x.enc) (by have := Ar.w x; omega) (by omega) rfl
        rw [flat_set Ar.w (by omega)] at o6
        refine ⟨h6, e6, s.l - (j + 1), by simp only [lessN]; omega, i + 1, j + 1, M.set i x, by rw [ej, ei], by omega, rfl, w6 wf5, kh5.trans wf k6 (fun _ _ hg => hg), ⟨o6, by rw [List.length_set]; exact hMl⟩, ?_, by omega, fun q hq => ?_⟩
        · rw [htake, ← hM, List.take_add_one, List.take_set_of_le (Nat.le_refl _)]
          simp [hnd, show i < M.length by omega]
        · rw [List.getElem?_set_ne (by omega)]; exact hrest q (by omega)
      · rename_i hnd
        have hd : x.due = true := by cases hx : x.due with | true => rfl | false => rw [hx] at hnd; simp [notB] at hnd
        refine ⟨s.l - (j + 1), by simp only [lessN]; omega, i, j + 1, M, by rw [ej], by omega, rfl, wf5, kh5, o5, by rw [htake, hM]; simp [hd], by omega, fun q hq => hrest q (by omega)⟩
    · rename_i hlt
      have hjl : j = s.l := by rw [ltI_iff] at hlt; simp only [natI] at hlt; omega
      have hfull : (L.take j).filter nd = L.filter nd := by rw [List.take_of_length_le (by omega)]
      rw [hfull] at hM
      have hle := o2.1.sl.le
      have hspot : spotOk 5 s.a := by
        have := o2.1.sl.mem
        cases hsa : s.a with
        | none => trivial
        | some q => rw [hsa] at this; exact this.1
      obtain ⟨z, z1, z2, z3⟩ := zero108
      have hzl : (zeroCells z.cells.toList (s.l - i)).length = (s.l - i) * 5 := by rw [zeroCells_len, z3]; rfl
      have hzc : (zeroCells z.cells.toList (s.l - i)).all isCell = true := by
        rw [List.all_eq_true]; intro v hv
        have := zeroCells_mem hv
        rw [z3] at this
        simp at this
        rcases this with rfl | rfl | rfl | rfl | rfl <;> rfl
      obtain ⟨i1, h6, e6, o6, k6, n6, w6⟩ := o2.1.store (i := i * 5) (vs := zeroCells z.cells.toList (s.l - i)) (by rw [hzl, ← Nat.add_mul]; exact Nat.mul_le_mul_right 5 (by omega)) (by omega) hzc
      have hclear : cclear Try.prog 99 (.slice (cutA (i : Int) 5 s.a) (diffN (natI s.l) (i : Int)) (diffN (natI s.c) (i : Int))) hh = some (.tuple #[], h6) := by
        obtain ⟨q, hq⟩ := Option.isSome_iff_exists.mp i1
        obtain ⟨qb, qo, qs⟩ := q
        rw [hq] at e6
        have e7 : diffN (natI s.l) (i : Int) = s.l - i := by simp [diffN, natI]
        rw [hq, e7]
        simp only [cutA, Option.map_some]
        unfold cclear
        rw [Try.underlying99]
        dsimp only
        rw [if_neg (by omega), z1]
        dsimp only
        rw [if_pos z2]
        have e8 : qo + (i : Int).toNat * 5 = off (some (Addr.mk qb qo qs)) + i * 5 := by simp [off]
        rw [e8]
        have e9 : hh.store qb (off (some (Addr.mk qb qo qs)) + i * 5) (zeroCells z.cells.toList (s.l - i)) = some h6 := e6
        rw [e9]; rfl
      refine ⟨⟨by simp only [cutOk, natI]; omega, hspot⟩, h6, hclear, ⟨by simp only [cutOk, natI]; omega, hspot⟩, ?_⟩
      have e9 : cutA 0 5 s.a = s.a := by cases s.a with | none => rfl | some q => simp [cutA]
      have e10 : diffN (i : Int) 0 = i := by simp [diffN]
      have e11 : diffN (natI s.c) 0 = s.c := by simp [diffN, natI]
      rw [e9, e10, e11]
      have hcut := o6.cut (k := i) (by omega)
      have hli : (L.filter nd).length = i := by rw [← hM, List.length_take]; omega
      refine ⟨⟨s.a, i, s.c⟩, rfl, ⟨?_, hli⟩, k2.trans wf k6 fun _ _ hg => hg⟩
      have e12 : (splice (M.flatMap Ar.enc) (i * 5) (zeroCells z.cells.toList (s.l - i))).take (i * 5) = (L.filter nd).flatMap Ar.enc := by
        rw [← hM, ← flat_take Ar.w]
        simp only [splice]
        rw [List.append_assoc, List.take_append_of_le_length (by rw [List.length_take, flat_len Ar.w]; omega), List.take_take, Nat.min_self]
      rw [e12] at hcut
      exact hcut
  · rw [if_pos (by rw [eqI_iff])]
    have : L.filter nd = L := by rw [List.filter_eq_self]; intro y hy; simp [nd, hno y hy]
    rw [this]
    exact ⟨s, rfl, o1, kk1⟩
end Go.Proofs.Ytfkhjbfddeahaaa.kc
