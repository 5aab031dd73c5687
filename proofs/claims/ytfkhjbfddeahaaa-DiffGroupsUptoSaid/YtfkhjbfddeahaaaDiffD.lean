/- Contracts of Back of package diff and of its reference, and of 'fresh' of the law. -/
import Derived.Test.YtfkhjbfddeahaaaDiffC
set_option linter.unusedVariables false
namespace Go.Proofs.Ytfkhjbfddeahaaa.dc
open Go Go.Cn Go.Proofs Go.Proofs.Ytfkhjbfddeahaaa.vc

theorem flat_snoc (A : List Chg) (y : Chg) : (A ++ [y]).flatMap Chg.enc = A.flatMap Chg.enc ++ y.enc := by simp

def Chg.back (x : Chg) : Chg := ⟨x.k, x.b, x.a, x.n, x.o⟩

theorem c52 (x : Chg) (h : Hp) : C 52 [.agg x.enc.toArray] h fun v h' => v = .agg x.back.enc.toArray ∧ Kept h h' := by
  refine SCalls_of_vw fol (pf := pf) (shp := shp52) (f := 52) (fn := Try.f52) (by kernel_rfl) (c := Try.f52.body.getD .skip) (by kernel_rfl) (by kernel_rfl) fun wf => ?_
  show vBody Try.prog C pf shp52 Try.f52 (Try.f52.body.getD .skip) [.agg #[.string x.k, .bool x.a, .bool x.b, .string x.o, .string x.n]] h _
  rw [vc52]
  intro h1 e1 h2 e2
  obtain ⟨b1, k1, n1, wf1⟩ := new_blk wf e1
  obtain ⟨b2, k2, n2, wf2⟩ := new_blk wf1 e2
  have b1 := Keep.blk k2 b1 fun _ _ hf => hf
  have k12 := k1.trans wf k2 fun _ _ hf => hf
  (repeat' first | refine ⟨rfl, ?_⟩ | refine ⟨fun _ => rfl, ?_⟩ | refine ⟨_, ⟨rfl, (Blk.cells (by assumption) (Nat.le_of_ble_eq_true rfl)).trans rfl⟩, ?_⟩ | refine ⟨_, fun _ => ⟨rfl, (Blk.cells (by assumption) (Nat.le_of_ble_eq_true rfl)).trans rfl⟩, ?_⟩ | refine ⟨_, _, ⟨rfl, (Blk.cells (by assumption) (Nat.le_of_ble_eq_true rfl)).trans rfl⟩, ?_⟩ | refine ⟨_, _, fun _ => ⟨rfl, (Blk.cells (by assumption) (Nat.le_of_ble_eq_true rfl)).trans rfl⟩, ?_⟩ | refine ⟨_, _, _, ⟨rfl, (Blk.cells (by assumption) (Nat.le_of_ble_eq_true rfl)).trans rfl⟩, ?_⟩ | refine ⟨_, _, _, fun _ => ⟨rfl, (Blk.cells (by assumption) (Nat.le_of_ble_eq_true rfl)).trans rfl⟩, ?_⟩ | refine ⟨_, _, _, _, ⟨rfl, (Blk.cells (by assumption) (Nat.le_of_ble_eq_true rfl)).trans rfl⟩, ?_⟩ | refine ⟨_, _, _, _, fun _ => ⟨rfl, (Blk.cells (by assumption) (Nat.le_of_ble_eq_true rfl)).trans rfl⟩, ?_⟩ | refine ⟨_, _, _, _, _, ⟨rfl, (Blk.cells (by assumption) (Nat.le_of_ble_eq_true rfl)).trans rfl⟩, ?_⟩ | refine ⟨_, _, _, _, _, fun _ => ⟨rfl, (Blk.cells (by assumption) (Nat.le_of_ble_eq_true rfl)).trans rfl⟩, ?_⟩ | refine ⟨_, _, _, _, _, _, ⟨rfl, (Blk.cells (by assumption) (Nat.le_of_ble_eq_true rfl)).trans rfl⟩, ?_⟩ | refine ⟨_, _, _, _, _, _, fun _ => ⟨rfl, (Blk.cells (by assumption) (Nat.le_of_ble_eq_true rfl)).trans rfl⟩, ?_⟩ | fail)
  obtain ⟨h3, e3, b3, k3, _, n3, wf3⟩ := set_blk wf2 b2 k12 wf (by omega) (vs := x.back.enc) rfl rfl
  refine ⟨h3, e3, ?_⟩
  (repeat' first | refine ⟨rfl, ?_⟩ | refine ⟨fun _ => rfl, ?_⟩ | refine ⟨_, ⟨rfl, (Blk.cells (by assumption) (Nat.le_of_ble_eq_true rfl)).trans rfl⟩, ?_⟩ | refine ⟨_, fun _ => ⟨rfl, (Blk.cells (by assumption) (Nat.le_of_ble_eq_true rfl)).trans rfl⟩, ?_⟩ | refine ⟨_, _, ⟨rfl, (Blk.cells (by assumption) (Nat.le_of_ble_eq_true rfl)).trans rfl⟩, ?_⟩ | refine ⟨_, _, fun _ => ⟨rfl, (Blk.cells (by assumption) (Nat.le_of_ble_eq_true rfl)).trans rfl⟩, ?_⟩ | refine ⟨_, _, _, ⟨rfl, (Blk.cells (by assumption) (Nat.le_of_ble_eq_true rfl)).trans rfl⟩, ?_⟩ | refine ⟨_, _, _, fun _ => ⟨rfl, (Blk.cells (by assumption) (Nat.le_of_ble_eq_true rfl)).trans rfl⟩, ?_⟩ | refine ⟨_, _, _, _, ⟨rfl, (Blk.cells (by assumption) (Nat.le_of_ble_eq_true rfl)).trans rfl⟩, ?_⟩ | refine ⟨_, _, _, _, fun _ => ⟨rfl, (Blk.cells (by assumption) (Nat.le_of_ble_eq_true rfl)).trans rfl⟩, ?_⟩ | refine ⟨_, _, _, _, _, ⟨rfl, (Blk.cells (by assumption) (Nat.le_of_ble_eq_true rfl)).trans rfl⟩, ?_⟩ | refine ⟨_, _, _, _, _, fun _ => ⟨rfl, (Blk.cells (by assumption) (Nat.le_of_ble_eq_true rfl)).trans rfl⟩, ?_⟩ | refine ⟨_, _, _, _, _, _, ⟨rfl, (Blk.cells (by assumption) (Nat.le_of_ble_eq_true rfl)).trans rfl⟩, ?_⟩ | refine ⟨_, _, _, _, _, _, fun _ => ⟨rfl, (Blk.cells (by assumption) (Nat.le_of_ble_eq_true rfl)).trans rfl⟩, ?_⟩ | fail)
  exact k3

/-- An answered list: built anew. -/
abbrev Ans (h : Hp) (n0 : Nat) (a : Option Addr) (l c : Nat) (L : List Chg) : Prop := Bd h 5 (n0 ≤ ·) a l c (L.flatMap Chg.enc) ∧ L.length = l

def backL (L : List Chg) : List Chg := if chk none L then L.map Chg.back else []

theorem code_ne (b : Bool) : neI (code b) 0 = !b := by cases b <;> rfl

theorem c19 {h : Hp} {g : Option Nat} {a : Option Addr} {l c : Nat} {L : List Chg} (s : ChL h g a l c L) (hl : l ≤ 4294967296) :
    C 19 [.slice a l c] h fun v h' => (∃ a' l' c', v = .tuple #[.slice a' l' c', .int .i64 (code (chk none L))] ∧ Ans h' h.next a' l' c' (backL L)) ∧ Kept h h' := by
  refine SCalls_of_vw fol (pf := pf) (shp := shp19) (f := 19) (fn := Try.f19) (by kernel_rfl) (c := Try.f19.body.getD .skip) (by kernel_rfl) (by kernel_rfl) fun wf => ?_
  rw [vc19]
  refine (c16 s hl).wf fun v h1 wf1 hn1 ⟨e, k1⟩ => ⟨_, e, ?_⟩
  rw [code_ne]
  have hL := s.len
  split
  · rename_i hc
    have hc : chk none L = false := by simpa using hc
    exact ⟨⟨none, 0, 0, by rw [hc], by simp only [backL, hc]; exact Bd.nil _ _ _, by simp [backL, hc]⟩, k1⟩
  · rename_i hc
    have hc : chk none L = true := by simpa using hc
    have s1 := s.keep k1 fun _ _ hf => hf
    refine ⟨fun vals m hh => ∃ (i : Nat) (aa : Option Addr), [.slice aa i i, .int .i64 i] = vals ∧ i ≤ l ∧ m = l - i ∧ Wf hh ∧ Keep (h.next ≤ ·) h1 hh ∧ Bd hh 5 (h.next ≤ ·) aa i i (((L.take i).map Chg.back).flatMap Chg.enc),
      ⟨l, 0, none, rfl, Nat.zero_le _, rfl, wf1, Keep.refl _ _, Bd.nil _ _ _⟩, ?_⟩
    rintro aa ll cc n m hh ⟨i, aa', e, hi, rfl, wf2, k2, b2⟩
    simp at e
    obtain ⟨⟨rfl, rfl, rfl⟩, rfl⟩ := e
    have kk : Keep (h.next ≤ ·) h hh := (k1.mono wf (S' := (h.next ≤ ·)) fun _ _ hf => hf.elim).trans wf k2 fun _ _ hg => hg
    have kS : Kept h hh := kk.mono wf fun g hg h2 => by omega
    split
    · rename_i hlt
      have hlt := ix hlt
      have hx : L[i]? = some (L[i]'(by omega)) := List.getElem?_eq_getElem _
      generalize hxe : L[i]'(by omega) = x at hx
      have hr := (s.keep kS fun _ _ hf => hf).get Chg.w hx (j := 0) (m := 5) (by omega)
      refine ⟨⟨hr.1, by simp [inR]; omega⟩, _, _, _, _, _, ⟨rfl, hr.2.trans rfl⟩, ?_⟩
      intro h3 e3
      obtain ⟨b3, k3, n3, wf3⟩ := new_blk wf2 e3
      obtain ⟨h4, e4, b4, k4, _, n4, wf4⟩ := set_blk wf3 b3 k3 wf2 (Nat.le_refl _) (vs := x.enc) rfl x.cell
      refine ⟨rfl, h4, e4, ?_⟩
      (repeat' first | refine ⟨rfl, ?_⟩ | refine ⟨fun _ => rfl, ?_⟩ | refine ⟨_, ⟨rfl, (Blk.cells (by assumption) (Nat.le_of_ble_eq_true rfl)).trans rfl⟩, ?_⟩ | refine ⟨_, fun _ => ⟨rfl, (Blk.cells (by assumption) (Nat.le_of_ble_eq_true rfl)).trans rfl⟩, ?_⟩ | refine ⟨_, _, ⟨rfl, (Blk.cells (by assumption) (Nat.le_of_ble_eq_true rfl)).trans rfl⟩, ?_⟩ | refine ⟨_, _, fun _ => ⟨rfl, (Blk.cells (by assumption) (Nat.le_of_ble_eq_true rfl)).trans rfl⟩, ?_⟩ | refine ⟨_, _, _, ⟨rfl, (Blk.cells (by assumption) (Nat.le_of_ble_eq_true rfl)).trans rfl⟩, ?_⟩ | refine ⟨_, _, _, fun _ => ⟨rfl, (Blk.cells (by assumption) (Nat.le_of_ble_eq_true rfl)).trans rfl⟩, ?_⟩ | refine ⟨_, _, _, _, ⟨rfl, (Blk.cells (by assumption) (Nat.le_of_ble_eq_true rfl)).trans rfl⟩, ?_⟩ | refine ⟨_, _, _, _, fun _ => ⟨rfl, (Blk.cells (by assumption) (Nat.le_of_ble_eq_true rfl)).trans rfl⟩, ?_⟩ | refine ⟨_, _, _, _, _, ⟨rfl, (Blk.cells (by assumption) (Nat.le_of_ble_eq_true rfl)).trans rfl⟩, ?_⟩ | refine ⟨_, _, _, _, _, fun _ => ⟨rfl, (Blk.cells (by assumption) (Nat.le_of_ble_eq_true rfl)).trans rfl⟩, ?_⟩ | refine ⟨_, _, _, _, _, _, ⟨rfl, (Blk.cells (by assumption) (Nat.le_of_ble_eq_true rfl)).trans rfl⟩, ?_⟩ | refine ⟨_, _, _, _, _, _, fun _ => ⟨rfl, (Blk.cells (by assumption) (Nat.le_of_ble_eq_true rfl)).trans rfl⟩, ?_⟩ | fail)
      refine (c52 x h4).wf fun v h5 wf5 hn5 ⟨e, k5⟩ => ⟨_, _, _, _, _, e, ?_⟩
      intro h6 e6
      have k45 : Kept hh h5 := k4.trans wf2 k5 fun _ _ hf => hf
      have hn : h.next ≤ h5.next := by have := kk.next; have := k45.next; omega
      obtain ⟨a7, h7, e7, b7, k7, wf7⟩ := Bd.append1 wf5 app23 (S := (h.next ≤ ·)) (fun _ hg => Nat.le_trans hn hg) (b2.keep k45 fun _ _ hf => hf) e6 rfl x.back.cell (app_room (by omega))
      refine ⟨_, _, _, h7, e7, l - (i + 1), by simp only [lessN]; omega, i + 1, a7, ?_, by omega, rfl, wf7, ?_, ?_⟩
      · rw [addW_small (by omega) (by omega)]; rfl
      · exact (k2.trans wf1 (k45.mono wf2 (S' := (h.next ≤ ·)) fun _ _ hf => hf.elim) fun _ _ hg => hg).trans wf1 k7 fun _ _ hg => hg
      · have : L.take (i + 1) = L.take i ++ [x] := by rw [List.take_add_one, hx]; rfl
        rw [this, List.map_append, List.map_cons, List.map_nil, flat_snoc]
        exact b7
    · rename_i hlt
      have : i = l := by simp [ltI, natI] at hlt; omega
      subst this
      refine ⟨⟨_, _, _, by rw [hc]; rfl, ?_⟩, kS⟩
      rw [List.take_of_length_le (by omega)] at b2
      simp only [backL, hc, if_true]
      exact ⟨b2, by simp [hL]⟩

/-- An element's field. -/
theorem fld {h : Hp} {g : Option Nat} {a : Option Addr} {l c : Nat} {L : List Chg} (s : ChL h g a l c L) {i : Nat} {x : Chg} (hx : L[i]? = some x) (j m : Nat) (hm : j + m ≤ 5) :
    a.isSome = true ∧ inR (i : Int) l ∧ h.cellsAt (blk a) (plusN (plusI (off a) (i : Int) 5) j) m = some ((x.enc.drop j).take m) := by
  have hr := s.get Chg.w hx hm
  have hi := (List.getElem?_eq_some_iff.mp hx).1
  exact ⟨hr.1, by simp [inR]; have := s.len; omega, hr.2⟩

theorem c20 {h : Hp} {g : Option Nat} {a : Option Addr} {l c : Nat} {L : List Chg} (s : ChL h g a l c L) (hl : l ≤ 4294967296) :
    C 20 [.slice a l c] h fun v h' => (∃ a' l' c', v = .tuple #[.slice a' l' c', .int .i64 (code (chk none L))] ∧ Ans h' h.next a' l' c' (backL L)) ∧ Kept h h' := by
  refine SCalls_of_vw fol (pf := pf) (shp := shp20) (f := 20) (fn := Try.f20) (by kernel_rfl) (c := Try.f20.body.getD .skip) (by kernel_rfl) (by kernel_rfl) fun wf => ?_
  rw [vc20]
  refine (c17 s hl).wf fun v h1 wf1 hn1 ⟨e, k1⟩ => ⟨_, e, ?_⟩
  rw [code_ne]
  have hL := s.len
  split
  · rename_i hc
    have hc : chk none L = false := by simpa using hc
    exact ⟨⟨none, 0, 0, by rw [hc]; rfl, by simp only [backL, hc]; exact Bd.nil _ _ _, by simp [backL, hc]⟩, k1⟩
  · rename_i hc
    have hc : chk none L = true := by simpa using hc
    have s1 := s.keep k1 fun _ _ hf => hf
    refine ⟨fun vals m hh => ∃ (i : Nat) (aa : Option Addr), [.slice aa i i, .int .i64 i] = vals ∧ i ≤ l ∧ m = l - i ∧ Wf hh ∧ Keep (h.next ≤ ·) h1 hh ∧ Bd hh 5 (h.next ≤ ·) aa i i (((L.take i).map Chg.back).flatMap Chg.enc),
      ⟨l, 0, none, rfl, Nat.zero_le _, rfl, wf1, Keep.refl _ _, Bd.nil _ _ _⟩, ?_⟩
    rintro aa ll cc n m hh ⟨i, aa', e, hi, rfl, wf2, k2, b2⟩
    simp at e
    obtain ⟨⟨rfl, rfl, rfl⟩, rfl⟩ := e
    have kk : Keep (h.next ≤ ·) h hh := (k1.mono wf (S' := (h.next ≤ ·)) fun _ _ hf => hf.elim).trans wf k2 fun _ _ hg => hg
    have kS : Kept h hh := kk.mono wf fun g hg h2 => by omega
    split
    · rename_i hlt
      have hlt := ix hlt
      have hx : L[i]? = some (L[i]'(by omega)) := List.getElem?_eq_getElem _
      generalize hxe : L[i]'(by omega) = x at hx
      have s2 := s.keep kS fun _ _ hf => hf
      have f0 := fld s2 hx 0 1 (by omega)
      have f1 := fld s2 hx 1 1 (by omega)
      have f2 := fld s2 hx 2 1 (by omega)
      have f3 := fld s2 hx 3 1 (by omega)
      have f4 := fld s2 hx 4 1 (by omega)
      refine ⟨⟨f0.1, f0.2.1⟩, rfl, x.k, ⟨rfl, f0.2.2⟩, ⟨f0.1, f0.2.1⟩, rfl, x.b, ⟨rfl, f2.2.2⟩, ⟨f0.1, f0.2.1⟩, rfl, x.a, ⟨rfl, f1.2.2⟩, ⟨f0.1, f0.2.1⟩, rfl, x.n, ⟨rfl, f4.2.2⟩, ⟨f0.1, f0.2.1⟩, rfl, x.o, ⟨rfl, f3.2.2⟩, ?_⟩
      intro h6 e6
      have hn : h.next ≤ hh.next := kk.next
      obtain ⟨a7, h7, e7, b7, k7, wf7⟩ := Bd.append1 wf2 app23 (S := (h.next ≤ ·)) (fun _ hg => Nat.le_trans hn hg) b2 (new := x.back.enc) e6 rfl x.back.cell (app_room (by omega))
      refine ⟨_, _, _, h7, e7, l - (i + 1), by simp only [lessN]; omega, i + 1, a7, ?_, by omega, rfl, wf7, k2.trans wf1 k7 (fun _ _ hg => hg), ?_⟩
      · rw [addW_small (by omega) (by omega)]; rfl
      · have : L.take (i + 1) = L.take i ++ [x] := by rw [List.take_add_one, hx]; rfl
        rw [this, List.map_append, List.map_cons, List.map_nil, flat_snoc]
        exact b7
    · rename_i hlt
      have : i = l := by simp [ltI, natI] at hlt; omega
      subst this
      refine ⟨⟨_, _, _, by rw [hc]; rfl, ?_⟩, kS⟩
      rw [List.take_of_length_le (by omega)] at b2
      simp only [backL, hc, if_true]
      exact ⟨b2, by simp [hL]⟩

def over : Chg := ⟨⟨#[111, 118, 101, 114]⟩, false, false, ⟨#[]⟩, ⟨#[]⟩⟩
def more : Chg := ⟨⟨#[109, 111, 114, 101]⟩, false, false, ⟨#[]⟩, ⟨#[]⟩⟩

theorem flat_splice {L : List Chg} {i : Nat} (hi : i < L.length) (x : Chg) : splice (L.flatMap Chg.enc) (i * 5) x.enc = (L.set i x).flatMap Chg.enc := by
  induction L generalizing i with
  | nil => simp at hi
  | cons y L ih =>
    cases i with
    | zero => simp [splice, Chg.enc]
    | succ i =>
      have := ih (i := i) (by simpa using hi)
      simp only [splice, List.flatMap_cons, List.set_cons_succ] at this ⊢
      rw [← this]
      have h5 : y.enc.length = 5 := rfl
      have hx5 : x.enc.length = 5 := rfl
      rw [show (i + 1) * 5 = y.enc.length + i * 5 by omega, List.take_append, List.take_of_length_le (by omega), show y.enc.length + i * 5 - y.enc.length = i * 5 by omega,
        Nat.add_assoc, List.drop_append, List.drop_eq_nil_of_le (by omega), show y.enc.length + (i * 5 + x.enc.length) - y.enc.length = i * 5 + x.enc.length by omega]
      simp [List.append_assoc]

/-- 'fresh'. -/
theorem c21 {h : Hp} {S : Nat → Prop} (hS : ∀ g, h.next ≤ g → S g) {gb gd : Option Nat} {a b d : Option Addr} {l c l' c' m n : Nat} {L : List Chg} (sa : Bd h 5 S a l c (L.flatMap Chg.enc)) (hL : L.length = l) (sb : ChL h gb b l' c' L) (sd : ChL h gd d m n L)
    (hb : ∀ x, gb = some x → ¬ S x) (hd : ∀ x, gd = some x → ¬ S x) (hl : l ≤ 4294967296) :
    C 21 [.slice a l c, .slice b l' c', .slice d m n] h fun v h' => v = .bool true ∧ Keep S h h' := by
  refine SCalls_of_vw fol (pf := pf) (shp := shp21) (f := 21) (fn := Try.f21) (by kernel_rfl) (c := Try.f21.body.getD .skip) (by kernel_rfl) (by kernel_rfl) fun wf => ?_
  rw [vc21]
  have hl' : l' = l := by rw [← sb.len, hL]
  have hm : m = l := by rw [← sd.len, hL]
  subst hl' hm
  obtain ⟨ga, hga, sla⟩ := sa.slT hL
  refine (c24 sla sd hl).mono fun v h' ⟨⟨r, e, hr⟩, e'⟩ => ?_
  subst h'
  have hr : r = true := hr.mpr rfl
  subst hr
  refine ⟨_, e, true, fun _ => (c24 sb sd hl).mono fun v h2 ⟨⟨r, e, hr⟩, e'⟩ => ⟨by rw [e, hr.mpr rfl], e'⟩, ?_⟩
  rw [if_neg (by simp [sel, notB])]
  have hc : c = m := by rcases sa with ⟨_, h1, h2, _⟩ | ⟨_, _, _, _, h1, _⟩ <;> omega
  subst hc
  refine ⟨fun vals k hh => ∃ (i : Nat) (A : List Chg), [.int .i64 i] = vals ∧ i ≤ c ∧ k = c - i ∧ Wf hh ∧ Keep S h hh ∧ A.length = c ∧ Bd hh 5 S a c c (A.flatMap Chg.enc), ⟨c, 0, L, rfl, Nat.zero_le _, rfl, wf, Keep.refl _ _, hL, sa⟩, ?_⟩
  rintro n1 m1 hh ⟨i, A, e, hi, rfl, wf1, k1, hA, b1⟩
  simp at e; subst e
  split
  · rename_i hlt
    have hlt := ix hlt
    rcases b1 with ⟨_, h0, _⟩ | ⟨bb, g, rfl, hg, _, hpos, hlen, hblk⟩
    · omega
    · obtain ⟨h2, e2, b2, k2, n2, w2⟩ := hblk.store (o := i * 5) (vs := over.enc) (by have : over.enc.length = 5 := rfl; omega) rfl
      rw [flat_splice (by omega)] at b2
      refine ⟨⟨rfl, by simp [inR]; omega⟩, rfl, h2, ?_, c - (i + 1), by simp only [lessN]; omega, i + 1, A.set i over, ?_, by omega, rfl, w2 wf1, k1.trans wf k2 (fun x _ hx => by subst hx; exact hg), by simp [hA], .inr ⟨bb, g, rfl, hg, rfl, hpos, ?_, b2⟩⟩
      · have : plusI (off (some (Addr.mk bb 0 (some 5)))) (i : Int) 5 = i * 5 := by simp [plusI, off]
        rw [this]; exact e2
      · rw [addW_small (by omega) (by omega)]; rfl
      · rw [flat_len Chg.w]; simp [hA]
  · rename_i hlt
    refine ⟨fun vals k h2 => ∃ (i : Nat) (aa : Option Addr) (A : List Chg), [.slice aa (c + i) (c + i), .int .i64 i] = vals ∧ i ≤ 5 ∧ k = 5 - i ∧ Wf h2 ∧ Keep S h h2 ∧ A.length = c + i ∧ Bd h2 5 S aa (c + i) (c + i) (A.flatMap Chg.enc), ⟨5, 0, a, A, rfl, by omega, rfl, wf1, k1, hA, b1⟩, ?_⟩
    rintro aa ll cc n2 m2 h2 ⟨i, aa', A2, e, hi, rfl, wf2, k2, hA2, b2⟩
    simp at e
    obtain ⟨⟨rfl, rfl, rfl⟩, rfl⟩ := e
    split
    · rename_i hlt
      have hlt : i < 5 := by simp [ltI] at hlt; omega
      intro h3 e3
      obtain ⟨a7, h7, e7, b7, k7, wf7⟩ := Bd.append1 wf2 app23 (S := S) (fun _ hg => hS _ (Nat.le_trans k2.next hg)) b2 (new := more.enc) e3 rfl more.cell (app_room (by omega))
      refine ⟨_, _, _, h7, e7, 5 - (i + 1), by simp only [lessN]; omega, i + 1, a7, A2 ++ [more], ?_, by omega, rfl, wf7, k2.trans wf k7 (fun _ _ hg => hg), by simp [hA2]; omega, ?_⟩
      · rw [addW_small (by omega) (by omega)]; rfl
      · rw [flat_snoc]; exact b7
    · rename_i hlt
      have : i = 5 := by simp [ltI] at hlt; omega
      subst this
      have hcnt : eqI (natI (c + 5)) (addW .i64 (natI c) 5) = true := by rw [addW_small] <;> simp [eqI, natI] <;> omega
      refine ⟨true, fun _ => ?_, ?_⟩
      · exact (c24 (sb.keep k2 hb) (sd.keep k2 hd) hl).mono fun v h3 ⟨⟨r, e, hr⟩, e'⟩ => ⟨by rw [e, hr.mpr rfl], e'⟩
      · refine ⟨?_, k2⟩
        rw [hcnt]; rfl
theorem eqI_self (n : Int) : eqI n n = true := by simp [eqI]

theorem backL_len (L : List Chg) : (backL L).length ≤ L.length := by unfold backL; split <;> simp

/-- DiffBacks. -/
theorem c5 {h : Hp} {a : Option Addr} {l c : Nat} {L : List Chg} (s : ChL h none a l c L) (hl : l ≤ 1048576) : C 5 [.slice a l c] h fun v h' => v = .bool true := by
  refine SCalls_of_vw fol (pf := pf) (shp := shp5) (f := 5) (fn := Try.f5) (by kernel_rfl) (c := Try.f5.body.getD .skip) (by kernel_rfl) (by kernel_rfl) fun wf => ?_
  rw [vc5]
  have no : ∀ {S : Nat → Prop}, ∀ x, (none : Option Nat) = some x → ¬ S x := by simp
  refine (c15 s (by omega)).wf fun v h1 wf1 _ ⟨⟨g', a', c', e, hg, hle⟩, k1⟩ => ⟨_, _, _, e, ?_⟩
  refine (c19 hle.list (by omega)).wf fun v h2 wf2 n12 ⟨⟨a2, l2, c2, e, b2, hb2⟩, k2⟩ => ⟨_, _, _, _, e, ?_⟩
  have hle2 := hle.keep k2 fun hf => hf
  refine (c19 hle2.list (by omega)).wf fun v h3 wf3 n23 ⟨⟨a3, l3, c3, e, b3, hb3⟩, k3⟩ => ⟨_, _, _, _, e, ?_⟩
  have hle3 := hle2.keep k3 fun hf => hf
  have s3 := ((s.keep k1 no).keep k2 no).keep k3 no
  refine (c20 s3 (by omega)).wf fun v h4 wf4 n34 ⟨⟨a4, l4, c4, e, b4, hb4⟩, k4⟩ => ⟨_, _, _, _, e, ?_⟩
  have hle4 := hle3.keep k4 fun hf => hf
  have s4 := s3.keep k4 no
  have hll : l2 ≤ 4294967296 := by rw [← hb2]; have := backL_len L; have := s.len; omega
  have b2' := ((b2.bound wf2).keep k3 fun _ _ hf => hf).keep k4 fun _ _ hf => hf
  have b3' := (b3.bound wf3).keep k4 fun _ _ hf => hf
  obtain ⟨g3, hg3, sl3⟩ := b3'.slT hb3
  obtain ⟨g4, hg4, sl4⟩ := (b4.bound wf4).slT hb4
  rw [eqI_self]
  have hgl : g' < h1.next := by
    have := hle.all.sl.mem
    obtain ⟨bb, hbb⟩ := hle.at_
    rw [hbb] at this
    obtain ⟨CS, hblk, _⟩ := this.2 (by omega)
    exact hblk.glt wf1
  refine ⟨true, fun _ => c18 hle4 s4 (by omega), ?_⟩
  refine ⟨fun v hh => v = .bool true ∧ Keep (fun g => (h1.next ≤ g ∧ g < h2.next) ∨ h4.next ≤ g) h4 hh, fun _ => ?_, fun hf => by simp [sel] at hf, ?_⟩
  · refine (c21 (S := fun g => (h1.next ≤ g ∧ g < h2.next) ∨ h4.next ≤ g) (fun _ hg => .inr hg) (b2'.mono fun g hg => .inl hg) hb2 sl3 sl4 ?_ ?_ hll).mono fun v h5 ⟨e, k5⟩ => ⟨true, e, rfl, k5⟩
    · intro x hx hs; have := hg3 x hx; omega
    · intro x hx hs; have := hg4 x hx; omega
  · rintro b1 h5 ⟨e, k5⟩
    simp at e; subst e
    have hle5 := hle4.keep k5 (by omega)
    have s5 := s4.keep k5 no
    refine ⟨true, fun _ => c18 hle5 s5 (by omega), ?_⟩
    refine ⟨fun v _ => v = .bool true, fun _ => (c14 h5).mono fun v h' ⟨e, _⟩ => ⟨true, e, rfl⟩, fun hf => by simp [sel] at hf, fun b h' e => ?_⟩
    simp at e; subst e; rfl
end Go.Proofs.Ytfkhjbfddeahaaa.dc
