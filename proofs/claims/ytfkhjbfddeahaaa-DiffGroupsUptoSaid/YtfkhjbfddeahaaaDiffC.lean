/- Contracts of the functions of package diff, of its reference and of the law, over the canonical heap. -/
import Derived.Test.YtfkhjbfddeahaaaCoE
import Derived.Test.YtfkhjbfddeahaaaDiffV
import Derived.Test.YtfkhjbfddeahaaaDiffA
set_option linter.unusedVariables false
namespace Go.Proofs.Ytfkhjbfddeahaaa.dc
open Go Go.Cn Go.Proofs Go.Proofs.Ytfkhjbfddeahaaa.vc


/-- A change. -/
structure Chg where
  k : ByteArray
  a : Bool
  b : Bool
  o : ByteArray
  n : ByteArray
def Chg.enc (x : Chg) : List Value := [.string x.k, .bool x.a, .bool x.b, .string x.o, .string x.n]
theorem Chg.w (x : Chg) : x.enc.length = 5 := rfl
abbrev C := SCalls Try.prog

def Chg.may (x : Chg) : Bool := !(x.k.toList == [] || (!x.a && !x.b) || (!x.a && !(x.o.toList == [])) || (!x.b && !(x.n.toList == []))) && !(x.a && x.b && x.o.toList == x.n.toList)

theorem emp : (ByteArray.mk (Array.mk [])).toList = [] := by decide +kernel

theorem c51 (x : Chg) (h : Hp) : C 51 [.agg x.enc.toArray] h fun v h' => v = .bool x.may ∧ Kept h h' := by
  refine SCalls_of_vw fol (pf := pf) (shp := shp51) (f := 51) (fn := Try.f51) (by kernel_rfl) (c := Try.f51.body.getD .skip) (by kernel_rfl) (by kernel_rfl) fun wf => ?_
  show vBody Try.prog C pf shp51 Try.f51 (Try.f51.body.getD .skip) [.agg #[.string x.k, .bool x.a, .bool x.b, .string x.o, .string x.n]] h _
  rw [vc51]
  intro h1 e1
  obtain ⟨hb, hk, n1, wf1⟩ := new_blk wf e1
  (repeat' first | refine ⟨rfl, ?_⟩ | refine ⟨fun _ => rfl, ?_⟩ | refine ⟨_, ⟨rfl, (Blk.cells (by assumption) (Nat.le_of_ble_eq_true rfl)).trans rfl⟩, ?_⟩ | refine ⟨_, fun _ => ⟨rfl, (Blk.cells (by assumption) (Nat.le_of_ble_eq_true rfl)).trans rfl⟩, ?_⟩ | refine ⟨_, _, ⟨rfl, (Blk.cells (by assumption) (Nat.le_of_ble_eq_true rfl)).trans rfl⟩, ?_⟩ | refine ⟨_, _, fun _ => ⟨rfl, (Blk.cells (by assumption) (Nat.le_of_ble_eq_true rfl)).trans rfl⟩, ?_⟩ | refine ⟨_, _, _, ⟨rfl, (Blk.cells (by assumption) (Nat.le_of_ble_eq_true rfl)).trans rfl⟩, ?_⟩ | refine ⟨_, _, _, fun _ => ⟨rfl, (Blk.cells (by assumption) (Nat.le_of_ble_eq_true rfl)).trans rfl⟩, ?_⟩ | refine ⟨_, _, _, _, ⟨rfl, (Blk.cells (by assumption) (Nat.le_of_ble_eq_true rfl)).trans rfl⟩, ?_⟩ | refine ⟨_, _, _, _, fun _ => ⟨rfl, (Blk.cells (by assumption) (Nat.le_of_ble_eq_true rfl)).trans rfl⟩, ?_⟩ | refine ⟨_, _, _, _, _, ⟨rfl, (Blk.cells (by assumption) (Nat.le_of_ble_eq_true rfl)).trans rfl⟩, ?_⟩ | refine ⟨_, _, _, _, _, fun _ => ⟨rfl, (Blk.cells (by assumption) (Nat.le_of_ble_eq_true rfl)).trans rfl⟩, ?_⟩ | refine ⟨_, _, _, _, _, _, ⟨rfl, (Blk.cells (by assumption) (Nat.le_of_ble_eq_true rfl)).trans rfl⟩, ?_⟩ | refine ⟨_, _, _, _, _, _, fun _ => ⟨rfl, (Blk.cells (by assumption) (Nat.le_of_ble_eq_true rfl)).trans rfl⟩, ?_⟩ | fail)
  split
  · rename_i hc
    refine ⟨congrArg _ ?_, hk⟩
    simp only [notB, andB, sel, strEq, emp] at hc
    simp only [Chg.may]
    generalize x.a = a at *
    generalize x.b = b at *
    generalize (x.k.toList == []) = p at *
    generalize (x.o.toList == []) = q at *
    generalize (x.n.toList == []) = r at *
    generalize (x.o.toList == x.n.toList) = u at *
    clear hb
    cases a <;> cases b <;> cases p <;> cases q <;> cases r <;> cases u <;> simp at hc ⊢
  · rename_i hc
    (repeat' first | refine ⟨rfl, ?_⟩ | refine ⟨fun _ => rfl, ?_⟩ | refine ⟨_, ⟨rfl, (Blk.cells (by assumption) (Nat.le_of_ble_eq_true rfl)).trans rfl⟩, ?_⟩ | refine ⟨_, fun _ => ⟨rfl, (Blk.cells (by assumption) (Nat.le_of_ble_eq_true rfl)).trans rfl⟩, ?_⟩ | refine ⟨_, _, ⟨rfl, (Blk.cells (by assumption) (Nat.le_of_ble_eq_true rfl)).trans rfl⟩, ?_⟩ | refine ⟨_, _, fun _ => ⟨rfl, (Blk.cells (by assumption) (Nat.le_of_ble_eq_true rfl)).trans rfl⟩, ?_⟩ | refine ⟨_, _, _, ⟨rfl, (Blk.cells (by assumption) (Nat.le_of_ble_eq_true rfl)).trans rfl⟩, ?_⟩ | refine ⟨_, _, _, fun _ => ⟨rfl, (Blk.cells (by assumption) (Nat.le_of_ble_eq_true rfl)).trans rfl⟩, ?_⟩ | refine ⟨_, _, _, _, ⟨rfl, (Blk.cells (by assumption) (Nat.le_of_ble_eq_true rfl)).trans rfl⟩, ?_⟩ | refine ⟨_, _, _, _, fun _ => ⟨rfl, (Blk.cells (by assumption) (Nat.le_of_ble_eq_true rfl)).trans rfl⟩, ?_⟩ | refine ⟨_, _, _, _, _, ⟨rfl, (Blk.cells (by assumption) (Nat.le_of_ble_eq_true rfl)).trans rfl⟩, ?_⟩ | refine ⟨_, _, _, _, _, fun _ => ⟨rfl, (Blk.cells (by assumption) (Nat.le_of_ble_eq_true rfl)).trans rfl⟩, ?_⟩ | refine ⟨_, _, _, _, _, _, ⟨rfl, (Blk.cells (by assumption) (Nat.le_of_ble_eq_true rfl)).trans rfl⟩, ?_⟩ | refine ⟨_, _, _, _, _, _, fun _ => ⟨rfl, (Blk.cells (by assumption) (Nat.le_of_ble_eq_true rfl)).trans rfl⟩, ?_⟩ | fail)
    refine ⟨congrArg _ ?_, hk⟩
    simp only [notB, andB, sel, strEq, emp] at hc ⊢
    simp only [Chg.may]
    generalize x.a = a at *
    generalize x.b = b at *
    generalize (x.k.toList == []) = p at *
    generalize (x.o.toList == []) = q at *
    generalize (x.n.toList == []) = r at *
    generalize (x.o.toList == x.n.toList) = u at *
    clear hb
    cases a <;> cases b <;> cases p <;> cases q <;> cases r <;> cases u <;> simp at hc ⊢

/-! ### Lists of changes -/
abbrev ChL (h : Hp) (g : Option Nat) (a : Option Addr) (l c : Nat) (L : List Chg) : Prop := SlT Chg.enc 5 h g a l c L

def after : Option ByteArray → ByteArray → Bool
  | none, _ => true
  | some k, x => Go.Cn.strLt k x
def chk : Option ByteArray → List Chg → Bool
  | _, [] => true
  | p, x :: L => x.may && after p x.k && chk (some x.k) L
def prev (L : List Chg) (i : Nat) : Option ByteArray := if i = 0 then none else (L[i - 1]?).map (·.k)
def code (b : Bool) : Int := if b then 0 else 230

theorem chk_step {L : List Chg} {i : Nat} {x : Chg} (hx : L[i]? = some x) : chk (prev L i) (L.drop i) = (x.may && after (prev L i) x.k && chk (prev L (i + 1)) (L.drop (i + 1))) := by
  obtain ⟨hi, hx'⟩ := List.getElem?_eq_some_iff.mp hx
  rw [List.drop_eq_getElem_cons hi, hx', chk]
  have : prev L (i + 1) = some x.k := by simp [prev, hx]
  rw [this]

theorem ix {i l : Nat} (h : ltI (i : Int) (natI l) = true) : i < l := by
  simp [ltI, natI] at h; omega

theorem c17 {h : Hp} {g : Option Nat} {a : Option Addr} {l c : Nat} {L : List Chg} (s : ChL h g a l c L) (hl : l ≤ 4294967296) : C 17 [.slice a l c] h fun v h' => v = .int .i64 (code (chk none L)) ∧ Kept h h' := by
  refine SCalls_of_vw fol (pf := pf) (shp := shp17) (f := 17) (fn := Try.f17) (by kernel_rfl) (c := Try.f17.body.getD .skip) (by kernel_rfl) (by kernel_rfl) fun wf => ?_
  rw [vc17]
  refine ⟨fun vals m h1 => ∃ i : Nat, vals = [.int .i64 i] ∧ i ≤ l ∧ m = l - i ∧ Wf h1 ∧ Kept h h1 ∧ chk none L = chk (prev L i) (L.drop i), ⟨l, 0, rfl, Nat.zero_le _, rfl, wf, Keep.refl _ _, rfl⟩, ?_⟩
  rintro n m h1 ⟨i, e, hi, rfl, wf1, k1, hch⟩
  simp at e; subst e
  split
  · rename_i hlt
    have hlt := ix hlt
    have hLl := s.len
    have hx : L[i]? = some (L[i]'(by omega)) := List.getElem?_eq_getElem _
    generalize L[i]'(by omega) = x at hx
    have s1 := s.keep k1 fun _ _ hf => hf
    have hr := s1.get Chg.w hx (j := 0) (m := 5) (by omega)
    refine ⟨⟨hr.1, by simp [inR]; omega⟩, _, _, _, _, _, ⟨rfl, hr.2.trans rfl⟩, ?_⟩
    refine (c51 x h1).wf fun v h2 wf2 _ ⟨e, k2⟩ => ?_
    refine ⟨_, e, ?_⟩
    have s2 := s1.keep k2 fun _ _ hf => hf
    have hr2 := s2.get Chg.w hx (j := 0) (m := 1) (by omega)
    have hp : 0 < i → ∃ y, L[i - 1]? = some y := fun h0 => ⟨L[i - 1]'(by omega), List.getElem?_eq_getElem _⟩
    have hsub : 0 < i → subW .i64 (i : Int) 1 = ((i - 1 : Nat) : Int) := fun h0 => by rw [subW_small (by omega) (by omega)]; omega
    have hg : ∀ {b : Bool}, andB (gtI (i : Int) 0) b = true → 0 < i := fun hg => by simp [andB, gtI] at hg; omega
    refine ⟨fun h0 => ⟨hr.1, by rw [hsub (hg h0)]; simp [inR]; omega⟩, fun _ => rfl, ((L[i - 1]?).map (·.k)).getD x.k, fun h0 => ⟨rfl, ?_⟩, fun h0 => ⟨hr.1, by simp [inR]; omega⟩, fun _ => rfl, x.k, fun _ => ⟨rfl, hr2.2.trans rfl⟩, ?_⟩
    · obtain ⟨y, hy⟩ := hp (hg h0)
      rw [hsub (hg h0), hy]
      exact (s2.get Chg.w hy (j := 0) (m := 1) (by omega)).2
    · have hcs := chk_step hx
      rw [hcs] at hch
      have hk := k1.trans wf k2 fun _ _ hf => hf
      have hkk : chk none L = (x.may && (!(gtI (i : Int) 0) || Go.Cn.strLt (((L[i - 1]?).map (·.k)).getD x.k) x.k) && chk (prev L (i + 1)) (L.drop (i + 1))) := by
        rw [hch]
        by_cases h0 : i = 0
        · subst h0; simp [prev, gtI, after]
        · obtain ⟨y, hy⟩ := hp (by omega)
          have : gtI (i : Int) 0 = true := by simp [gtI]; omega
          simp [prev, h0, hy, this, after]
      generalize Go.Cn.strLt (((L[i - 1]?).map (·.k)).getD x.k) x.k = sl at hkk
      split
      · rename_i hc
        refine ⟨?_, hk⟩
        have : chk none L = false := by
          rw [hkk]
          revert hc
          generalize gtI (i : Int) 0 = gg
          cases x.may <;> cases gg <;> cases sl <;> simp [sel, notB]
        rw [this]; rfl
      · rename_i hc
        refine ⟨l - (i + 1), by simp only [lessN]; omega, i + 1, by rw [addW_small (by omega) (by omega)]; rfl, by omega, rfl, wf2, hk, ?_⟩
        rw [hkk]
        revert hc
        generalize gtI (i : Int) 0 = gg
        cases x.may <;> cases gg <;> cases sl <;> simp [sel, notB]
  · rename_i hlt
    have : i = l := by simp [ltI, natI] at hlt; omega
    subst this
    refine ⟨?_, k1⟩
    rw [hch, List.drop_eq_nil_of_le (by rw [s.len]; exact Nat.le_refl _)]
    rfl

theorem Chg.ext_iff' (x y : Chg) : x = y ↔ x.k = y.k ∧ x.a = y.a ∧ x.b = y.b ∧ x.o = y.o ∧ x.n = y.n := by
  cases x; cases y; simp

theorem list_ext_get {α : Type} {L M : List α} (hl : L.length = M.length) (h : ∀ (i : Nat) x y, L[i]? = some x → M[i]? = some y → x = y) : L = M := by
  apply List.ext_getElem? 
  intro i
  by_cases hi : i < L.length
  · rw [List.getElem?_eq_getElem hi, List.getElem?_eq_getElem (by omega)]
    exact congrArg _ (h i _ _ (List.getElem?_eq_getElem hi) (List.getElem?_eq_getElem (by omega)))
  · rw [List.getElem?_eq_none (by omega), List.getElem?_eq_none (by omega)]

/-- 'same'. -/
theorem c24 {h : Hp} {g g' : Option Nat} {a b : Option Addr} {l c l' c' : Nat} {L M : List Chg} (s : ChL h g a l c L) (t : ChL h g' b l' c' M) (hl : l ≤ 4294967296) :
    C 24 [.slice a l c, .slice b l' c'] h fun v h' => (∃ r, v = .bool r ∧ (r = true ↔ L = M)) ∧ h' = h := by
  refine SCalls_of_vw fol (pf := pf) (shp := shp24) (f := 24) (fn := Try.f24) (by kernel_rfl) (c := Try.f24.body.getD .skip) (by kernel_rfl) (by kernel_rfl) fun wf => ?_
  rw [vc24]
  have hL := s.len
  have hM := t.len
  split
  · rename_i hne
    have hne : l ≠ l' := by simp [neI, natI] at hne; omega
    refine ⟨⟨false, rfl, ?_⟩, rfl⟩
    simp; intro e; subst e; omega
  · rename_i hne
    have hne : l = l' := by simp [neI, natI] at hne; omega
    subst hne
    refine ⟨fun vals m h1 => ∃ i : Nat, vals = [.int .i64 i] ∧ i ≤ l ∧ m = l - i ∧ h1 = h ∧ ∀ (j : Nat) x y, j < i → L[j]? = some x → M[j]? = some y → x = y, ⟨l, 0, rfl, Nat.zero_le _, rfl, rfl, fun j x y hj => by omega⟩, ?_⟩
    rintro n m h1 ⟨i, e, hi, rfl, rfl, hall⟩
    simp at e; subst e
    split
    · rename_i hlt
      have hlt := ix hlt
      have hx : L[i]? = some (L[i]'(by omega)) := List.getElem?_eq_getElem _
      have hy : M[i]? = some (M[i]'(by omega)) := List.getElem?_eq_getElem _
      generalize L[i]'(by omega) = x at hx
      generalize M[i]'(by omega) = y at hy
      have hr := s.get Chg.w hx (j := 0) (m := 5) (by omega)
      have hr' := t.get Chg.w hy (j := 0) (m := 5) (by omega)
      refine ⟨⟨hr.1, by simp [inR]; omega⟩, _, _, _, _, _, ⟨rfl, hr.2.trans rfl⟩, ⟨hr'.1, by simp [inR]; omega⟩, _, _, _, _, _, ⟨rfl, hr'.2.trans rfl⟩, ?_⟩
      split
      · rename_i hc
        refine ⟨⟨false, rfl, ?_⟩, rfl⟩
        simp; intro e; subst e
        rw [hx] at hy; simp at hy; subst hy
        have hs : ∀ u, strSame u u = true := fun u => (same_iff u u).mpr rfl
        simp [notB, andB, eqB, hs] at hc
      · rename_i hc
        refine ⟨l - (i + 1), by simp only [lessN]; omega, i + 1, by rw [addW_small (by omega) (by omega)]; rfl, by omega, rfl, rfl, ?_⟩
        intro j x' y' hj hx' hy'
        by_cases hji : j = i
        · subst hji
          rw [hx] at hx'; rw [hy] at hy'; simp at hx' hy'; subst hx'; subst hy'
          rw [Chg.ext_iff']
          simp [notB, andB, eqB, same_iff] at hc
          exact ⟨hc.1, hc.2.1, hc.2.2.1, hc.2.2.2.1, hc.2.2.2.2⟩
        · exact hall j x' y' (by omega) hx' hy'
    · rename_i hlt
      have : i = l := by simp [ltI, natI] at hlt; omega
      subst this
      refine ⟨⟨true, rfl, ?_⟩, rfl⟩
      simp
      exact list_ext_get (by omega) fun j x y hx hy => hall j x y (by have := (List.getElem?_eq_some_iff.mp hx).1; omega) hx hy

theorem app23 : AppT Try.prog 23 23 88 5 56 := AppT.of _ (by kernel_rfl)

def mark : Chg := ⟨⟨#[109, 97, 114, 107]⟩, false, false, ⟨#[]⟩, ⟨#[]⟩⟩
theorem Chg.cell (x : Chg) : x.enc.all isCell = true := rfl
theorem cell_flat (L : List Chg) : (L.flatMap Chg.enc).all isCell = true := by
  simp only [List.all_eq_true, List.mem_flatMap]
  rintro v ⟨x, _, hv⟩
  exact List.all_eq_true.mp x.cell v hv

def zchg : List Value := [Value.string (ByteArray.mk (Array.mk [])), Value.bool false, Value.bool false, Value.string (ByteArray.mk (Array.mk [])), Value.string (ByteArray.mk (Array.mk []))]

/-- diff.Check. -/
theorem c16 {h : Hp} {g : Option Nat} {a : Option Addr} {l c : Nat} {L : List Chg} (s : ChL h g a l c L) (hl : l ≤ 4294967296) : C 16 [.slice a l c] h fun v h' => v = .int .i64 (code (chk none L)) ∧ Kept h h' := by
  refine SCalls_of_vw fol (pf := pf) (shp := shp16) (f := 16) (fn := Try.f16) (by kernel_rfl) (c := Try.f16.body.getD .skip) (by kernel_rfl) (by kernel_rfl) fun wf => ?_
  rw [vc16]
  refine ⟨fun vals m h1 => ∃ i : Nat, vals = [.int .i64 i] ∧ i ≤ l ∧ m = l - i ∧ Wf h1 ∧ Kept h h1 ∧ chk none L = chk (prev L i) (L.drop i), ⟨l, 0, rfl, Nat.zero_le _, rfl, wf, Keep.refl _ _, rfl⟩, ?_⟩
  rintro n m h1 ⟨i, e, hi, rfl, wf1, k1, hch⟩
  simp at e; subst e
  split
  · rename_i hlt
    have hlt := ix hlt
    have hLl := s.len
    have hx : L[i]? = some (L[i]'(by omega)) := List.getElem?_eq_getElem _
    generalize L[i]'(by omega) = x at hx
    have s1 := s.keep k1 fun _ _ hf => hf
    have hr := s1.get Chg.w hx (j := 0) (m := 5) (by omega)
    have hp : 0 < i → ∃ y, L[i - 1]? = some y := fun h0 => ⟨L[i - 1]'(by omega), List.getElem?_eq_getElem _⟩
    have hsub : 0 < i → subW .i64 (i : Int) 1 = ((i - 1 : Nat) : Int) := fun h0 => by rw [subW_small (by omega) (by omega)]; omega
    have hg : ∀ {b : Bool}, andB (gtI (i : Int) 0) b = true → 0 < i := fun hg => by simp [andB, gtI] at hg; omega
    refine ⟨⟨hr.1, by simp [inR]; omega⟩, _, _, _, _, _, ⟨rfl, hr.2.trans rfl⟩, ?_⟩
    intro h12 e12
    obtain ⟨b12, k12, n12, wf12⟩ := new_blk wf1 e12
    obtain ⟨h2, e2, b2, k2, _, n2, wf2⟩ := set_blk wf12 b12 k12 wf1 (Nat.le_refl _) (vs := x.enc) rfl x.cell
    have s2 := s1.keep k2 fun _ _ hf => hf
    refine ⟨rfl, h2, e2, ?_⟩
    (repeat' first | refine ⟨rfl, ?_⟩ | refine ⟨fun _ => rfl, ?_⟩ | refine ⟨_, ⟨rfl, (Blk.cells (by assumption) (Nat.le_of_ble_eq_true rfl)).trans rfl⟩, ?_⟩ | refine ⟨_, fun _ => ⟨rfl, (Blk.cells (by assumption) (Nat.le_of_ble_eq_true rfl)).trans rfl⟩, ?_⟩ | refine ⟨_, _, ⟨rfl, (Blk.cells (by assumption) (Nat.le_of_ble_eq_true rfl)).trans rfl⟩, ?_⟩ | refine ⟨_, _, fun _ => ⟨rfl, (Blk.cells (by assumption) (Nat.le_of_ble_eq_true rfl)).trans rfl⟩, ?_⟩ | refine ⟨_, _, _, ⟨rfl, (Blk.cells (by assumption) (Nat.le_of_ble_eq_true rfl)).trans rfl⟩, ?_⟩ | refine ⟨_, _, _, fun _ => ⟨rfl, (Blk.cells (by assumption) (Nat.le_of_ble_eq_true rfl)).trans rfl⟩, ?_⟩ | refine ⟨_, _, _, _, ⟨rfl, (Blk.cells (by assumption) (Nat.le_of_ble_eq_true rfl)).trans rfl⟩, ?_⟩ | refine ⟨_, _, _, _, fun _ => ⟨rfl, (Blk.cells (by assumption) (Nat.le_of_ble_eq_true rfl)).trans rfl⟩, ?_⟩ | refine ⟨_, _, _, _, _, ⟨rfl, (Blk.cells (by assumption) (Nat.le_of_ble_eq_true rfl)).trans rfl⟩, ?_⟩ | refine ⟨_, _, _, _, _, fun _ => ⟨rfl, (Blk.cells (by assumption) (Nat.le_of_ble_eq_true rfl)).trans rfl⟩, ?_⟩ | refine ⟨_, _, _, _, _, _, ⟨rfl, (Blk.cells (by assumption) (Nat.le_of_ble_eq_true rfl)).trans rfl⟩, ?_⟩ | refine ⟨_, _, _, _, _, _, fun _ => ⟨rfl, (Blk.cells (by assumption) (Nat.le_of_ble_eq_true rfl)).trans rfl⟩, ?_⟩ | fail)
    refine ⟨fun h0 => ⟨hr.1, by rw [hsub (hg h0)]; simp [inR]; omega⟩, fun _ => rfl, ((L[i - 1]?).map (·.k)).getD x.k, fun h0 => ⟨rfl, ?_⟩, fun _ => rfl, _, fun _ => ⟨rfl, (b2.cells (Nat.le_of_ble_eq_true rfl)).trans rfl⟩, ?_⟩
    · obtain ⟨y, hy⟩ := hp (hg h0)
      rw [hsub (hg h0), hy]
      exact (s2.get Chg.w hy (j := 0) (m := 1) (by omega)).2
    · have hcs := chk_step hx
      rw [hcs] at hch
      have hk := k1.trans wf k2 fun _ _ hf => hf
      have hkk : chk none L = (x.may && (!(gtI (i : Int) 0) || Go.Cn.strLt (((L[i - 1]?).map (·.k)).getD x.k) x.k) && chk (prev L (i + 1)) (L.drop (i + 1))) := by
        rw [hch]
        by_cases h0 : i = 0
        · subst h0; simp [prev, gtI, after]
        · obtain ⟨y, hy⟩ := hp (by omega)
          have : gtI (i : Int) 0 = true := by simp [gtI]; omega
          simp [prev, h0, hy, this, after]
      generalize Go.Cn.strLt (((L[i - 1]?).map (·.k)).getD x.k) x.k = sl at hkk
      generalize hrest : chk (prev L (i + 1)) (L.drop (i + 1)) = rest at hkk
      clear hcs hch hr b2 e2 s1 s2 hx b12
      have hmay : (sel (sel (sel (sel (strEq x.k (ByteArray.mk (Array.mk []))) true (sel (notB x.a) (notB x.b) false)) true (sel (notB x.a) (notB (strEq x.o (ByteArray.mk (Array.mk [])))) false)) true (sel (notB x.b) (notB (strEq x.n (ByteArray.mk (Array.mk [])))) false)) true (sel (eqB x.a x.b) (strEq x.o x.n) false)) = !x.may := by
        simp only [Chg.may, notB, sel, strEq, emp, eqB]
        have h1 : x.o.toList = [] → x.n.toList = [] → (x.o.toList == x.n.toList) = true := fun e1 e2 => by rw [e1, e2]; rfl
        by_cases e1 : x.o.toList = [] <;> by_cases e2 : x.n.toList = [] <;> cases x.a <;> cases x.b <;> cases (x.k.toList == []) <;> simp [e1, e2]
      generalize gtI (i : Int) 0 = gg at hkk
      show ite (sel (sel (sel (sel (sel (strEq x.k (ByteArray.mk (Array.mk []))) true (sel (notB x.a) (notB x.b) false)) true (sel (notB x.a) (notB (strEq x.o (ByteArray.mk (Array.mk [])))) false)) true (sel (notB x.b) (notB (strEq x.n (ByteArray.mk (Array.mk [])))) false)) true (sel (eqB x.a x.b) (strEq x.o x.n) false)) _ _ = true) _ _
      rw [hmay]
      generalize x.may = mm at hkk
      split
      · rename_i hc
        refine ⟨?_, hk⟩
        have : chk none L = false := by
          rw [hkk]
          revert hc
          cases mm <;> cases gg <;> cases sl <;> simp [sel, notB]
        rw [this]; rfl
      · rename_i hc
        refine ⟨l - (i + 1), by simp only [lessN]; omega, i + 1, by rw [addW_small (by omega) (by omega)]; rfl, by omega, rfl, wf2, hk, ?_⟩
        rw [hkk, hrest]
        revert hc
        cases mm <;> cases gg <;> cases sl <;> simp [sel, notB]
  · rename_i hlt
    have : i = l := by simp [ltI, natI] at hlt; omega
    subst this
    refine ⟨?_, k1⟩
    rw [hch, List.drop_eq_nil_of_le (by rw [s.len]; exact Nat.le_refl _)]
    rfl
theorem app_room {n : Nat} (h : n ≤ 8589934592) : roomy n 56 = true := roomy_of (by omega)

/-- A lent list: four marks behind it, in memory of its own. -/
structure Lent (h : Hp) (g : Nat) (a : Option Addr) (l c : Nat) (L : List Chg) : Prop where
  all : ChL h (some g) a (l + 4) c (L ++ [mark, mark, mark, mark])
  len : L.length = l
  cap : c = l + 4
  at_ : ∃ b, a = some ⟨b, 0, some 5⟩

theorem Lent.list {h : Hp} {g : Nat} {a : Option Addr} {l c : Nat} {L : List Chg} (s : Lent h g a l c L) : ChL h (some g) a l c L := by
  have := s.all.take Chg.w (m := l) (by omega)
  rw [List.take_append_of_le_length (by rw [s.len]; exact Nat.le_refl _), List.take_of_length_le (by rw [s.len]; exact Nat.le_refl _)] at this
  exact this

theorem Lent.keep {S : Nat → Prop} {h h' : Hp} (k : Keep S h h') {g : Nat} {a : Option Addr} {l c : Nat} {L : List Chg} (s : Lent h g a l c L) (hn : ¬ S g) : Lent h' g a l c L :=
  ⟨s.all.keep k fun x hx => by simp at hx; subst hx; exact hn, s.len, s.cap, s.at_⟩

theorem c15 {h : Hp} {g : Option Nat} {a : Option Addr} {l c : Nat} {L : List Chg} (s : ChL h g a l c L) (hl : l ≤ 4294967296) :
    C 15 [.slice a l c] h fun v h' => (∃ g' a' c', v = .slice a' l c' ∧ h.next ≤ g' ∧ Lent h' g' a' l c' L) ∧ Kept h h' := by
  refine SCalls_of_vw fol (pf := pf) (shp := shp15) (f := 15) (fn := Try.f15) (by kernel_rfl) (c := Try.f15.body.getD .skip) (by kernel_rfl) (by kernel_rfl) fun wf => ?_
  rw [vc15]
  have hL := s.len
  obtain ⟨a1, h1, e1, b1, k1, wf1⟩ := Bd.append wf app23 (S := (h.next ≤ ·)) (fun _ hg => hg) (Bd.nil h 5 _) (dataOf_sl s.sl) (flat_len Chg.w L ▸ by rw [hL]) (cell_flat L) (app_room (by omega))
  simp only [Nat.zero_add, List.nil_append] at e1 b1
  refine ⟨_, _, _, h1, e1, ?_⟩
  refine ⟨fun vals m hh => ∃ (i : Nat) (aa : Option Addr) , vals = [.slice aa (l + i) (l + i), .int .i64 i] ∧ i ≤ 4 ∧ m = 4 - i ∧ Wf hh ∧ Keep (h.next ≤ ·) h hh ∧ Bd hh 5 (h.next ≤ ·) aa (l + i) (l + i) ((L ++ List.replicate i mark).flatMap Chg.enc),
    ⟨4, 0, a1, rfl, by omega, rfl, wf1, k1, by simpa using b1⟩, ?_⟩
  rintro aa ll cc n m hh ⟨i, aa', e, hi, rfl, wf2, k2, b2⟩
  simp at e
  obtain ⟨⟨rfl, rfl, rfl⟩, rfl⟩ := e
  split
  · rename_i hlt
    have hlt : i < 4 := by simp [ltI] at hlt; omega
    intro h12 e12
    obtain ⟨a3, h3, e3, b3, k3, wf3⟩ := Bd.append1 wf2 app23 (fun _ hg => Nat.le_trans k2.next hg) b2 e12 rfl mark.cell (app_room (by omega))
    refine ⟨_, _, _, _, e3, 4 - (i + 1), by simp only [lessN]; omega, i + 1, a3, ?_, by omega, rfl, wf3, k2.trans wf k3 fun _ _ hg => hg, ?_⟩
    · rw [addW_small (by omega) (by omega)]; rfl
    · have e : (L ++ List.replicate (i + 1) mark).flatMap Chg.enc = (L ++ List.replicate i mark).flatMap Chg.enc ++ mark.enc := by simp [List.replicate_succ']
      rw [e]; exact b3
  · rename_i hlt
    have : i = 4 := by simp [ltI] at hlt; omega
    subst this
    have hbd := b2
    rcases b2 with ⟨_, h0, _⟩ | ⟨b, g', rfl, hg', _, _, _, hb⟩
    · omega
    · have hs : ChL hh (some g') (some ⟨b, 0, some 5⟩) (l + 4) (l + 4) (L ++ List.replicate 4 mark) := by
        obtain ⟨x, hx, hs⟩ := hbd.slT (L := L ++ List.replicate 4 mark) (by simp [hL])
        exact ⟨⟨Nat.le_refl _, hs.sl.len, .inr rfl, fun _ => ⟨_, hb, by rw [hs.sl.len]; omega, by rw [List.drop_zero, List.take_of_length_le (by rw [hs.sl.len]; exact Nat.le_refl _)]⟩⟩, hs.len⟩
      refine ⟨⟨by simp [cutOk, natI]; omega, by simp [spotOk]⟩, ⟨g', some ⟨b, 0, some 5⟩, l + 4, ?_, hg', hs, hL, rfl, b, rfl⟩, k2.mono wf fun g hg h2 => by omega⟩
      simp [cutA, diffN, natI]; omega
/-- 'kept' of a lent list. -/
theorem c18 {h : Hp} {g : Nat} {g' : Option Nat} {a b : Option Addr} {l c l' c' : Nat} {L : List Chg} (s : Lent h g a l c L) (t : ChL h g' b l' c' L) (hl : l ≤ 4294967296) :
    C 18 [.slice a l c, .slice b l' c'] h fun v h' => v = .bool true ∧ h' = h := by
  refine SCalls_of_vw fol (pf := pf) (shp := shp18) (f := 18) (fn := Try.f18) (by kernel_rfl) (c := Try.f18.body.getD .skip) (by kernel_rfl) (by kernel_rfl) fun wf => ?_
  rw [vc18]
  have hL := s.len
  have hM := t.len
  have hll : l' = l := by omega
  subst hll
  have hc := s.cap
  obtain ⟨bb, rfl⟩ := s.at_
  have e1 : addW .i64 (natI l') 4 = ((l' + 4 : Nat) : Int) := by rw [addW_small] <;> simp only [natI] <;> omega
  rw [e1]
  refine ⟨⟨by simp [cutOk, natI]; omega, by simp [spotOk]⟩, ?_⟩
  refine ⟨fun vals m h1 => ∃ i : Nat, vals = [.int .i64 i] ∧ i ≤ 4 ∧ m = 4 - i ∧ h1 = h, ⟨4, 0, rfl, Nat.zero_le _, rfl, rfl⟩, ?_⟩
  rintro n m h1 ⟨i, e, hi, rfl, rfl⟩
  simp at e; subst e
  split
  · rename_i hlt
    have hlt : i < 4 := by simp [ltI] at hlt; omega
    have hx : (L ++ [mark, mark, mark, mark])[l' + i]? = some mark := by
      rw [List.getElem?_append_right (by omega), hL]
      rcases i with _ | _ | _ | _ | _ <;> simp at * <;> omega
    have e2 : addW .i64 (natI l') (i : Int) = ((l' + i : Nat) : Int) := by rw [addW_small] <;> simp only [natI] <;> omega
    rw [e2]
    have hr := s.all.get Chg.w hx (j := 0) (m := 5) (by omega)
    refine ⟨⟨rfl, by simp [inR, diffN]; omega⟩, mark.k, mark.a, mark.b, mark.o, mark.n, ⟨rfl, ?_⟩, ?_⟩
    · have := hr.2
      simp only [blk, off, cutA, plusI, Option.map_some] at this ⊢
      simp only [Int.toNat_zero, Nat.zero_mul, Nat.add_zero, Int.toNat_natCast] at this ⊢
      exact this
    · have hs : ∀ u, strSame u u = true := fun u => (same_iff u u).mpr rfl
      simp only [mark, hs, notB, andB, eqB]
      refine ⟨4 - (i + 1), by simp only [lessN]; omega, i + 1, by rw [addW_small (by omega) (by omega)]; rfl, by omega, rfl, trivial⟩
  · refine (c24 s.list t hl).mono fun v h' ⟨⟨r, e, hr⟩, e'⟩ => ?_
    exact ⟨r, e, by rw [hr.mpr rfl], e'⟩

/-! ### Arguments -/
theorem cells88 : Try.prog.cellsOf 88 = 5 := by kernel_rfl
theorem fine_change {h : Hp} {N n : Nat} {cs : List Value} (hg : Fine Try.prog h N n 88 cs) : ∃ x : Chg, cs = x.enc := by
  obtain ⟨m, rfl, c0, r0, rfl, g0, c1, r1, rfl, g1, c2, r2, rfl, g2, c3, r3, rfl, g3, c4, r4, rfl, g4, rfl⟩ := hg.struct Try.underlying88
  obtain ⟨k, rfl, _⟩ := g0.string Try.underlying9
  obtain ⟨a, rfl⟩ := g1.bool Try.underlying4
  obtain ⟨b, rfl⟩ := g2.bool Try.underlying4
  obtain ⟨o, rfl, _⟩ := g3.string Try.underlying9
  obtain ⟨q, rfl, _⟩ := g4.string Try.underlying9
  exact ⟨⟨k, a, b, o, q⟩, rfl⟩

theorem fine_changes {h : Hp} {N n : Nat} {cs : List Value} (hg : Fine Try.prog h N n 23 cs) : ∃ a l c L, cs = [.slice a l c] ∧ c ≤ N ∧ ChL h none a l c L :=
  hg.slice Try.underlying23 cells88 fun _ _ => fine_change

/-- DiffChecks. -/
theorem c4 {h : Hp} {g : Option Nat} {a : Option Addr} {l c : Nat} {L : List Chg} (s : ChL h g a l c L) (hl : l ≤ 1048576) : C 4 [.slice a l c] h fun v h' => v = .bool true := by
  refine SCalls_of_vw fol (pf := pf) (shp := shp4) (f := 4) (fn := Try.f4) (by kernel_rfl) (c := Try.f4.body.getD .skip) (by kernel_rfl) (by kernel_rfl) fun wf => ?_
  rw [vc4]
  refine (c15 s (by omega)).wf fun v h1 wf1 _ ⟨⟨g', a', c', e, hg, hle⟩, k1⟩ => ⟨_, _, _, e, ?_⟩
  refine (c16 hle.list (by omega)).wf fun v h2 wf2 _ ⟨e, k2⟩ => ⟨_, e, ?_⟩
  have s2 := (s.keep k1 fun _ _ hf => hf).keep k2 fun _ _ hf => hf
  refine (c17 s2 (by omega)).wf fun v h3 wf3 _ ⟨e, k3⟩ => ⟨_, e, true, fun _ => ?_, ?_⟩
  · have s3 := s2.keep k3 fun _ _ hf => hf
    exact c18 ((hle.keep k2 fun hf => hf).keep k3 fun hf => hf) s3 (by omega)
  · refine ⟨fun v _ => v = .bool true, fun _ => (c14 h3).mono fun v h' ⟨e, _⟩ => ⟨true, e, rfl⟩, fun hf => ?_, fun b h' e => ?_⟩
    · simp [sel, eqI] at hf
    · simp at e; subst e; simp [sel, eqI]
end Go.Proofs.Ytfkhjbfddeahaaa.dc
