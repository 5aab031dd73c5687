/- Joined: CoC, CpBs, CpA, CpB, CpC, CpD, CoD. -/
import Derived.Test.YtlodmlmlmkcpkaaGreatDoorFo09
/- Reasoning over canonical heaps: slices, append; whole numbers. -/
set_option linter.unusedVariables false
set_option linter.unusedSimpArgs false
namespace Go.Cn

/-! ### 1. Slices of elements of w cells -/
/-- A slice with these cells, in memory of group g. -/
structure Sl (h : Hp) (w : Nat) (g : Option Nat) (a : Option Addr) (l c : Nat) (cs : List Value) : Prop where
  le : l ≤ c
  len : cs.length = l * w
  mem : match a with
    | none => l = 0 ∧ c = 0
    | some ⟨b, o, sp⟩ => (sp = none ∨ sp = some w) ∧ (0 < l → ∃ CS, Blk h b g CS ∧ o + l * w ≤ CS.length ∧ (CS.drop o).take (l * w) = cs)

theorem Sl.nil (h : Hp) (w : Nat) (g : Option Nat) : Sl h w g none 0 0 [] := ⟨Nat.le_refl _, by simp, rfl, rfl⟩

theorem Sl.keep {S : Nat → Prop} {h h' : Hp} (k : Keep S h h') {w : Nat} {g : Option Nat} {a : Option Addr} {l c : Nat} {cs : List Value} (s : Sl h w g a l c cs) (hn : ∀ x, g = some x → ¬ S x) : Sl h' w g a l c cs := by
  refine ⟨s.le, s.len, ?_⟩
  have := s.mem
  cases a with
  | none => exact this
  | some a =>
    obtain ⟨b, o, sp⟩ := a
    obtain ⟨h1, this⟩ := this
    refine ⟨h1, fun h0 => ?_⟩
    obtain ⟨CS, h2, h3, h4⟩ := this h0
    exact ⟨CS, k.blk h2 hn, h3, h4⟩

theorem take_drop_sub {α : Type} {CS cs : List α} {o n i m : Nat} (h : (CS.drop o).take n = cs) (hi : i + m ≤ n) : (CS.drop (o + i)).take m = (cs.drop i).take m := by
  subst h
  rw [List.drop_take, List.take_take, List.drop_drop]
  congr 1
  omega

theorem Sl.cells {h : Hp} {w : Nat} {g : Option Nat} {a : Option Addr} {l c : Nat} {cs : List Value} (s : Sl h w g a l c cs) {i m : Nat} (hi : i + m ≤ l * w) (hl : 0 < l) : a.isSome = true ∧ h.cellsAt (blk a) (off a + i) m = some ((cs.drop i).take m) := by
  have h0 := s.mem
  cases a with
  | none => simp at h0; omega
  | some a =>
    obtain ⟨b, o, sp⟩ := a
    obtain ⟨h1, h0⟩ := h0
    obtain ⟨CS, h2, h3, h4⟩ := h0 hl
    refine ⟨rfl, ?_⟩
    show h.cellsAt b (o + i) m = _
    rw [h2.cells (by omega), take_drop_sub h4 hi]

/-- A slice of typed elements. -/
structure SlT {α : Type} (enc : α → List Value) (w : Nat) (h : Hp) (g : Option Nat) (a : Option Addr) (l c : Nat) (L : List α) : Prop where
  sl : Sl h w g a l c (L.flatMap enc)
  len : L.length = l

section
variable {α : Type} {enc : α → List Value} {w : Nat}

theorem flat_len (hw : ∀ x, (enc x).length = w) (L : List α) : (L.flatMap enc).length = L.length * w := by
  induction L with
  | nil => simp
  | cons x L ih => simp only [List.flatMap_cons, List.length_append, hw, ih, List.length_cons, Nat.succ_mul]; omega

theorem flat_get (hw : ∀ x, (enc x).length = w) {L : List α} {i j m : Nat} {x : α} (hx : L[i]? = some x) (hm : j + m ≤ w) : ((L.flatMap enc).drop (i * w + j)).take m = ((enc x).drop j).take m := by
  induction L generalizing i with
  | nil => simp at hx
  | cons y L ih =>
    cases i with
    | zero =>
      simp at hx; subst hx
      simp only [List.flatMap_cons, Nat.zero_mul, Nat.zero_add]
      rw [List.drop_append_of_le_length (by rw [hw]; omega), List.take_append_of_le_length (by rw [List.length_drop, hw]; omega)]
    | succ i =>
      simp only [List.getElem?_cons_succ] at hx
      simp only [List.flatMap_cons]
      rw [show (i + 1) * w + j = (enc y).length + (i * w + j) by rw [hw, Nat.succ_mul]; omega, ← List.drop_drop, List.drop_left]
      exact ih hx

theorem SlT.get (hw : ∀ x, (enc x).length = w) {h : Hp} {g : Option Nat} {a : Option Addr} {l c : Nat} {L : List α} (s : SlT enc w h g a l c L) {i j m : Nat} {x : α} (hx : L[i]? = some x) (hm : j + m ≤ w) :
    a.isSome = true ∧ h.cellsAt (blk a) (off a + i * w + j) m = some (((enc x).drop j).take m) := by
  have hi : i < l := by rw [← s.len]; exact (List.getElem?_eq_some_iff.mp hx).1
  have h1 : i * w + w ≤ l * w := by rw [← Nat.succ_mul]; exact Nat.mul_le_mul_right w hi
  have := s.sl.cells (i := i * w + j) (m := m) (by omega) (by omega)
  rw [flat_get hw hx hm] at this
  rw [Nat.add_assoc]
  exact this

theorem SlT.take (hw : ∀ x, (enc x).length = w) {h : Hp} {g : Option Nat} {a : Option Addr} {l c : Nat} {L : List α} (s : SlT enc w h g a l c L) {m : Nat} (hm : m ≤ l) : SlT enc w h g a m c (L.take m) := by
  have hl : (L.take m).length = m := by rw [List.length_take, s.len]; omega
  have hmw : m * w ≤ l * w := Nat.mul_le_mul_right w hm
  refine ⟨⟨Nat.le_trans hm s.sl.le, by rw [flat_len hw, hl], ?_⟩, hl⟩
  have h0 := s.sl.mem
  cases a with
  | none => exact ⟨by omega, h0.2⟩
  | some a =>
    obtain ⟨b, o, sp⟩ := a
    obtain ⟨h1, h0⟩ := h0
    refine ⟨h1, fun hm0 => ?_⟩
    obtain ⟨CS, h2, h3, h4⟩ := h0 (by omega)
    refine ⟨CS, h2, by omega, ?_⟩
    have e : L.flatMap enc = (L.take m).flatMap enc ++ (L.drop m).flatMap enc := by rw [← List.flatMap_append, List.take_append_drop]
    have := take_drop_sub h4 (i := 0) (m := m * w) (by omega)
    rw [Nat.add_zero, e] at this
    rw [this, List.drop_zero, List.take_append_of_le_length (by rw [flat_len hw, hl]; exact Nat.le_refl _), List.take_of_length_le (by rw [flat_len hw, hl]; exact Nat.le_refl _)]

theorem SlT.drop1 (hw : ∀ x, (enc x).length = w) {h : Hp} {g : Option Nat} {a : Option Addr} {l c : Nat} {x : α} {L : List α} (s : SlT enc w h g a l c (x :: L)) :
    SlT enc w h g (cutA 1 w a) (diffN (natI l) 1) (diffN (natI c) 1) L ∧ cutOk 1 (natI l) (natI c) (natI c) ∧ spotOk w a ∧ 0 < l := by
  have hl : L.length + 1 = l := by simpa using s.len
  have hLl : L.length = l - 1 := by omega
  have hle := s.sl.le
  have e1 : diffN (natI l) 1 = l - 1 := by simp [diffN, natI]
  have e2 : diffN (natI c) 1 = c - 1 := by simp [diffN, natI]
  rw [e1, e2]
  have h0 := s.sl.mem
  refine ⟨⟨⟨by omega, by rw [flat_len hw, ← hl]; congr 1, ?_⟩, by omega⟩, by simp only [cutOk, natI]; omega, ?_, by omega⟩
  · cases a with
    | none => simp at h0; omega
    | some a =>
      obtain ⟨b, o, sp⟩ := a
      obtain ⟨h1, h0⟩ := h0
      obtain ⟨CS, h2, h3, h4⟩ := h0 (by omega)
      show (sp = none ∨ sp = some w) ∧ _
      refine ⟨h1, fun _ => ⟨CS, h2, ?_, ?_⟩⟩
      · have : l * w = w + (l - 1) * w := by rw [← hl, Nat.add_mul, Nat.add_sub_cancel]; omega
        simp only [Int.toNat_one, Nat.one_mul]; omega
      · have hlw : l * w = w + (l - 1) * w := by rw [← hl, Nat.add_mul, Nat.add_sub_cancel]; omega
        have := take_drop_sub h4 (i := w) (m := (l - 1) * w) (by omega)
        simp only [Int.toNat_one, Nat.one_mul]
        rw [this, List.flatMap_cons, List.drop_append, List.drop_eq_nil_of_le (by rw [hw]; exact Nat.le_refl _), hw, Nat.sub_self, List.drop_zero, List.nil_append]
        exact List.take_of_length_le (by rw [flat_len hw, hLl]; exact Nat.le_refl _)
  · cases a with
    | none => trivial
    | some a => exact h0.1

theorem SlT.grp {h : Hp} (wf : Wf h) {g : Option Nat} {a : Option Addr} {l c : Nat} {L : List α} (s : SlT enc w h g a l c L) : ∃ g2 : Option Nat, (∀ x, g2 = some x → x < h.next) ∧ SlT enc w h g2 a l c L := by
  by_cases hl : 0 < l
  · refine ⟨g, fun x hx => ?_, s⟩
    subst hx
    have h0 := s.sl.mem
    cases a with
    | none => simp at h0; omega
    | some a =>
      obtain ⟨CS, h2, _⟩ := h0.2 hl
      exact h2.glt wf
  · refine ⟨none, by simp, ⟨s.sl.le, s.sl.len, ?_⟩, s.len⟩
    have h0 := s.sl.mem
    cases a with
    | none => exact h0
    | some a => exact ⟨h0.1, fun h1 => absurd h1 hl⟩

theorem SlT.nil (h : Hp) (g : Option Nat) : SlT enc w h g none 0 0 [] := ⟨Sl.nil h w g, rfl⟩
theorem SlT.keep {S : Nat → Prop} {h h' : Hp} (k : Keep S h h') {g : Option Nat} {a : Option Addr} {l c : Nat} {L : List α} (s : SlT enc w h g a l c L) (hn : ∀ x, g = some x → ¬ S x) : SlT enc w h' g a l c L := ⟨s.sl.keep k hn, s.len⟩
end

/-! ### 2. append -/
section
variable (P : Program)
/-- What append asks of the types. -/
structure AppT (t xt elem : TypeId) (w bytes : Nat) : Prop where
  under : P.underlying t = some (.slice elem)
  info : ∃ i z, P.info? elem = some i ∧ i.size = w ∧ i.bytes = bytes ∧ i.zero = some z ∧ z.cells.size = w
  other : ∃ u, P.underlying xt = some u ∧ ∀ k, u ≠ .int k
  pos : 0 < w
  bpos : 0 < bytes

def appOk (t xt elem : TypeId) (w bytes : Nat) : Bool :=
  (match P.underlying t with | some (.slice e) => e == elem | _ => false) &&
  (match P.info? elem with
    | some i => i.size == w && i.bytes == bytes && (match i.zero with | some z => z.cells.size == w | none => false)
    | none => false) &&
  (match P.underlying xt with | some (.int _) => false | some _ => true | none => false) && decide (0 < w) && decide (0 < bytes)

theorem AppT.of {t xt elem : TypeId} {w bytes : Nat} (h : appOk P t xt elem w bytes = true) : AppT P t xt elem w bytes := by
  simp only [appOk, Bool.and_eq_true, decide_eq_true_eq] at h
  obtain ⟨⟨⟨⟨h1, h2⟩, h3⟩, h4⟩, h5⟩ := h
  refine ⟨?_, ?_, ?_, h4, h5⟩
  · split at h1
    · rename_i e he; rw [he]; simp at h1; rw [h1]
    · simp at h1
  · split at h2
    · rename_i i hi
      simp only [Bool.and_eq_true, beq_iff_eq] at h2
      obtain ⟨⟨h6, h7⟩, h8⟩ := h2
      split at h8
      · rename_i z hz; exact ⟨i, z, hi, h6, h7, hz, by simpa using h8⟩
      · simp at h8
    · simp at h2
  · split at h3
    · simp at h3
    · rename_i u hne hu; exact ⟨u, hu, fun k hk => hne k hk⟩
    · simp at h3
end

section
variable {P : Program}

theorem dataOf_sl {h : Hp} {w : Nat} {g : Option Nat} {a : Option Addr} {l c : Nat} {cs : List Value} (s : Sl h w g a l c cs) : dataOf w (.slice a l c) h = some (l, cs) := by
  have h0 := s.mem
  have hl := s.len
  cases a with
  | none =>
    obtain ⟨rfl, rfl⟩ := h0
    simp at hl; subst hl; rfl
  | some a =>
    obtain ⟨b, o, sp⟩ := a
    obtain ⟨h1, h0⟩ := h0
    simp only [dataOf]
    by_cases hz : l = 0
    · subst hz; simp at hl; subst hl; simp
    · obtain ⟨CS, h2, h3, h4⟩ := h0 (by omega)
      simp only [hz, if_false]
      rw [h2.cells h3, h4]; rfl

/-- A slice that was built by append: nil, or a block of its own, of a group in S. -/
def Bd (h : Hp) (w : Nat) (S : Nat → Prop) (a : Option Addr) (l c : Nat) (cs : List Value) : Prop :=
  (a = none ∧ l = 0 ∧ c = 0 ∧ cs = []) ∨ ∃ b g, a = some ⟨b, 0, some w⟩ ∧ S g ∧ c = l ∧ 0 < l ∧ cs.length = l * w ∧ Blk h b (some g) cs

theorem Bd.nil (h : Hp) (w : Nat) (S : Nat → Prop) : Bd h w S none 0 0 [] := .inl ⟨rfl, rfl, rfl, rfl⟩

theorem Bd.sl {h : Hp} {w : Nat} {S : Nat → Prop} {a : Option Addr} {l c : Nat} {cs : List Value} (s : Bd h w S a l c cs) : ∃ g : Option Nat, (∀ x, g = some x → S x) ∧ Sl h w g a l c cs := by
  rcases s with ⟨rfl, rfl, rfl, rfl⟩ | ⟨b, g, rfl, h1, rfl, h2, h3, h4⟩
  · exact ⟨none, by simp, Sl.nil h w _⟩
  · exact ⟨some g, fun x hx => by simp at hx; subst hx; exact h1, Nat.le_refl _, h3, .inr rfl, fun _ => ⟨cs, h4, by omega, by rw [← h3]; simp⟩⟩

theorem Bd.slT {α : Type} {enc : α → List Value} {h : Hp} {w : Nat} {S : Nat → Prop} {a : Option Addr} {l c : Nat} {L : List α} (s : Bd h w S a l c (L.flatMap enc)) (hl : L.length = l) : ∃ g : Option Nat, (∀ x, g = some x → S x) ∧ SlT enc w h g a l c L := by
  obtain ⟨g, h1, h2⟩ := s.sl; exact ⟨g, h1, h2, hl⟩

theorem Bd.keep {S0 S : Nat → Prop} {h h' : Hp} (k : Keep S0 h h') {w : Nat} {a : Option Addr} {l c : Nat} {cs : List Value} (s : Bd h w S a l c cs) (hn : ∀ x, S x → ¬ S0 x) : Bd h' w S a l c cs := by
  rcases s with h1 | ⟨b, g, rfl, h1, rfl, h2, h3, h4⟩
  · exact .inl h1
  · exact .inr ⟨b, g, rfl, h1, rfl, h2, h3, k.blk h4 fun x hx => by simp at hx; subst hx; exact hn _ h1⟩

theorem Bd.bound {h : Hp} (wf : Wf h) {w : Nat} {S : Nat → Prop} {a : Option Addr} {l c : Nat} {cs : List Value} (s : Bd h w S a l c cs) : Bd h w (fun g => S g ∧ g < h.next) a l c cs := by
  rcases s with h1 | ⟨b, g, rfl, h1, rfl, h2, h3, h4⟩
  · exact .inl h1
  · exact .inr ⟨b, g, rfl, ⟨h1, h4.glt wf⟩, rfl, h2, h3, h4⟩

theorem Bd.mono {h : Hp} {w : Nat} {S S' : Nat → Prop} {a : Option Addr} {l c : Nat} {cs : List Value} (s : Bd h w S a l c cs) (hs : ∀ g, S g → S' g) : Bd h w S' a l c cs := by
  rcases s with h1 | ⟨b, g, rfl, h1, rfl, h2, h3, h4⟩
  · exact .inl h1
  · exact .inr ⟨b, g, rfl, hs g h1, rfl, h2, h3, h4⟩

theorem Bd.append {h : Hp} (wf : Wf h) {t xt elem : TypeId} {w bytes : Nat} (ht : AppT P t xt elem w bytes) {S : Nat → Prop} (hS : ∀ g, h.next ≤ g → S g) {a : Option Addr} {l c : Nat} {cs : List Value} (s : Bd h w S a l c cs)
    {x : Value} {n : Nat} {new : List Value} (hx : dataOf w x h = some (n, new)) (hnl : new.length = n * w) (hv : new.all isCell = true) (hr : roomy (l + n) bytes = true) :
    ∃ a' h', cappend P t xt (.slice a l c) x h = some (.slice a' (l + n) (l + n), h') ∧ Bd h' w S a' (l + n) (l + n) (cs ++ new) ∧ Keep S h h' ∧ Wf h' := by
  obtain ⟨i, z, e1, e2, e3, e4, e5⟩ := ht.info
  obtain ⟨u, e6, e7⟩ := ht.other
  have hp := ht.pos
  have hb := ht.bpos
  have hlc : c = l := by rcases s with ⟨_, h1, h2, _⟩ | ⟨_, _, _, _, h1, _⟩ <;> omega
  subst hlc
  have main : cappend P t xt (.slice a c c) x h = if n = 0 then some (.slice a c c, h) else
      (match (Value.slice a c c) with
        | .slice none 0 0 => some (.slice (some ⟨h.next, 0, some w⟩) n n, h.alloc new elem)
        | .slice (some ⟨b, o, sp⟩) l c =>
          if l + n ≤ c then (h.store b (o + l * w) new).map fun h' => (.slice (some ⟨b, o, sp⟩) (l + n) c, h')
          else match sp with
            | none => if l = 0 then some (.slice (some ⟨h.next, 0, some w⟩) n n, h.alloc new elem) else
              (h.cellsAt b o (l * w)).map fun old => (.slice (some ⟨h.next, 0, some w⟩) (l + n) (l + n), h.alloc (old ++ new) elem)
            | some k => if k = w then (h.extend b o (o + l * w) new).map fun h' => (.slice (some ⟨h.next, 0, some w⟩) (l + n) (l + n), h') else none
        | _ => none) := by
    unfold cappend
    rw [ht.under]
    dsimp only
    rw [e1, e6]
    have hb1 : ¬ (w = 0) := by omega
    have hb2 : ¬ (bytes = 0) := by omega
    cases u with
    | int k => exact absurd rfl (e7 k)
    | _ =>
      dsimp only
      rw [e2, hx]
      by_cases hn : n = 0
      · simp [hn]
      · simp only [hn, if_false, slen, e3, e4, e5, Option.map_some, decide_true, Bool.not_true, hr, Bool.false_or, Bool.or_false, hb1, hb2, decide_false, Bool.false_eq_true]
        cases a <;> rfl
  rw [main]
  by_cases hn : n = 0
  · subst hn
    have : new = [] := by simpa using hnl
    subst this
    simp only [if_true, Nat.add_zero, List.append_nil]
    exact ⟨a, h, rfl, s, Keep.refl _ _, wf⟩
  · simp only [hn, if_false]
    rcases s with ⟨rfl, rfl, _, rfl⟩ | ⟨b, g, rfl, h1, _, h2, h3, h4⟩
    · simp only [Nat.zero_add, List.nil_append]
      exact ⟨_, _, rfl, .inr ⟨_, h.next, rfl, hS _ (Nat.le_refl _), rfl, by omega, hnl, alloc_blk wf new elem⟩, (alloc_keep wf new elem).mono wf fun _ _ hf => hf.elim, alloc_wf wf new elem⟩
    · simp only
      rw [if_neg (by omega)]
      simp only [if_true, Nat.zero_add]
      obtain ⟨h', g1, g2, g3, g4, g5, g6⟩ := h4.extend wf (o := 0) (e := c * w) (new := new) (by omega) (by omega) hv
      rw [g1]
      refine ⟨_, _, rfl, .inr ⟨_, g, rfl, h1, rfl, by omega, ?_, ?_⟩, g4.mono wf (fun x _ hx => by subst hx; exact h1), g6⟩
      · simp only [List.length_append, h3, hnl, Nat.add_mul]
      · have : (cs.drop 0).take (c * w - 0) = cs := by rw [← h3]; simp
        rw [this] at g2
        exact g2

/-- append of one element, which lies in a new block. -/
theorem Bd.append1 {h h1 : Hp} (wf : Wf h) {t xt elem e : TypeId} {w bytes : Nat} (ht : AppT P t xt elem w bytes) {S : Nat → Prop} (hS : ∀ g, h.next ≤ g → S g) {a : Option Addr} {l c : Nat} {cs : List Value} (s : Bd h w S a l c cs)
    {new : List Value} (he : h1 = h.alloc new e) (hnl : new.length = w) (hv : new.all isCell = true) (hr : roomy (l + 1) bytes = true) :
    ∃ a' h', cappend P t xt (.slice a l c) (.slice (some ⟨h.next, 0, none⟩) 1 1) h1 = some (.slice a' (l + 1) (l + 1), h') ∧ Bd h' w S a' (l + 1) (l + 1) (cs ++ new) ∧ Keep S h h' ∧ Wf h' := by
  subst he
  have k := alloc_keep wf new e
  have wf' := alloc_wf wf new e
  have hb := alloc_blk wf new e
  have hS' : ∀ g, (h.alloc new e).next ≤ g → S g := fun g hg => hS g (by rw [alloc_next] at hg; omega)
  have hd : dataOf w (.slice (some ⟨h.next, 0, none⟩) 1 1) (h.alloc new e) = some (1, new) := by
    simp only [dataOf, Nat.one_mul]
    rw [hb.cells (by omega)]
    simp [← hnl]
  obtain ⟨a', h', h1, h2, h3, h4⟩ := Bd.append wf' ht hS' (s.keep k fun _ _ hf => hf) hd (by omega) hv hr
  exact ⟨a', h', h1, h2, (k.mono wf (S' := S) fun _ _ hf => hf.elim).trans wf h3 (fun _ _ hg => hg), h4⟩
end

theorem new_blk {h h1 : Hp} (wf : Wf h) {cs : List Value} {e : TypeId} (he : h1 = h.alloc cs e) : Blk h1 h.next (some h.next) cs ∧ Kept h h1 ∧ h1.next = h.next + 1 ∧ Wf h1 := by
  subst he; exact ⟨alloc_blk wf cs e, alloc_keep wf cs e, rfl, alloc_wf wf cs e⟩

/-- A new variable that is written whole. -/
theorem set_blk {h h1 : Hp} (wf : Wf h1) {b : Nat} {cs vs : List Value} (hb : Blk h1 b (some b) cs) (k : Kept h h1) (wf0 : Wf h) (hn : h.next ≤ b) (hl : vs.length = cs.length) (hv : vs.all isCell = true) :
    ∃ h', h1.store b 0 vs = some h' ∧ Blk h' b (some b) vs ∧ Kept h h' ∧ Keep (· = b) h1 h' ∧ h'.next = h1.next ∧ Wf h' := by
  obtain ⟨h', e1, e2, e3, e4, e5⟩ := hb.store (o := 0) (vs := vs) (by omega) hv
  refine ⟨h', e1, ?_, ?_, e3, e4, e5 wf⟩
  · have : splice cs 0 vs = vs := by simp [splice, hl]
    rw [this] at e2; exact e2
  · exact k.trans wf0 e3 fun g hg hs => by omega

/-! ### 3. Whole numbers -/
theorem addW_small {a b : Int} (h0 : -9223372036854775808 ≤ a + b) (h1 : a + b < 9223372036854775808) : addW .i64 a b = a + b := by
  unfold addW IntKind.wrap
  simp [IntKind.bits, IntKind.signed]
  omega
theorem subW_small {a b : Int} (h0 : -9223372036854775808 ≤ a - b) (h1 : a - b < 9223372036854775808) : subW .i64 a b = a - b := by
  unfold subW IntKind.wrap
  simp [IntKind.bits, IntKind.signed]
  omega
theorem roomy_of {n b : Nat} (h : (2 * n + 1024) * b ≤ 140737488355328) : roomy n b = true := by
  simp only [roomy, decide_eq_true_eq]
  exact h
/-! ### 4. Strings -/
theorem toList_loop (s : ByteArray) : ∀ (n i : Nat) (r : List UInt8), s.size - i = n → ByteArray.toList.loop s i r = r.reverse ++ s.data.toList.drop i
  | 0, i, r, hn => by
    unfold ByteArray.toList.loop
    have : ¬ i < s.size := by omega
    rw [if_neg this, List.drop_eq_nil_of_le (by have : s.data.toList.length = s.size := Array.length_toList
                                                omega)]
    simp
  | n + 1, i, r, hn => by
    unfold ByteArray.toList.loop
    have hi : i < s.size := by omega
    have hi' : i < s.data.toList.length := by have : s.data.toList.length = s.size := Array.length_toList
                                              omega
    rw [if_pos hi, toList_loop s n (i + 1) _ (by omega), List.drop_eq_getElem_cons hi']
    have hd : i < s.data.size := hi
    have : s.get! i = s.data.toList[i] := by
      show s.data[i]! = _
      rw [getElem!_pos s.data i hd]; simp
    rw [this]; simp
theorem toList_eq (s : ByteArray) : s.toList = s.data.toList := by
  unfold ByteArray.toList
  rw [toList_loop s _ 0 [] rfl]; simp
theorem toList_inj {s u : ByteArray} (h : s.toList = u.toList) : s = u := by
  rw [toList_eq, toList_eq] at h
  cases s; cases u; simp at h; rw [h]
theorem same_iff (s u : ByteArray) : strSame s u = true ↔ s = u := by
  cases s with | mk s => cases u with | mk u =>
  show (s == u) = true ↔ _
  simp
theorem eq_iff (s u : ByteArray) : strEq s u = true ↔ s = u := by
  unfold strEq
  rw [beq_iff_eq]
  exact ⟨toList_inj, fun h => by rw [h]⟩
theorem less_eq : ∀ (x y : List UInt8), Op.bytesLess x y = decide (x < y)
  | [], [] => by simp [Op.bytesLess]
  | _ :: _, [] => by simp [Op.bytesLess]
  | [], _ :: _ => by simp [Op.bytesLess]
  | a :: x, b :: y => by
    rw [Op.bytesLess, less_eq x y]
    simp only [List.cons_lt_cons_iff]
    by_cases h1 : a < b <;> by_cases h2 : a = b <;> by_cases h3 : x < y <;> simp [h1, h2, h3]
theorem lt_iff (s u : ByteArray) : Go.Cn.strLt s u = true ↔ s.toList < u.toList := by simp [Go.Cn.strLt, less_eq]
theorem lt_irrefl (s : ByteArray) : Go.Cn.strLt s s = false := by
  rw [Bool.eq_false_iff]; intro h; rw [lt_iff] at h; exact List.lt_irrefl _ h
theorem lt_trans {s u v : ByteArray} (h : Go.Cn.strLt s u = true) (k : Go.Cn.strLt u v = true) : Go.Cn.strLt s v = true := by
  rw [lt_iff] at *; exact List.lt_trans h k
theorem lt_total {s u : ByteArray} (h : Go.Cn.strLt s u = false) (k : Go.Cn.strLt u s = false) : s = u := by
  rw [Bool.eq_false_iff] at h k
  rw [Ne, lt_iff] at h k
  exact toList_inj (List.le_antisymm (List.not_lt.mp k) (List.not_lt.mp h))
theorem lt_asymm {s u : ByteArray} (h : Go.Cn.strLt s u = true) : Go.Cn.strLt u s = false := by
  rw [Bool.eq_false_iff]; intro k; have := lt_trans h k; rw [lt_irrefl] at this; exact absurd this (by simp)
end Go.Cn

/- Operations on strings, fast in the kernel: on lists of bytes. -/
set_option linter.unusedVariables false
set_option linter.unusedSimpArgs false
namespace Go.Cn

def eqU : List UInt8 → List UInt8 → Bool
  | [], [] => true
  | a :: x, b :: y => match Nat.beq a.toNat b.toNat with
    | true => eqU x y
    | false => false
  | _, _ => false
theorem eqU_iff : ∀ {x y : List UInt8}, eqU x y = true ↔ x = y
  | [], [] => by simp [eqU]
  | a :: x, b :: y => by
    unfold eqU
    cases hb : Nat.beq a.toNat b.toNat with
    | true =>
      have e : a = b := UInt8.toNat_inj.1 (Nat.eq_of_beq_eq_true hb)
      simp [e, eqU_iff]
    | false =>
      have e : a ≠ b := fun e => by rw [e] at hb; simp at hb
      simp [e]
  | [], _ :: _ => by simp [eqU]
  | _ :: _, [] => by simp [eqU]
theorem eqU_beq (x y : List UInt8) : eqU x y = (x == y) := by
  rw [Bool.eq_iff_iff, eqU_iff, beq_iff_eq]
theorem bytes_mk {s : ByteArray} {l : List UInt8} (h : s.data.toList = l) : s = ⟨⟨l⟩⟩ := by
  subst h; rfl
theorem eqU_same (s u : ByteArray) : eqU s.data.toList u.data.toList = (s == u) := by
  rw [Bool.eq_iff_iff, eqU_iff]
  show _ ↔ strSame s u = true
  rw [same_iff]
  exact ⟨fun h => by rw [bytes_mk h], fun h => by rw [h]⟩

def fstrOp (op : BinOp) (x y : ByteArray) : Option Value :=
  match op with
  | .add => if ((x.size + y.size : Nat) : Int) > IntKind.i64.max then none else some (.string ⟨⟨x.data.toList ++ y.data.toList⟩⟩)
  | .eql => some (.bool (eqU x.data.toList y.data.toList))
  | .neq => some (.bool !(eqU x.data.toList y.data.toList))
  | .lss => some (.bool (Op.bytesLess x.data.toList y.data.toList))
  | .leq => some (.bool (Op.bytesLess x.data.toList y.data.toList || eqU x.data.toList y.data.toList))
  | .gtr => some (.bool !(Op.bytesLess x.data.toList y.data.toList || eqU x.data.toList y.data.toList))
  | .geq => some (.bool !(Op.bytesLess x.data.toList y.data.toList))
  | _ => none
theorem append_mk (x y : ByteArray) : x ++ y = ⟨⟨x.data.toList ++ y.data.toList⟩⟩ := bytes_mk (by simp)
theorem fstrOp_eq (op : BinOp) (x y : ByteArray) : fstrOp op x y = strOp op x y := by
  cases op <;> simp only [fstrOp, strOp, toList_eq, eqU_beq, append_mk]

section
variable (P : Program)
def fslice (t : TypeId) (x : Value) (lo hi mx : Option Value) : Option Value :=
  match x with
  | .string s =>
    match P.underlying t with
    | some .string => match mx with
      | some _ => none
      | none => match bounds s.size s.size lo hi none with
        | some (l, h, _) => some (.string ⟨⟨(s.data.toList.drop l).take (h - l)⟩⟩)
        | none => none
    | _ => cslice P t (.string s) lo hi mx
  | x => cslice P t x lo hi mx
theorem fslice_eq (t : TypeId) (x : Value) (lo hi mx : Option Value) : fslice P t x lo hi mx = cslice P t x lo hi mx := by
  unfold fslice
  split
  · rename_i s
    split
    · rename_i hu
      unfold cslice
      rw [hu]
      simp only
      split
      · rfl
      · split
        · rename_i l h m hb
          simp only [hb]
          congr 2
          exact (bytes_mk (by rw [ByteArray.data_extract, Array.toList_extract, List.extract_eq_take_drop])).symm
        · rename_i hb
          simp only [hb]
    · rfl
  · rfl

def findex (t : TypeId) (x ix : Value) : Option Value :=
  match x, ix with
  | .string s, .int k (.ofNat i) =>
    match P.underlying t with
    | some .string => (s.data.toList[i]?).map fun b => .int .u8 (.ofNat b.toNat)
    | _ => cindex P t (.string s) (.int k (.ofNat i))
  | x, ix => cindex P t x ix
theorem bytes_get (s : ByteArray) (i : Nat) : s[i]? = s.data.toList[i]? := by
  by_cases h : i < s.size
  · rw [getElem?_pos s i h, List.getElem?_eq_getElem (by simpa using h)]
    rfl
  · rw [getElem?_neg s i h, List.getElem?_eq_none (by simpa using h)]
theorem findex_eq (t : TypeId) (x ix : Value) : findex P t x ix = cindex P t x ix := by
  unfold findex
  split
  · rename_i s k i
    split
    · rename_i hu
      unfold cindex
      simp only [hu]
      rw [if_pos (by exact Int.natCast_nonneg i)]
      show _ = (s[i]?).map _
      rw [bytes_get]
      rfl
    · rfl
  · rfl

/-- == of two values of a type. -/
def fceq : (depth : Nat) → TypeId → Value → Value → Option Bool
  | 0, _, _, _ => none
  | d + 1, t, x, y =>
    match x, y with
    | .string a, .string b => match P.underlying t with
      | some .string => some (eqU a.data.toList b.data.toList)
      | _ => ceq P (d + 1) t (.string a) (.string b)
    | .agg xs, .agg ys => match P.underlying t with
      | some (.struct fs) =>
        if P.stoodInHeld t then none else
        fs.toList.foldr (fun f acc =>
          if f.name ≠ "_" then
            match part? P f.type xs f.offset, part? P f.type ys f.offset with
            | some a, some b => match fceq d f.type a b with
              | some true => acc
              | some false => some false
              | none => none
            | _, _ => none
          else acc) (some true)
      | _ => ceq P (d + 1) t (.agg xs) (.agg ys)
    | x, y => ceq P (d + 1) t x y
theorem fceq_eq : ∀ (d : Nat) (t : TypeId) (x y : Value), fceq P d t x y = ceq P d t x y
  | 0, t, x, y => rfl
  | d + 1, t, x, y => by
    unfold fceq
    split
    · rename_i a b
      split
      · rename_i hu
        unfold ceq
        simp only [hu, eqU_same]
      · rfl
    · rename_i xs ys
      split
      · rename_i fs hu
        unfold ceq
        simp only [hu, fceq_eq d]
        rfl
      · rfl
    · rfl

def fcbin (op : BinOp) (t : TypeId) (x y : Operand) (a b : Value) : Option Value :=
  match a, b with
  | .agg xs, .agg ys =>
    match op with
    | .eql => if eqPlain P t x y (.agg xs) (.agg ys) then (fceq P Op.maxDepth t (.agg xs) (.agg ys)).map .bool else none
    | .neq => if eqPlain P t x y (.agg xs) (.agg ys) then (fceq P Op.maxDepth t (.agg xs) (.agg ys)).map fun r => .bool !r else none
    | _ => none
  | a, b => cbin P op t x y a b
theorem fcbin_eq (op : BinOp) (t : TypeId) (x y : Operand) (a b : Value) : fcbin P op t x y a b = cbin P op t x y a b := by
  unfold fcbin
  split
  · unfold cbin
    simp only [fceq_eq]
    cases op <;> rfl
  · rfl
end
end Go.Cn

/- A run that leaves the heap as it was, but for new blocks that nothing names: its contract without these blocks. Evaluation in which some functions answer by a law. -/
set_option linter.unusedVariables false
set_option linter.unusedSimpArgs false
namespace Go.Cn

theorem VRel.pull {σ σ1 : Sg} (hle : σ.le σ1) {v u : Value} (h : VRel σ v u) : ∀ {v' : Value}, VRel σ1 v v' → VRel σ v v' := by
  induction h with
  | unk v => intro v' _; exact .unk _
  | bool b => intro v' h1; rw [h1.bool_inv]; exact .bool b
  | int k n => intro v' h1; rw [h1.int_inv]; exact .int k n
  | float k n => intro v' h1; cases h1; exact .float k n
  | complex k n m => intro v' h1; cases h1; exact .complex k n m
  | string s => intro v' h1; rw [h1.string_inv]; exact .string s
  | nilFunc => intro v' h1; rw [h1.nilFunc_inv]; exact .nilFunc
  | nilIface => intro v' h1; rw [h1.nilIface_inv]; exact .nilIface
  | pnil => intro v' h1; rw [h1.pnil_inv]; exact .pnil
  | ptr b o e hb =>
    intro v' h1
    obtain ⟨_, e', he, rfl⟩ := h1.ptr_inv
    have := hle _ _ hb
    rw [this] at he; cases he
    exact .ptr b o e hb
  | snil => intro v' h1; obtain ⟨_, _, rfl⟩ := h1.snil_inv; exact .snil
  | sexact b o l c e a hb hl ha =>
    intro v' h1
    cases h1 with
    | sexact b o l c e' a' hb' hl' ha' =>
      have := hle _ _ hb
      rw [this] at hb'; cases hb'
      exact .sexact b o l c e a' hb hl' ha'
  | sopen b o n l c c' e a hb hl hc ha =>
    intro v' h1
    cases h1 with
    | sopen b o n l c c2 e' a' hb' hl' hc' ha' =>
      have := hle _ _ hb
      rw [this] at hb'; cases hb'
      exact .sopen b o n l c c2 e a' hb hl' hc' ha'
  | mnil => intro v' h1; rw [h1.mnil_inv]; exact .mnil
  | map b e hb =>
    intro v' h1
    obtain ⟨e', he, rfl⟩ := h1.map_inv
    have := hle _ _ hb
    rw [this] at he; cases he
    exact .map b e hb
  | yield l e hl =>
    intro v' h1
    obtain ⟨e', he, rfl⟩ := h1.yield_inv
    have := hle _ _ hl
    rw [this] at he; cases he
    exact .yield l e hl
  | one b => intro v' h1; rw [h1.one_inv]; exact .one b
  | func fn a b a' b' hf ha hb h1 h2 ih1 ih2 =>
    intro v' h3
    obtain ⟨p, q, rfl, hp, hq⟩ := h3.func_inv hf
    refine .func fn a b p q hf hp.1 hq.1 (fun i x y hx hy => ?_) (fun i x y hx hy => ?_)
    · have hi : i < a'.size := by rw [← ha]; exact (Array.getElem?_eq_some_iff.1 hx).1
      exact ih1 i x _ hx (Array.getElem?_eq_getElem hi) (hp.2 i x y hx hy)
    · have hi : i < b'.size := by rw [← hb]; exact (Array.getElem?_eq_some_iff.1 hx).1
      exact ih2 i x _ hx (Array.getElem?_eq_getElem hi) (hq.2 i x y hx hy)
  | iface t v v' hv ih => intro w h1; obtain ⟨w', rfl, hw⟩ := h1.iface_inv; exact .iface t v w' (ih hw)
  | agg a a' ha h1 ih =>
    intro v' h3
    obtain ⟨p, rfl, hp⟩ := h3.agg_inv
    refine .agg a p hp.1 fun i x y hx hy => ?_
    have hi : i < a'.size := by rw [← ha]; exact (Array.getElem?_eq_some_iff.1 hx).1
    exact ih i x _ hx (Array.getElem?_eq_getElem hi) (hp.2 i x y hx hy)
  | tuple a a' ha hn h1 ih =>
    intro v' h3
    obtain ⟨p, rfl, hp⟩ := h3.tuple_inv hn
    refine .tuple a p hp.1 hn fun i x y hx hy => ?_
    have hi : i < a'.size := by rw [← ha]; exact (Array.getElem?_eq_some_iff.1 hx).1
    exact ih i x _ hx (Array.getElem?_eq_getElem hi) (hp.2 i x y hx hy)

theorem ERel.pull {σ σ1 : Sg} (hle : σ.le σ1) {es fs : List MapEntry} (h : ERel σ es fs) : ∀ {gs : List MapEntry}, ERel σ1 es gs → ERel σ es gs := by
  induction h with
  | nil => intro gs h1; cases h1; exact .nil
  | cons x y l l' k1 k2 k3 _ ih =>
    intro gs h1
    cases h1 with
    | cons _ y' _ l2 m1 m2 m3 m4 => exact .cons x y' l l2 m1 (k2.pull hle m2) (k3.pull hle m3) (ih m4)

theorem TRel.pull {σ σ1 : Sg} (hle : σ.le σ1) {tm : List Value} {t1 t2 : Array Value} (h : TRel σ tm t1) (h1 : TRel σ1 tm t2) : TRel σ tm t2 := ⟨h1.1, fun i => (h.2 i).pull hle (h1.2 i)⟩

theorem OthRel.pull {σ σ1 : Sg} (hle : σ.le σ1) {o : Ob} {r0 r : Obj} (h : OthRel σ o r0) (h1 : OthRel σ1 o r) : OthRel σ o r := by
  cases o with
  | cells cs t g => cases r0 <;> exact h.elim
  | map es c =>
    cases r0 <;> first | exact h.elim | skip
    cases r <;> first | exact h1.elim | skip
    exact ⟨h1.1, h.2.pull hle h1.2⟩
  | iter m since seen st =>
    cases r0 <;> first | exact h.elim | skip
    cases r <;> first | exact h1.elim | skip
    refine ⟨h1.1, h1.2.1, h1.2.2.1, ?_⟩
    have a := h.2.2.2
    have b := h1.2.2.2
    cases m with
    | none => exact b
    | some m =>
      obtain ⟨e, h2, _⟩ := a
      obtain ⟨e', h3, h4⟩ := b
      have := hle _ _ h2
      rw [this] at h3; cases h3
      exact ⟨e, h2, h4⟩
  | loop l =>
    cases r0 <;> first | exact h.elim | skip
    cases r <;> first | exact h1.elim | skip
    exact ⟨h1.1, h1.2.1, h.2.2.1.pull hle h1.2.2.1, h1.2.2.2⟩

/-- What stays of a heap: all that can be read. -/
structure Stay (h h' : Hp) : Prop where
  cell : ∀ b cs t g, h.ob b = some (.cells cs t g) → h.live b g = true → h'.ob b = some (.cells cs t g) ∧ h'.live b g = true
  oth : ∀ b o, h.ob b = some o → o.isOth = true → h'.ob b = some o

theorem Stay.refl (h : Hp) : Stay h h := ⟨fun _ _ _ _ a b => ⟨a, b⟩, fun _ _ a _ => a⟩
theorem Stay.trans {h h1 h2 : Hp} (a : Stay h h1) (b : Stay h1 h2) : Stay h h2 :=
  ⟨fun x cs t g k1 k2 => by obtain ⟨q1, q2⟩ := a.cell x cs t g k1 k2; exact b.cell x cs t g q1 q2, fun x o k1 k2 => b.oth x o (a.oth x o k1 k2) k2⟩

section
variable {P : Program}
/-- New blocks that nothing names are forgotten. -/
theorem SCalls.trim {f : FuncId} {args : List Value} {h : Hp} {K : Value → Hp → Prop} {K' : Value → Prop} (hf : f < P.funcs.size) (hc : SCalls P f args h K) (hk : ∀ v h', K v h' → Stay h h' ∧ plainV 100 v = true ∧ K' v) :
    SCalls P f args h fun v h' => K' v ∧ h' = h := by
  have hc := hc.func hf
  refine .inl ⟨hc.1, fun base σ w rargs hr hl => (hc.2 base σ w rargs hr hl).mono ?_⟩
  rintro e w' ⟨v, v', h1, σ1, rfl, hkv, hv, hr1, he⟩
  obtain ⟨hst, hp, hk'⟩ := hk _ _ hkv
  have hv' : VRel σ v v' := (plainV_rel σ 100 v hp).pull he.le hv
  refine ⟨v, v', h, σ, rfl, ⟨hk', rfl⟩, hv', ?_, ?_⟩
  · refine ⟨Nat.le_trans hr.base_le he.size, fun b e hb => ⟨(hr.dom b e hb).1, Nat.lt_of_lt_of_le (hr.dom b e hb).2 he.size⟩, hr.fresh, ?_, hr.grp, hr.gdom, hr.stack, hr.nest, hr.apart, ?_⟩
    · intro b e cs t g hb hob hlv
      obtain ⟨q1, q2⟩ := hst.cell b cs t g hob hlv
      obtain ⟨⟨c, el, fr, k1, k2, k3, k4, k5⟩, k6⟩ := hr1.cell b e cs t g (he.le _ _ hb) q1 q2
      obtain ⟨⟨c0, el0, fr0, m1, m2, m3, m4, m5⟩, m6⟩ := hr.cell b e cs t g hb hob hlv
      refine ⟨⟨c, el, fr, k1, k2, k3, fun i x hx => ?_, k5⟩, k6⟩
      obtain ⟨x', n1, n2⟩ := k4 i x hx
      obtain ⟨x0, n3, n4⟩ := m4 i x hx
      exact ⟨x', n1, n4.pull he.le n2⟩
    · intro b e o hb hob hoth
      obtain ⟨p1, p2, ⟨r0, p3, p4⟩, p5⟩ := hr.oth b e o hb hob hoth
      obtain ⟨_, _, ⟨r1, q3, q4⟩, _⟩ := hr1.oth b e o (he.le _ _ hb) (hst.oth b o hob hoth) hoth
      exact ⟨p1, p2, ⟨r1, q3, p4.pull he.le q4⟩, p5⟩
  · exact ⟨Sg.le_refl σ, he.os, he.tape, he.output, he.size, he.below, he.other, fun b e h1 h2 => by rw [h1] at h2; simp at h2, Nat.le_refl _, fun b _ hb => ⟨rfl, rfl, hb⟩⟩

/-! ### Evaluation by laws -/
/-- Laws of some functions: they answer and leave the heap. -/
def NatOk (P : Program) (nat : FuncId → List Value → Hp → Option (Option Value)) : Prop :=
  ∀ f args h v, nat f args h = some (some v) → SCalls P f args h fun v' h' => v' = v ∧ h' = h

variable (P)
/-- xF, where some functions answer by a law (some none: the law does not know). -/
def xG {R : Type} (A : Al R) (nat : FuncId → List Value → Hp → Option (Option Value)) (ann : FuncId → Nat → List Tmp) : Nat → FuncId → List Value → Hp → (Value → Hp → R) → R
  | 0, _, _, _, _ => A.bot
  | n + 1, f, args, h, k =>
    match nat f args h with
    | some (some v) => k v h
    | some none => A.bot
    | none =>
      match P.funcs[f]? with
      | some fn =>
        match fn.body with
        | some c => if mayCall fn then bodyX P A (xG A nat ann n) f (ann f) fn c args h k else A.bot
        | none => A.bot
      | none => roundX P A (xG A nat ann n) ann (f - P.funcs.size) args h k
variable {P}

theorem xG_ok (hm : P.follows .mixedOrders = true) {m : Nat} {nat : FuncId → List Value → Hp → Option (Option Value)} (hn : NatOk P nat) {ann : FuncId → Nat → List Tmp} : ∀ (n : Nat), CallOk P (xG P (alB m) nat ann n)
  | 0 => fun f args h k hx => by simp [xG, alB] at hx
  | n + 1 => fun f args h k hx => by
    unfold xG at hx
    split at hx
    · rename_i v hv
      exact (hn f args h v hv).mono fun v' h' hh => by obtain ⟨rfl, rfl⟩ := hh; exact hx
    · simp [alB] at hx
    · split at hx
      · rename_i fn hf
        split at hx
        · rename_i c hb
          split at hx
          · rename_i hmc
            exact SCalls_of hm hf hb hmc (bodyX_ok (xG_ok hm hn n) (fun v h hv => hv) hx)
          · simp [alB] at hx
        · simp [alB] at hx
      · rename_i hf
        have hge : P.funcs.size ≤ f := Array.getElem?_eq_none_iff.1 hf
        have := SCalls_of_round hm (roundX_ok (xG_ok hm hn n) (fun v h hv => hv) hx)
        rwa [show P.funcs.size + (f - P.funcs.size) = f by omega] at this
end
end Go.Cn

/- Evaluation that the kernel does fast (1): slots in a tree, operations as closures (what is closed is worked out once). -/
set_option linter.unusedVariables false
set_option linter.unusedSimpArgs false
namespace Go.Cn

/-! ### Slots in a tree -/
inductive Tv where
  | leaf
  | node (v : Value) (l r : Tv)
structure TG where
  run : Tv → Value
structure TS where
  run : Value → Tv → Tv

def tg : List Bool → TG
  | [] => ⟨fun t => match t with
    | .leaf => undef
    | .node v _ _ => v⟩
  | true :: p => let g := tg p; ⟨fun t => match t with
    | .leaf => undef
    | .node _ l _ => g.run l⟩
  | false :: p => let g := tg p; ⟨fun t => match t with
    | .leaf => undef
    | .node _ _ r => g.run r⟩
def ts : List Bool → TS
  | [] => ⟨fun x t => match t with
    | .leaf => .node x .leaf .leaf
    | .node _ l r => .node x l r⟩
  | true :: p => let s := ts p; ⟨fun x t => match t with
    | .leaf => .node undef (s.run x .leaf) .leaf
    | .node v l r => .node v (s.run x l) r⟩
  | false :: p => let s := ts p; ⟨fun x t => match t with
    | .leaf => .node undef .leaf (s.run x .leaf)
    | .node v l r => .node v l (s.run x r)⟩

theorem tg_leaf : ∀ p, (tg p).run .leaf = undef
  | [] => rfl
  | true :: p => rfl
  | false :: p => rfl

theorem tg_ts : ∀ (p q : List Bool) (x : Value) (t : Tv), (tg p).run ((ts q).run x t) = if p = q then x else (tg p).run t
  | [], [], x, t => by cases t <;> rfl
  | [], true :: q, x, t => by cases t <;> simp [tg, ts]
  | [], false :: q, x, t => by cases t <;> simp [tg, ts]
  | true :: p, [], x, t => by cases t <;> simp [tg, ts, tg_leaf]
  | false :: p, [], x, t => by cases t <;> simp [tg, ts, tg_leaf]
  | true :: p, true :: q, x, t => by cases t <;> simp [tg, ts, tg_ts p q, tg_leaf]
  | true :: p, false :: q, x, t => by cases t <;> simp [tg, ts, tg_leaf]
  | false :: p, true :: q, x, t => by cases t <;> simp [tg, ts, tg_leaf]
  | false :: p, false :: q, x, t => by cases t <;> simp [tg, ts, tg_ts p q, tg_leaf]

def path : (fuel : Nat) → Nat → List Bool
  | 0, _ => []
  | f + 1, n => if n = 0 then [] else if n % 2 = 1 then true :: path f (n / 2) else false :: path f (n / 2 - 1)

theorem path_inj : ∀ (f g n m : Nat), n < f → m < g → path f n = path g m → n = m
  | 0, g, n, m, h1, h2, h => by omega
  | f + 1, 0, n, m, h1, h2, h => by omega
  | f + 1, g + 1, n, m, h1, h2, h => by
    unfold path at h
    by_cases hn : n = 0
    · by_cases hm : m = 0
      · omega
      · simp only [hn, hm, if_true, if_false] at h
        split at h <;> simp at h
    · by_cases hm : m = 0
      · simp only [hn, hm, if_true, if_false] at h
        split at h <;> simp at h
      · simp only [hn, hm, if_false] at h
        by_cases h3 : n % 2 = 1 <;> by_cases h4 : m % 2 = 1
        · simp only [h3, h4, if_true, List.cons.injEq, true_and] at h
          have := path_inj f g _ _ (by omega) (by omega) h
          omega
        · simp only [h3, h4, if_true, if_false, List.cons.injEq, Bool.true_eq_false, false_and] at h
        · simp only [h3, h4, if_true, if_false, List.cons.injEq, Bool.false_eq_true, false_and] at h
        · simp only [h3, h4, if_false, List.cons.injEq, true_and] at h
          have := path_inj f g _ _ (by omega) (by omega) h
          omega

def gt (i : Nat) : TG := tg (path (i + 1) i)
def st (i : Nat) : TS := ts (path (i + 1) i)

theorem gt_st (i j : Nat) (x : Value) (t : Tv) : (gt i).run ((st j).run x t) = if i = j then x else (gt i).run t := by
  unfold gt st
  rw [tg_ts]
  by_cases h : i = j
  · rw [h]; simp
  · rw [if_neg h, if_neg (fun q => h (path_inj _ _ _ _ (by omega) (by omega) q))]

/-- A tree for a row of slots. -/
structure RT (n : Nat) (t : Tv) (tm : List Value) : Prop where
  len : tm.length = n
  get : ∀ i, (gt i).run t = tm.getD i undef

/-- The row. -/
def toL (t : Tv) : (k i : Nat) → List Value
  | 0, _ => []
  | k + 1, i => (gt i).run t :: toL t k (i + 1)

theorem toL_length (t : Tv) : ∀ k i, (toL t k i).length = k
  | 0, _ => rfl
  | k + 1, i => by simp [toL, toL_length t k]
theorem toL_get (t : Tv) : ∀ k i j, j < k → (toL t k i)[j]? = some ((gt (i + j)).run t)
  | 0, _, _, h => by omega
  | k + 1, i, 0, _ => by simp [toL]
  | k + 1, i, j + 1, h => by
    simp only [toL, List.getElem?_cons_succ]
    rw [toL_get t k (i + 1) j (by omega)]
    rw [show i + 1 + j = i + (j + 1) by omega]

theorem RT.toL {n : Nat} {t : Tv} {tm : List Value} (h : RT n t tm) : toL t n 0 = tm := by
  apply List.ext_getElem?
  intro i
  by_cases hi : i < n
  · rw [toL_get t n 0 i hi, h.get, Nat.zero_add, List.getD_eq_getElem?_getD, List.getElem?_eq_getElem (by rw [h.len]; exact hi)]
    rfl
  · rw [List.getElem?_eq_none (by rw [toL_length]; omega), List.getElem?_eq_none (by rw [h.len]; omega)]

/-- A slot is written (a slot that is none: nothing happens). -/
def kset (n : Nat) (d : Option Tmp) : TS :=
  match d with
  | some d => match decide (d < n) with
    | true => st d
    | false => ⟨fun _ t => t⟩
  | none => ⟨fun _ t => t⟩

theorem RT.set {n : Nat} {t : Tv} {tm : List Value} (h : RT n t tm) (d : Option Tmp) (v : Value) : RT n ((kset n d).run v t) (put tm d v) := by
  unfold kset put
  cases d with
  | none => exact h
  | some d =>
    simp only
    by_cases hd : d < n
    · simp only [hd, decide_true]
      refine ⟨by simp [h.len], fun i => ?_⟩
      rw [gt_st, List.getD_eq_getElem?_getD, List.getElem?_set]
      by_cases hi : i = d
      · subst hi; simp [h.len, hd]
      · rw [if_neg hi, if_neg (fun q => hi q.symm), h.get, List.getD_eq_getElem?_getD]
    · simp only [hd, decide_false]
      rw [List.set_eq_of_length_le (by rw [h.len]; exact Nat.le_of_not_lt hd)]
      exact h

def ofL : List Value → Nat → Tv → Tv
  | [], _, t => t
  | v :: vs, i, t => ofL vs (i + 1) ((st i).run v t)

theorem ofL_get : ∀ (l : List Value) (i : Nat) (t : Tv) (j : Nat), (gt j).run (ofL l i t) = if i ≤ j ∧ j < i + l.length then l.getD (j - i) undef else (gt j).run t
  | [], i, t, j => by rw [if_neg (by simp only [List.length_nil]; omega)]; rfl
  | v :: vs, i, t, j => by
    simp only [ofL, ofL_get vs, gt_st, List.length_cons]
    by_cases h1 : j = i
    · subst h1
      rw [if_neg (by omega), if_pos rfl, if_pos (by omega)]
      simp
    · by_cases h2 : i + 1 ≤ j ∧ j < i + 1 + vs.length
      · rw [if_pos h2, if_pos (by omega)]
        rw [show j - i = (j - (i + 1)) + 1 by omega]
        simp
      · rw [if_neg h2, if_neg h1, if_neg (by omega)]

theorem gt_leaf (i : Nat) : (gt i).run .leaf = undef := tg_leaf _

theorem RT.of (l : List Value) : RT l.length (ofL l 0 .leaf) l := by
  refine ⟨rfl, fun i => ?_⟩
  rw [ofL_get, gt_leaf]
  by_cases h : i < l.length
  · rw [if_pos (by omega)]; rfl
  · rw [if_neg (by omega), List.getD_eq_getElem?_getD, List.getElem?_eq_none (by omega)]; rfl

theorem RT.args {n : Nat} {l : List Value} (hl : l.length ≤ n) : RT n (ofL l 0 .leaf) (l ++ List.replicate (n - l.length) undef) := by
  refine ⟨by simp; omega, fun i => ?_⟩
  rw [(RT.of l).get, List.getD_eq_getElem?_getD, List.getD_eq_getElem?_getD]
  by_cases h : i < l.length
  · rw [List.getElem?_append_left h]
  · rw [List.getElem?_eq_none (by omega), List.getElem?_append_right (by omega), List.getElem?_replicate]
    split <;> rfl

/-! ### Operations -/
structure KV where
  run : Tv → Value
structure KP where
  run : Tv → Option Value
structure KR where
  run : Tv → Hp → Option Value
structure KE where
  run : Tv → Hp → Option (Value × Hp)
structure KI where
  run : IntKind → Int → Int → Option Value

def kev (x : Operand) : KV :=
  match x with
  | .tmp i => let g := gt i; ⟨fun t => g.run t⟩
  | .const v => match plainV 100 v with
    | true => ⟨fun _ => v⟩
    | false => ⟨fun _ => unk⟩
  | .global _ => ⟨fun _ => unk⟩
  | .func f => ⟨fun _ => .func (.func f) #[] #[]⟩

theorem kev_eq {n : Nat} {t : Tv} {tm : List Value} (h : RT n t tm) (x : Operand) : (kev x).run t = ev tm x := by
  cases x with
  | tmp i => exact h.get i
  | const v => simp only [kev, ev]; cases plainV 100 v <;> rfl
  | global g => rfl
  | func f => rfl

def kevs : List Operand → List KV
  | [] => []
  | x :: xs => kev x :: kevs xs
def runs : List KV → Tv → List Value
  | [], _ => []
  | v :: vs, t => v.run t :: runs vs t
theorem kevs_eq {n : Nat} {t : Tv} {tm : List Value} (h : RT n t tm) : ∀ xs, runs (kevs xs) t = xs.map (ev tm)
  | [] => rfl
  | x :: xs => by simp [kevs, runs, kev_eq h, kevs_eq h xs]

def kevp : List (Nat × Operand) → List (Nat × KV)
  | [] => []
  | x :: xs => (x.1, kev x.2) :: kevp xs
def runp : List (Nat × KV) → Tv → List (Nat × Value)
  | [], _ => []
  | v :: vs, t => (v.1, v.2.run t) :: runp vs t
theorem kevp_eq {n : Nat} {t : Tv} {tm : List Value} (h : RT n t tm) : ∀ xs, runp (kevp xs) t = xs.map fun (i, x) => (i, ev tm x)
  | [] => rfl
  | x :: xs => by simp [kevp, runp, kev_eq h, kevp_eq h xs]

structure KO' where
  run : Tv → Option Value
def kevo (x : Option Operand) : KO' :=
  match x with
  | some x => let v := kev x; ⟨fun t => some (v.run t)⟩
  | none => ⟨fun _ => none⟩
theorem kevo_eq {n : Nat} {t : Tv} {tm : List Value} (h : RT n t tm) (x : Option Operand) : (kevo x).run t = x.map (ev tm) := by
  cases x with
  | none => rfl
  | some x => simp [kevo, kev_eq h]

section
variable (P : Program)

def kint (o : BinOp) : KI :=
  match o with
  | .add => ⟨fun k a b => some (.int k (k.wrap (a + b)))⟩
  | .sub => ⟨fun k a b => some (.int k (k.wrap (a - b)))⟩
  | .mul => ⟨fun k a b => some (.int k (k.wrap (a * b)))⟩
  | .eql => ⟨fun _ a b => some (.bool (a == b))⟩
  | .neq => ⟨fun _ a b => some (.bool (a != b))⟩
  | .lss => ⟨fun _ a b => some (.bool (a < b))⟩
  | .leq => ⟨fun _ a b => some (.bool (a ≤ b))⟩
  | .gtr => ⟨fun _ a b => some (.bool (a > b))⟩
  | .geq => ⟨fun _ a b => some (.bool (a ≥ b))⟩
  | o => ⟨fun k a b => intOp o k a b⟩

theorem kint_eq (o : BinOp) (k : IntKind) (a b : Int) : (kint o).run k a b = intOp o k a b := by cases o <;> rfl

def isShift : BinOp → Bool
  | .shl | .shr => true
  | _ => false

def nilC (v : Value) : Option Value :=
  match v with
  | .pointer (some a) => some (.pointer (some a))
  | .iface t v => some (.iface t v)
  | .func (.func f) a b => some (.func (.func f) a b)
  | _ => none

def kbin (o : BinOp) (ty : TypeId) (x y : Operand) : KP :=
  let a := kev x
  let b := kev y
  match isShift o with
  | true => ⟨fun t => match a.run t, b.run t with
      | .int k m, .int k' n => shift o k m n
      | u, v => cbin P o ty x y u v⟩
  | false =>
    let i := kint o
    ⟨fun t => match a.run t, b.run t with
      | .int k m, .int k' n => if k = k' then i.run k m n else none
      | .string s, .string u => fstrOp o s u
      | u, v => fcbin P o ty x y u v⟩

theorem kbin_eq {n : Nat} {t : Tv} {tm : List Value} (h : RT n t tm) (o : BinOp) (ty : TypeId) (x y : Operand) : (kbin P o ty x y).run t = cbin P o ty x y (ev tm x) (ev tm y) := by
  unfold kbin
  simp only
  cases hs : isShift o with
  | true =>
    simp only [kev_eq h]
    split
    · rename_i k m k' n e1 e2
      rw [e1, e2]
      unfold cbin
      cases o <;> simp [isShift] at hs <;> rfl
    · rfl
  | false =>
    simp only [kev_eq h]
    split
    · rename_i k m k' n e1 e2
      rw [e1, e2]
      unfold cbin
      cases o <;> simp [isShift] at hs <;> simp [kint_eq]
    · rename_i s u e1 e2; rw [e1, e2, fstrOp_eq]; rfl
    · rw [fcbin_eq]

def kfieldAddr (s : TypeId) (x : Operand) (f : Nat) : KP :=
  let v := kev x
  match P.underlying s with
  | some (.struct fs) =>
    match fs[f]? with
    | some fd => match size? P fd.type with
      | some n => match n == 0 with
        | true => ⟨fun _ => none⟩
        | false =>
          let off := fd.offset
          ⟨fun t => match v.run t with
            | .pointer (some ⟨b, o, none⟩) => some (ptr b (o + off))
            | _ => none⟩
      | none => ⟨fun _ => none⟩
    | none => ⟨fun _ => none⟩
  | _ => ⟨fun _ => none⟩

theorem kfieldAddr_eq {n : Nat} {t : Tv} {tm : List Value} (h : RT n t tm) (s : TypeId) (x : Operand) (f : Nat) : (kfieldAddr P s x f).run t = cfieldAddr P s (ev tm x) f := by
  unfold kfieldAddr cfieldAddr
  simp only
  split
  · rename_i fs hu
    split
    · rename_i fd hf
      split
      · rename_i n hn
        split
        · rename_i h0
          have : n = 0 := by simpa using h0
          simp only
          split
          · rename_i e1 e2
            rw [hu] at e1; cases e1
            simp [hf, hn, this]
          · rfl
        · rename_i h0
          have : ¬ n = 0 := by simpa using h0
          simp only [kev_eq h]
          split
          · rename_i b o e
            simp [hu, e, hf, hn, this]
          · rename_i hne
            split
            · rename_i b o e1 e2
              exact absurd e2 (hne b o)
            · rfl
      · rename_i hn
        simp only
        split
        · rename_i e1 e2; rw [hu] at e1; cases e1; simp [hf, hn]
        · rfl
    · rename_i hf
      simp only
      split
      · rename_i e1 e2; rw [hu] at e1; cases e1; simp [hf]
      · rfl
  · rename_i hne
    simp only
    split
    · rename_i fs b o e1 e2; exact absurd e1 (hne fs)
    · rfl

def klen (args : List Operand) (argTypes : List TypeId) : KP :=
  match argTypes, args with
  | ty :: _, x :: _ => let v := kev x; ⟨fun t => clen P ty (v.run t)⟩
  | _, _ => ⟨fun _ => none⟩

theorem klen_eq {n : Nat} {t : Tv} {tm : List Value} (h : RT n t tm) (args : List Operand) (argTypes : List TypeId) : (klen P args argTypes).run t = (match argTypes, args with
    | ty :: _, x :: _ => clen P ty (ev tm x)
    | _, _ => none) := by
  unfold klen
  cases argTypes with
  | nil => rfl
  | cons ty l => cases args with
    | nil => rfl
    | cons x l' => simp only [kev_eq h]

def kpop (n : Nat) (op : Op) : KP :=
  match op with
  | .move x | .assign x => let v := kev x; ⟨fun t => some (v.run t)⟩
  | .pick c a b =>
    let c := kev c
    let a := kev a
    let b := kev b
    ⟨fun t => match c.run t with
      | .bool true => some (a.run t)
      | .bool false => some (b.run t)
      | _ => none⟩
  | .nilCheck x => let v := kev x; ⟨fun t => nilC (v.run t)⟩
  | .binOp o ty x y _ => kbin P o ty x y
  | .unOp o _ x => let v := kev x; ⟨fun t => cun o (v.run t)⟩
  | .convert s d x => let v := kev x; ⟨fun t => cconv P s d (v.run t)⟩
  | .slice ty x lo hi mx =>
    let v := kev x
    let lo := kevo lo
    let hi := kevo hi
    let mx := kevo mx
    ⟨fun t => fslice P ty (v.run t) (lo.run t) (hi.run t) (mx.run t)⟩
  | .fieldAddr s x f => kfieldAddr P s x f
  | .field ty x f => let v := kev x; ⟨fun t => cfield P ty (v.run t) f⟩
  | .indexAddr ty x ix => let v := kev x; let i := kev ix; ⟨fun t => cindexAddr P ty (v.run t) (i.run t)⟩
  | .index ty x ix => let v := kev x; let i := kev ix; ⟨fun t => findex P ty (v.run t) (i.run t)⟩
  | .build ty parts => let ps := kevp parts.toList; ⟨fun t => cbuild P ty (runp ps t)⟩
  | .extract x i => let v := kev x; ⟨fun t => match v.run t with
    | .tuple vs => if vs.size = 1 then (match vs[0]? with
      | some (Value.bool b) => if i = 0 then some (.bool b) else none
      | _ => none) else vs[i]?
    | _ => none⟩
  | .call { callee := .builtin .len, args, argTypes } => klen P args.toList argTypes.toList
  | op => ⟨fun t => pop P (toL t n 0) op⟩

theorem kpop_eq {n : Nat} {t : Tv} {tm : List Value} (h : RT n t tm) (op : Op) : (kpop P n op).run t = pop P tm op := by
  unfold kpop
  split
  · simp only [kev_eq h]; rfl
  · simp only [kev_eq h]; rfl
  · simp only [kev_eq h]; rfl
  · simp only [kev_eq h]; rfl
  · exact kbin_eq P h _ _ _ _
  · simp only [kev_eq h]; rfl
  · simp only [kev_eq h]; rfl
  · simp only [kev_eq h, kevo_eq h, fslice_eq]; rfl
  · exact kfieldAddr_eq P h _ _ _
  · simp only [kev_eq h]; rfl
  · simp only [kev_eq h]; rfl
  · simp only [kev_eq h, findex_eq]; rfl
  · simp only [kevp_eq h]; rfl
  · simp only [kev_eq h]; rfl
  · rw [klen_eq P h]; rfl
  · simp only [h.toL]

/-- A cell, and what lies in it. -/
def cellAt1 (h : Hp) (b o : Nat) : Option Value :=
  match h.ob b with
  | some (.cells cs _ g) => if h.live b g then cs[o]? else none
  | _ => none

theorem cellAt1_eq (h : Hp) (b o : Nat) : cellAt1 h b o = (match h.cellsAt b o 1 with | some [v] => some v | _ => none) := by
  unfold Hp.cellsAt cellAt1
  cases hob : h.ob b with
  | none => rfl
  | some ob =>
    cases ob with
    | cells cs t g =>
      simp only
      by_cases hl : h.live b g = true
      · by_cases hlt : o < cs.length
        · have e1 : (h.live b g && decide (o + 1 ≤ cs.length)) = true := by simp only [hl, Bool.true_and, decide_eq_true_eq]; omega
          have e2 : List.take 1 (List.drop o cs) = [cs[o]] := by rw [List.drop_eq_getElem_cons hlt]; rfl
          rw [if_pos e1, if_pos hl, e2, List.getElem?_eq_getElem hlt]
        · have e1 : ¬ (h.live b g && decide (o + 1 ≤ cs.length)) = true := by simp only [hl, Bool.true_and, decide_eq_true_eq]; omega
          rw [if_neg e1, if_pos hl, List.getElem?_eq_none (by omega)]
      · have e1 : ¬ (h.live b g && decide (o + 1 ≤ cs.length)) = true := by simp only [Bool.and_eq_true]; exact fun q => hl q.1
        rw [if_neg e1, if_neg hl]
    | map es c => rfl
    | iter m since seen st => rfl
    | loop l => rfl

def krop (n : Nat) (op : Op) : KR :=
  match op with
  | .load ty a =>
    let v := kev a
    match agg? P ty, size? P ty with
    | some true, some k => ⟨fun t h => match v.run t with
        | .pointer (some ⟨b, o, none⟩) => (h.cellsAt b o k).map fun cs => .agg cs.toArray
        | _ => none⟩
    | some false, some _ => ⟨fun t h => match v.run t with
        | .pointer (some ⟨b, o, none⟩) => cellAt1 h b o
        | _ => none⟩
    | _, _ => ⟨fun _ _ => none⟩
  | .lookup ty x ix ok => let v := kev x; let i := kev ix; ⟨fun t h => clookup P ty (v.run t) (i.run t) ok h⟩
  | .entry it => let v := kev it; ⟨fun t h => centry (v.run t) h⟩
  | op => ⟨fun t h => rop P (toL t n 0) op h⟩

theorem krop_eq {n : Nat} {t : Tv} {tm : List Value} (hR : RT n t tm) (op : Op) (h : Hp) : (krop P n op).run t h = rop P tm op h := by
  unfold krop
  split
  · rename_i ty a
    show _ = cload P ty (ev tm a) h
    unfold cload
    simp only
    split
    · rename_i n h1 h2
      simp only [kev_eq hR, h1, h2]
      generalize ev tm a = x
      cases x with
      | pointer p =>
        cases p with
        | none => rfl
        | some q => obtain ⟨b, o, s⟩ := q; cases s <;> rfl
      | _ => rfl
    · rename_i n h1 h2
      simp only [kev_eq hR, h1, h2]
      generalize ev tm a = x
      cases x with
      | pointer p =>
        cases p with
        | none => rfl
        | some q =>
          obtain ⟨b, o, s⟩ := q
          cases s with
          | none =>
            simp only [cellAt1_eq]
            generalize h.cellsAt b o 1 = z
            cases z with
            | none => rfl
            | some l => cases l with
              | nil => rfl
              | cons a t => cases t <;> rfl
          | some s => rfl
      | _ => rfl
    · rename_i hn1 hn2
      simp only
      generalize ev tm a = x
      cases x with
      | pointer p =>
        cases p with
        | none => rfl
        | some q =>
          obtain ⟨b, o, s⟩ := q
          cases s with
          | none =>
            cases h1 : agg? P ty with
            | none => rfl
            | some z =>
              cases h2 : size? P ty with
              | none => cases z <;> rfl
              | some n =>
                cases z with
                | true => exact (hn1 n h1 h2).elim
                | false => exact (hn2 n h1 h2).elim
          | some s => rfl
      | _ => rfl
  · simp only [kev_eq hR]; rfl
  · simp only [kev_eq hR]; rfl
  · simp only [hR.toL]

def kmk (n : Nat) (op : Op) : KE :=
  match op with
  | .box e x => let v := kev x; ⟨fun t h => if isUnk (v.run t) then none else some (ptr h.next 0, h.alloc (v.run t).cells.toList e)⟩
  | .buildSlice ty len parts =>
    let ps := kevp parts.toList
    match P.underlying ty with
    | some (.slice e) =>
      match P.info? e with
      | some i => match i.zero with
        | some z =>
          match len * i.size > 2 ^ 24 || z.cells.size ≠ i.size || i.size = 0 || !plainV 100 z with
          | true => ⟨fun _ _ => none⟩
          | false =>
            let zs := zeroCells z.cells.toList len
            let w := i.size
            ⟨fun t h => match fillL (fun j => some (j * w, w)) zs (runp ps t) with
              | some cs => some (.slice (some ⟨h.next, 0, none⟩) len len, h.alloc cs e)
              | none => none⟩
        | none => ⟨fun _ _ => none⟩
      | none => ⟨fun _ _ => none⟩
    | _ => ⟨fun _ _ => none⟩
  | op => ⟨fun t h => mkop P (toL t n 0) op h⟩

theorem kmk_eq {n : Nat} {t : Tv} {tm : List Value} (hR : RT n t tm) (op : Op) (h : Hp) : (kmk P n op).run t h = mkop P tm op h := by
  unfold kmk
  split
  · simp only [kev_eq hR]
    unfold mkop mkOf
    simp only
    split <;> rfl
  · rename_i ty len parts
    unfold mkop mkOf
    simp only
    cases hu : P.underlying ty with
    | none => rfl
    | some d =>
      cases d with
      | slice e =>
        simp only
        cases hi : P.info? e with
        | none => rfl
        | some i =>
          simp only
          cases hz : i.zero with
          | none => rfl
          | some z =>
            simp only
            cases hc : (decide (len * i.size > 2 ^ 24) || decide (z.cells.size ≠ i.size) || decide (i.size = 0) || !plainV 100 z) with
            | true => rfl
            | false =>
              simp only [kevp_eq hR, Bool.false_eq_true, if_false]
              cases fillL (fun j => some (j * i.size, i.size)) (zeroCells z.cells.toList len) (parts.toList.map fun (j, x) => (j, ev tm x)) <;> rfl
      | _ => rfl
  · simp only [hR.toL]

def kapp (args : List Operand) (argTypes : List TypeId) : KE :=
  match argTypes, args with
  | [ty, xt], [s, x] => let s := kev s; let x := kev x; ⟨fun t h => cappend P ty xt (s.run t) (x.run t) h⟩
  | _, _ => ⟨fun _ _ => none⟩

def keop (n : Nat) (op : Op) : KE :=
  match op with
  | .alloc e =>
    match zero? P e with
    | some z => match plainV 100 z with
      | true => let cs := z.cells.toList; ⟨fun _ h => some (ptr h.next 0, h.alloc cs e)⟩
      | false => ⟨fun _ _ => none⟩
    | none => ⟨fun _ _ => none⟩
  | .store ty a x =>
    let a := kev a
    let v := kev x
    match size? P ty with
    | some k => ⟨fun t h => match a.run t with
        | .pointer (some ⟨b, o, none⟩) => if (v.run t).cells.size = k then (h.store b o (v.run t).cells.toList).map fun h' => (undef, h') else none
        | _ => none⟩
    | none => ⟨fun _ _ => none⟩
  | .call { callee := .builtin .append, args, argTypes } => kapp P args.toList argTypes.toList
  | op => ⟨fun t h => eop P (toL t n 0) op h⟩

theorem kapp_eq {n : Nat} {t : Tv} {tm : List Value} (hR : RT n t tm) (args : List Operand) (argTypes : List TypeId) (h : Hp) : (kapp P args argTypes).run t h = (match argTypes, args with
    | [ty, xt], [s, x] => cappend P ty xt (ev tm s) (ev tm x) h
    | _, _ => none) := by
  unfold kapp
  split
  · simp only [kev_eq hR]
  · rfl

theorem keop_eq {n : Nat} {t : Tv} {tm : List Value} (hR : RT n t tm) (op : Op) (h : Hp) : (keop P n op).run t h = eop P tm op h := by
  unfold keop
  split
  · rename_i e
    unfold eop
    simp only
    split
    · rename_i z hz
      split
      · rename_i hp; simp only [hz, hp, if_true]
      · rename_i hp; simp only [hz, hp]; rfl
    · rename_i hz; simp only [hz]
  · rename_i ty a x
    unfold eop
    simp only
    split
    · rename_i n hn
      simp only [kev_eq hR]
      split
      · rename_i b o e; simp only [hn, e]
      · rename_i hne
        split
        · rename_i b o m e1 e2; exact absurd e1 (hne b o)
        · rfl
    · rename_i hn
      simp only
      split
      · rename_i e1 e2; rw [hn] at e2; simp at e2
      · rfl
  · rename_i args ats
    rw [kapp_eq P hR]
    rfl
  · simp only [hR.toL]
end
end Go.Cn

/- Evaluation that the kernel does fast (2): regions, code and functions. -/
set_option linter.unusedVariables false
set_option linter.unusedSimpArgs false
namespace Go.Cn

abbrev CF := FuncId → List Value → Hp → (Value → Hp → Bool) → Bool
structure KO where
  run : CF → Tv → Hp → (Value → Hp → Bool) → Bool
structure KL where
  run : CF → Tv → Hp → (Tv → Hp → Bool) → Bool
structure KC where
  run : CF → (Exit → Tv → Hp → Bool) → Tv → Hp → Bool
structure KA where
  run : Tv → Option (FuncId × List Value)
structure KW where
  run : Tv → Option Bool

section
variable (P : Program)

def kcall (n : Nat) (op : Op) : KA :=
  match op with
  | .call { callee := .value (.func g), args, .. } =>
    let vs := kevs args.toList
    match decide (g < P.funcs.size) with
    | true => ⟨fun t => some (g, runs vs t)⟩
    | false => ⟨fun _ => none⟩
  | .call { callee := .value f, args, .. } =>
    let vs := kevs args.toList
    let f := kev f
    ⟨fun t => match f.run t with
    | .func (.func g) first captured => if g < P.funcs.size then some (g, first.toList ++ runs vs t ++ captured.toList) else none
    | .func (.yield l) first captured => if first.size = 0 ∧ captured.size = 0 then some (P.funcs.size + l, runs vs t) else none
    | _ => none⟩
  | op => ⟨fun t => callee P (toL t n 0) op⟩

theorem kcall_eq {n : Nat} {t : Tv} {tm : List Value} (hR : RT n t tm) (op : Op) : (kcall P n op).run t = callee P tm op := by
  unfold kcall
  split
  · rename_i g args ats
    unfold callee
    simp only [ev]
    by_cases hg : g < P.funcs.size
    · simp [hg, kevs_eq hR]
    · simp [hg]
  · rename_i f args ats hne
    unfold callee
    simp only [kev_eq hR, kevs_eq hR]
    split
    · rename_i e; simp only [e]
    · rename_i e; simp only [e]
    · rename_i h1 h2
      split
      · rename_i e; exact absurd e (h1 _ _ _)
      · rename_i e; exact absurd e (h2 _ _ _)
      · rfl
  · simp only [hR.toL]

/-- A guard. -/
def kwants (ops : List Oper) (o : Oper) : KW :=
  match o.guard with
  | none => ⟨fun _ => some true⟩
  | some (j, want) =>
    match (ops[j]?).bind (·.dst) with
    | some d => let g := gt d; ⟨fun t => wantsV (g.run t) want⟩
    | none => ⟨fun _ => some false⟩

theorem kwants_eq {n : Nat} {t : Tv} {tm : List Value} (hR : RT n t tm) (ops : List Oper) (o : Oper) : (kwants ops o).run t = wants ops tm o := by
  unfold kwants wants
  cases o.guard with
  | none => rfl
  | some g =>
    obtain ⟨j, want⟩ := g
    simp only
    cases (ops[j]?).bind (·.dst) with
    | none => rfl
    | some d => simp only [hR.get]

/-- An operation that is done. -/
def kdo (n : Nat) (op : Op) : KO :=
  match kind P op with
  | .pure => let q := kpop P n op; ⟨fun _ t h k => opt false (q.run t) fun v => k v h⟩
  | .read => let q := krop P n op; ⟨fun _ t h k => opt false (q.run t h) fun v => k v h⟩
  | .eff => let q := keop P n op; ⟨fun _ t h k => opt false (q.run t h) fun r => k r.1 r.2⟩
  | .call => let q := kcall P n op; ⟨fun cF t h k => opt false (q.run t) fun fa => cF fa.1 fa.2 h k⟩
  | .alt => ⟨fun _ t h k => opt false (aop (toL t n 0) op h) fun l => (l.map fun r => k r.1 r.2).all id⟩
  | .mk => let q := kmk P n op; ⟨fun _ t h k => opt false (q.run t h) fun r => k r.1 r.2⟩

theorem kdo_eq {n : Nat} {t : Tv} {tm : List Value} (hR : RT n t tm) (m : Nat) (cF : CF) (op : Op) (h : Hp) (k : Value → Hp → Bool) : (kdo P n op).run cF t h k = (match kind P op with
    | .pure => opt false (pop P tm op) fun v => k v h
    | .read => opt false (rop P tm op h) fun v => k v h
    | .eff => opt false (eop P tm op h) fun r => k r.1 r.2
    | .call => opt false (callee P tm op) fun fa => cF fa.1 fa.2 h k
    | .alt => opt false (aop tm op h) fun l => (alB m).all (l.map fun r => k r.1 r.2)
    | .mk => opt false (mkop P tm op h) fun r => k r.1 r.2) := by
  unfold kdo
  split <;> simp only [kpop_eq P hR, krop_eq P hR, keop_eq P hR, kcall_eq P hR, kmk_eq P hR, hR.toL] <;> rfl

/-- One operation, with its guard. -/
def kstep (n : Nat) (ops : List Oper) (o : Oper) : KO :=
  let q := kdo P n o.op
  match o.guard with
  | none => q
  | some _ =>
    let g := kwants ops o
    ⟨fun cF t h k => match g.run t with
      | none => false
      | some true => q.run cF t h k
      | some false => k undef h⟩

theorem kstep_eq {n : Nat} {t : Tv} {tm : List Value} (hR : RT n t tm) (m : Nat) (cF : CF) (ops : List Oper) (o : Oper) (h : Hp) (k : Value → Hp → Bool) : (kstep P n ops o).run cF t h k = stepX P (alB m) cF ops o tm h k := by
  unfold kstep stepX
  simp only
  split
  · rename_i hg
    have hw : wants ops tm o = some true := by unfold wants; rw [hg]
    simp only [hw, if_true]
    rw [kdo_eq P hR m]
    rfl
  · simp only [kwants_eq hR]
    cases hw : wants ops tm o with
    | none => rfl
    | some b =>
      cases b with
      | true =>
        simp only [if_true]
        rw [kdo_eq P hR m]
        rfl
      | false =>
        simp only [Bool.false_eq_true, if_false]
        cases kind P o.op <;> rfl

def kops (n : Nat) (ops : List Oper) : List Oper → KL
  | [] => ⟨fun _ t h k => k t h⟩
  | o :: rest =>
    let s := kstep P n ops o
    let r := kops n ops rest
    match o.dst with
    | none => ⟨fun cF t h k => s.run cF t h fun _ h' => r.run cF t h' k⟩
    | some _ =>
      let w := kset n o.dst
      ⟨fun cF t h k => s.run cF t h fun v h' => r.run cF (w.run v t) h' k⟩

theorem kops_eq {n : Nat} (m : Nat) (cF : CF) (ops : List Oper) {k' : Tv → Hp → Bool} {k : List Value → Hp → Bool} (hk : ∀ t tm h, RT n t tm → k' t h = k tm h) : ∀ (rest : List Oper) {t : Tv} {tm : List Value} (hR : RT n t tm) (h : Hp), (kops P n ops rest).run cF t h k' = xOps P (alB m) cF ops rest tm h k
  | [], t, tm, hR, h => hk t tm h hR
  | o :: rest, t, tm, hR, h => by
    simp only [kops, xOps]
    have ih := @kops_eq n m cF ops k' k hk rest
    cases hd : o.dst with
    | none =>
      simp only
      rw [kstep_eq P hR m]
      congr 1
      funext v h'
      exact ih hR h'
    | some d =>
      simp only
      rw [kstep_eq P hR m]
      congr 1
      funext v h'
      exact ih (hR.set (some d) v) h'

/-! ### The order of a region that draws -/
def pairs : List Inf → Nat → List (Nat × Inf)
  | [], _ => []
  | f :: fs, i => (i, f) :: pairs fs (i + 1)

theorem pairs_fst : ∀ (fs : List Inf) (i : Nat), (pairs fs i).map (·.1) = List.range' i fs.length
  | [], i => rfl
  | f :: fs, i => by simp [pairs, pairs_fst fs, List.range']
theorem pairs_mem (gs : List Inf) : ∀ (fs : List Inf) (i : Nat), fs = gs.drop i → ∀ p ∈ pairs fs i, gs[p.1]? = some p.2
  | [], i, _, p, hp => by simp [pairs] at hp
  | f :: fs, i, he, p, hp => by
    have h0 : gs[i]? = some f := by
      have : (gs.drop i)[0]? = some f := by rw [← he]; rfl
      simpa using this
    have h1 : fs = gs.drop (i + 1) := by
      have : (gs.drop i).drop 1 = fs := by rw [← he]; rfl
      rw [← this, List.drop_drop]
    simp only [pairs, List.mem_cons] at hp
    rcases hp with rfl | hp
    · exact h0
    · exact pairs_mem gs fs (i + 1) h1 p hp

def greedyK : (fuel : Nat) → (rem : List (Nat × Inf)) → (done : Nat) → List (Nat × Inf)
  | 0, _, _ => []
  | n + 1, rem, done =>
    match rem.find? fun p => !p.2.eff && (p.2.em &&& done) == p.2.em with
    | some p => p :: greedyK n (rem.eraseP fun q => q.1 == p.1) (done ||| 2 ^ p.1)
    | none => match rem.find? fun p => (p.2.em &&& done) == p.2.em with
      | some p => p :: greedyK n (rem.eraseP fun q => q.1 == p.1) (done ||| 2 ^ p.1)
      | none => []

theorem erase_map (i : Nat) : ∀ (rem : List (Nat × Inf)), (rem.map (·.1)).erase i = (rem.eraseP fun q => q.1 == i).map (·.1)
  | [] => rfl
  | p :: rem => by
    by_cases h : p.1 = i
    · subst h; simp
    · have : (p.1 == i) = false := by simpa using h
      simp only [List.map_cons, List.erase_cons, this, List.eraseP_cons, Bool.false_eq_true, if_false, List.map_cons, erase_map i rem]
      rfl

theorem find_map {fs : List Inf} (g : Inf → Bool) : ∀ (rem : List (Nat × Inf)), (∀ p ∈ rem, fs[p.1]? = some p.2) → (rem.map (·.1)).find? (fun i => (fs[i]?).any g) = (rem.find? fun p => g p.2).map (·.1)
  | [], _ => rfl
  | p :: rem, h => by
    have h0 := h p (by simp)
    have ih := find_map g rem fun q hq => h q (by simp [hq])
    simp only [List.map_cons, List.find?_cons, h0, Option.any_some]
    cases g p.2 with
    | true => rfl
    | false => exact ih

theorem greedyK_eq {fs : List Inf} : ∀ (n : Nat) (rem : List (Nat × Inf)) (done : Nat), (∀ p ∈ rem, fs[p.1]? = some p.2) → (greedyK n rem done).map (·.1) = greedy fs n (rem.map (·.1)) done ∧ ∀ p ∈ greedyK n rem done, fs[p.1]? = some p.2
  | 0, rem, done, h => ⟨rfl, fun p hp => by simp [greedyK] at hp⟩
  | n + 1, rem, done, h => by
    have h1 := find_map (fs := fs) (fun f => !f.eff && (f.em &&& done) == f.em) rem h
    have h2 := find_map (fs := fs) (fun f => (f.em &&& done) == f.em) rem h
    unfold greedyK greedy
    rw [h1, h2]
    cases e1 : rem.find? (fun p => !p.2.eff && (p.2.em &&& done) == p.2.em) with
    | some p =>
      have ih := greedyK_eq (fs := fs) n (rem.eraseP fun q => q.1 == p.1) (done ||| 2 ^ p.1) fun q hq => h q (List.mem_of_mem_eraseP hq)
      simp only [Option.map_some, List.map_cons, erase_map]
      refine ⟨by rw [ih.1], fun q hq => ?_⟩
      rcases List.mem_cons.1 hq with rfl | hq
      · exact h _ (List.mem_of_find?_eq_some e1)
      · exact ih.2 q hq
    | none =>
      simp only [Option.map_none]
      cases e2 : rem.find? (fun p => (p.2.em &&& done) == p.2.em) with
      | some p =>
        have ih := greedyK_eq (fs := fs) n (rem.eraseP fun q => q.1 == p.1) (done ||| 2 ^ p.1) fun q hq => h q (List.mem_of_mem_eraseP hq)
        simp only [Option.map_some, List.map_cons, erase_map]
        refine ⟨by rw [ih.1], fun q hq => ?_⟩
        rcases List.mem_cons.1 hq with rfl | hq
        · exact h _ (List.mem_of_find?_eq_some e2)
        · exact ih.2 q hq
      | none => exact ⟨rfl, fun p hp => by simp at hp⟩

def orderK (size : Nat) : List (Nat × Inf) → (done : List (Nat × Inf)) → (doneM effs : Nat) → Bool
  | [], _, doneM, _ => doneM == 2 ^ size - 1
  | (i, f) :: rest, done, doneM, effs =>
    !doneM.testBit i && (f.em &&& doneM) == f.em && (effs &&& f.am) == effs &&
    ((doneM &&& f.am) == doneM || done.all fun p => f.am.testBit p.1 || !clash p.2 f) &&
    orderK size rest ((i, f) :: done) (doneM ||| 2 ^ i) (if f.eff then effs ||| 2 ^ i else effs)

theorem orderK_eq {fs : List Inf} : ∀ (order done : List (Nat × Inf)) (doneM effs : Nat), (∀ p ∈ order, fs[p.1]? = some p.2) → (∀ p ∈ done, fs[p.1]? = some p.2 ∧ doneM.testBit p.1 = true) →
    orderK fs.length order done doneM effs = orderOk fs (order.map (·.1)) (done.map (·.1)) doneM effs
  | [], done, doneM, effs, _, _ => rfl
  | (i, f) :: rest, done, doneM, effs, h, hd => by
    have h0 := h (i, f) (by simp)
    simp only at h0
    have ih := orderK_eq (fs := fs) rest ((i, f) :: done) (doneM ||| 2 ^ i) (if f.eff then effs ||| 2 ^ i else effs) (fun q hq => h q (by simp [hq])) (fun q hq => by
      rcases List.mem_cons.1 hq with rfl | hq
      · refine ⟨h0, ?_⟩
        simp [Nat.testBit_or, Nat.testBit_two_pow_self]
      · refine ⟨(hd q hq).1, ?_⟩
        simp [Nat.testBit_or, (hd q hq).2])
    simp only [orderK, orderOk, List.map_cons, h0]
    rw [ih]
    congr 1
    congr 1
    rw [List.all_map]
    rw [show (done.all (_ ∘ fun x => x.1)) = done.all (fun p => f.am.testBit p.1 || !clash p.2 f) from by
      apply Bool.eq_iff_iff.2
      simp only [List.all_eq_true, Function.comp]
      constructor
      · intro q p hp
        have := q p hp
        rw [(hd p hp).1] at this
        simp only at this
        rw [Bool.or_comm]; exact this
      · intro q p hp
        have := q p hp
        rw [(hd p hp).1]
        simp only
        rw [Bool.or_comm]; exact this]
    cases hq : ((doneM &&& f.am) == doneM) with
    | false => rfl
    | true =>
      symm
      simp only [Bool.true_or]
      rw [List.all_eq_true]
      intro p hp
      have e : doneM &&& f.am = doneM := by simpa using hq
      have b := (hd p hp).2
      rw [← e, Nat.testBit_and] at b
      simp only [Bool.and_eq_true] at b
      simp [b.2]

/-! ### Regions that draw -/
structure OwedK where
  idx : Nat
  q : KR
  t : Tv
  v : Value

def payK : (am : Nat) → Hp → List OwedK → Bool → Bool
  | _, _, [], r => r
  | am, h, d :: owed, r => match am.testBit d.idx with
    | true => payK am h owed r
    | false => (d.q.run d.t h).any (sameV 100 d.v) && payK am h owed r

inductive OwR (n : Nat) : List OwedK → List Owed → Prop where
  | nil : OwR n [] []
  | cons {i : Nat} {op : Op} {t : Tv} {tm : List Value} {v : Value} {a : List OwedK} {b : List Owed} : RT n t tm → OwR n a b → OwR n (⟨i, krop P n op, t, v⟩ :: a) (⟨i, op, tm, v⟩ :: b)

theorem payK_eq {n : Nat} (m am : Nat) (h : Hp) {a : List OwedK} {b : List Owed} (ho : OwR P n a b) (r : Bool) : payK am h a r = payAll P (alB m) am h b r := by
  induction ho with
  | nil => rfl
  | cons hR _ ih =>
    simp only [payK, payAll, List.foldr_cons] at ih ⊢
    rw [← ih]
    cases hb : am.testBit _ with
    | true => simp
    | false => simp only [krop_eq P hR]; rfl

structure KD where
  run : CF → List (Option Value) → Tv → List OwedK → Hp → (Tv → Hp → Bool) → Bool

def kdraw1 (n m : Nat) (ops : List Oper) (i am : Nat) (o : Oper) (r : KD) : KD :=
  let w := kset n o.dst
  let go : KD :=
    match kind P o.op with
    | .pure => let q := kpop P n o.op; ⟨fun cF pre t owed h k => opt false (q.run t) fun v => r.run cF pre (w.run v t) owed h k⟩
    | .read => let q := krop P n o.op; ⟨fun cF pre t owed h k => opt false (q.run t h) fun v => r.run cF pre (w.run v t) (⟨i, q, t, v⟩ :: owed) h k⟩
    | .eff => let q := keop P n o.op; ⟨fun cF pre t owed h k => opt false (q.run t h) fun x => payK am x.2 owed (r.run cF pre (w.run x.1 t) owed x.2 k)⟩
    | .call => let q := kcall P n o.op; ⟨fun cF pre t owed h k => opt false (q.run t) fun fa => cF fa.1 fa.2 h fun v h' => payK am h' owed (r.run cF pre (w.run v t) owed h' k)⟩
    | .alt => ⟨fun cF pre t owed h k => opt false (aop (toL t n 0) o.op h) fun l => (alB m).all (l.map fun x => payK am x.2 owed (r.run cF pre (w.run x.1 t) owed x.2 k))⟩
    | .mk => let q := kmk P n o.op; ⟨fun cF pre t owed h k => opt false (q.run t h) fun x => r.run cF pre (w.run x.1 t) owed x.2 k⟩
  let no : KD :=
    match kind P o.op with
    | .pure | .read | .mk => ⟨fun cF pre t owed h k => r.run cF pre (w.run undef t) owed h k⟩
    | .eff | .call | .alt => ⟨fun cF pre t owed h k => payK am h owed (r.run cF pre (w.run undef t) owed h k)⟩
  let g := kwants ops o
  match isAlloc o.op with
  | true => ⟨fun cF pre t owed h k => match g.run t with
      | none => false
      | some b => match pre.getD i none with
        | some v => r.run cF pre (w.run (if b then v else undef) t) owed h k
        | none => match b with
          | true => go.run cF pre t owed h k
          | false => no.run cF pre t owed h k⟩
  | false => match o.guard with
    | none => go
    | some _ => ⟨fun cF pre t owed h k => match g.run t with
      | none => false
      | some true => go.run cF pre t owed h k
      | some false => no.run cF pre t owed h k⟩

def kdraw (n m : Nat) (ops : List Oper) : List (Nat × Inf) → KD
  | [] => ⟨fun _ _ t _ h k => k t h⟩
  | (i, f) :: rest =>
    match ops[i]? with
    | some o => kdraw1 P n m ops i f.am o (kdraw n m ops rest)
    | none => ⟨fun _ _ _ _ _ _ => false⟩

theorem kdraw_eq {n : Nat} (m : Nat) (cF : CF) (ops : List Oper) (fs : List Inf) (pre pre' : List (Option Value)) (hpre : ∀ i o, ops[i]? = some o → isAlloc o.op = false → pre.getD i none = none) (hpre' : ∀ i o, ops[i]? = some o → isAlloc o.op = true → pre'.getD i none = pre.getD i none)
    {k' : Tv → Hp → Bool} {k : List Value → Hp → Bool} (hk : ∀ t tm h, RT n t tm → k' t h = k tm h) : ∀ (order : List (Nat × Inf)), (∀ p ∈ order, fs[p.1]? = some p.2) → ∀ {t : Tv} {tm : List Value} (hR : RT n t tm) {a : List OwedK} {b : List Owed} (ho : OwR P n a b) (h : Hp),
    (kdraw P n m ops order).run cF pre' t a h k' = xDraw P (alB m) cF ops fs pre (order.map (·.1)) tm b h k
  | [], _, t, tm, hR, a, b, ho, h => hk t tm h hR
  | (i, f) :: rest, hf, t, tm, hR, a, b, ho, h => by
    have ih := @kdraw_eq n m cF ops fs pre pre' hpre hpre' k' k hk rest fun q hq => hf q (by simp [hq])
    have e2 := hf (i, f) (by simp)
    simp only at e2
    show _ = xDraw P (alB m) cF ops fs pre (i :: rest.map (·.1)) tm b h k
    simp only [kdraw]
    cases e1 : ops[i]? with
    | none => simp only [xDraw, e1]; rfl
    | some o =>
    have hgo : ∀ (hp : pre.getD i none = none), wants ops tm o = some true → (match kind P o.op with
          | .pure => (let q := kpop P n o.op; ⟨fun cF pre t owed h k => opt false (q.run t) fun v => (kdraw P n m ops rest).run cF pre ((kset n o.dst).run v t) owed h k⟩ : KD)
          | .read => let q := krop P n o.op; ⟨fun cF pre t owed h k => opt false (q.run t h) fun v => (kdraw P n m ops rest).run cF pre ((kset n o.dst).run v t) (⟨i, q, t, v⟩ :: owed) h k⟩
          | .eff => let q := keop P n o.op; ⟨fun cF pre t owed h k => opt false (q.run t h) fun x => payK f.am x.2 owed ((kdraw P n m ops rest).run cF pre ((kset n o.dst).run x.1 t) owed x.2 k)⟩
          | .call => let q := kcall P n o.op; ⟨fun cF pre t owed h k => opt false (q.run t) fun fa => cF fa.1 fa.2 h fun v h' => payK f.am h' owed ((kdraw P n m ops rest).run cF pre ((kset n o.dst).run v t) owed h' k)⟩
          | .alt => ⟨fun cF pre t owed h k => opt false (aop (toL t n 0) o.op h) fun l => (alB m).all (l.map fun (x : Value × Hp) => payK f.am x.2 owed ((kdraw P n m ops rest).run cF pre ((kset n o.dst).run x.1 t) owed x.2 k))⟩
          | .mk => let q := kmk P n o.op; ⟨fun cF pre t owed h k => opt false (q.run t h) fun x => (kdraw P n m ops rest).run cF pre ((kset n o.dst).run x.1 t) owed x.2 k⟩).run cF pre' t a h k' =
        xDraw P (alB m) cF ops fs pre (i :: rest.map (·.1)) tm b h k := by
      intro hp hw
      simp only [xDraw, e1, e2, hw, hp, if_true]
      cases hkd : kind P o.op <;> simp only [kpop_eq P hR, krop_eq P hR, keop_eq P hR, kcall_eq P hR, kmk_eq P hR, hR.toL]
      · congr 1; funext v; exact ih (hR.set _ _) ho _
      · congr 1; funext v; exact ih (hR.set _ _) (.cons hR ho) _
      · congr 1; funext v; rw [payK_eq P m _ _ ho, ih (hR.set _ _) ho]
      · congr 1; funext fa; congr 1; funext v h'; rw [payK_eq P m _ _ ho, ih (hR.set _ _) ho]
      · congr 1; funext l; congr 1; congr 1; funext x; rw [payK_eq P m _ _ ho, ih (hR.set _ _) ho]
      · congr 1; funext v; exact ih (hR.set _ _) ho _
    have hno : ∀ (hp : pre.getD i none = none), wants ops tm o = some false → (match kind P o.op with
          | .pure | .read | .mk => (⟨fun cF pre t owed h k => (kdraw P n m ops rest).run cF pre ((kset n o.dst).run undef t) owed h k⟩ : KD)
          | .eff | .call | .alt => ⟨fun cF pre t owed h k => payK f.am h owed ((kdraw P n m ops rest).run cF pre ((kset n o.dst).run undef t) owed h k)⟩).run cF pre' t a h k' =
        xDraw P (alB m) cF ops fs pre (i :: rest.map (·.1)) tm b h k := by
      intro hp hw
      simp only [xDraw, e1, e2, hw, hp, Bool.false_eq_true, if_false]
      cases hkd : kind P o.op <;> simp only [opt]
      · exact ih (hR.set _ _) ho _
      · exact ih (hR.set _ _) ho _
      · rw [payK_eq P m _ _ ho, ih (hR.set _ _) ho]
      · rw [payK_eq P m _ _ ho, ih (hR.set _ _) ho]
      · rw [payK_eq P m _ _ ho, ih (hR.set _ _) ho]
      · exact ih (hR.set _ _) ho _
    simp only
    unfold kdraw1
    simp only
    cases ha : isAlloc o.op with
    | true =>
      simp only [kwants_eq hR]
      cases hw : wants ops tm o with
      | none => simp only [xDraw, e1, e2, hw]; rfl
      | some b' =>
        simp only [hpre' i o e1 ha]
        cases hp : pre.getD i none with
        | some v =>
          simp only [xDraw, e1, e2, hw, hp]
          exact ih (hR.set _ _) ho _
        | none =>
          cases b' with
          | true => exact hgo hp hw
          | false => exact hno hp hw
    | false =>
      have hp := hpre i o e1 ha
      simp only
      cases hg : o.guard with
      | none => exact hgo hp (by unfold wants; rw [hg])
      | some g =>
        simp only [kwants_eq hR]
        cases hw : wants ops tm o with
        | none => simp only [xDraw, e1, e2, hw]; rfl
        | some b' =>
          cases b' with
          | true => exact hgo hp hw
          | false => exact hno hp hw

theorem preAlloc_none : ∀ (ops : List Oper) (h h' : Hp) (pre : List (Option Value)), preAlloc P ops h = some (pre, h') → ∀ i o, ops[i]? = some o → isAlloc o.op = false → pre.getD i none = none
  | [], h, h', pre, _, i, o, ho, _ => by simp at ho
  | a :: rest, h, h', pre, hp, i, o, ho, hn => by
    unfold preAlloc at hp
    split at hp
    · rename_i e he
      split at hp
      · split at hp
        · split at hp
          · rename_i l h2 hr
            simp only [Option.some.injEq, Prod.mk.injEq] at hp
            obtain ⟨rfl, rfl⟩ := hp
            cases i with
            | zero =>
              simp at ho; subst ho
              rw [he] at hn
              simp [isAlloc] at hn
            | succ i =>
              simp only [List.getD_cons_succ]
              exact preAlloc_none rest _ _ _ hr i o (by simpa using ho) hn
          · simp at hp
        · simp at hp
      · simp at hp
    · split at hp
      · rename_i l h2 hr
        simp only [Option.some.injEq, Prod.mk.injEq] at hp
        obtain ⟨rfl, rfl⟩ := hp
        cases i with
        | zero => rfl
        | succ i =>
          simp only [List.getD_cons_succ]
          exact preAlloc_none rest _ _ _ hr i o (by simpa using ho) hn
      · simp at hp

theorem preAlloc_free : ∀ (ops : List Oper) (h : Hp), (ops.any fun o => isAlloc o.op) = false → ∃ pre, preAlloc P ops h = some (pre, h)
  | [], h, _ => ⟨[], rfl⟩
  | a :: rest, h, hn => by
    simp only [List.any_cons, Bool.or_eq_false_iff] at hn
    obtain ⟨pre, hp⟩ := preAlloc_free rest h hn.2
    unfold preAlloc
    split
    · rename_i e he; rw [he] at hn; simp [isAlloc] at hn
    · exact ⟨none :: pre, by rw [hp]⟩

def kregion (n m : Nat) (ops : List Oper) : KL :=
  let fs := infos P ops
  let order := greedyK ops.length (pairs fs 0) 0
  match orderK fs.length order [] 0 0 with
  | true =>
    let d := kdraw P n m ops order
    match ops.any fun o => isAlloc o.op with
    | true => ⟨fun cF t h k => match preAlloc P ops h with
      | some r => d.run cF r.1 t [] r.2 k
      | none => false⟩
    | false => ⟨fun cF t h k => d.run cF [] t [] h k⟩
  | false => ⟨fun _ _ _ _ => false⟩
end
end Go.Cn

/- Evaluation that the kernel does fast (3): code and functions. -/
set_option linter.unusedVariables false
set_option linter.unusedSimpArgs false
namespace Go.Cn

section
variable (P : Program)

theorem kregion_eq {n : Nat} (m : Nat) (cF : CF) (ops : List Oper) {k' : Tv → Hp → Bool} {k : List Value → Hp → Bool} (hk : ∀ t tm h, RT n t tm → k' t h = k tm h) {t : Tv} {tm : List Value} (hR : RT n t tm) (h : Hp) :
    (kregion P n m ops).run cF t h k' = xRegion P (alB m) cF ops tm h k := by
  have hp := pairs_mem (infos P ops) (infos P ops) 0 rfl
  have hlen : ∀ (ops1 : List Oper) (acc : List Inf), (infosFrom P ops ops1 acc).length = acc.length + ops1.length := by
    intro ops1
    induction ops1 with
    | nil => intro acc; rfl
    | cons o l ih => intro acc; simp only [infosFrom, ih, List.length_append, List.length_cons, List.length_nil]; omega
  have hlen0 : (infos P ops).length = ops.length := by unfold infos; rw [hlen]; simp
  obtain ⟨g1, g2⟩ := greedyK_eq (fs := infos P ops) ops.length (pairs (infos P ops) 0) 0 hp
  have g3 : (greedyK ops.length (pairs (infos P ops) 0) 0).map (·.1) = greedy (infos P ops) ops.length (List.range ops.length) 0 := by
    rw [g1, pairs_fst, hlen0, List.range_eq_range']
  have g4 := orderK_eq (fs := infos P ops) (greedyK ops.length (pairs (infos P ops) 0) 0) [] 0 0 g2 (fun p hp => by simp at hp)
  rw [g3] at g4
  simp only [List.map_nil] at g4
  unfold kregion xRegion
  simp only [g4]
  cases ho : orderOk (infos P ops) (greedy (infos P ops) ops.length (List.range ops.length) 0) [] 0 0 with
  | false => rfl
  | true =>
    simp only [if_true]
    cases ha : (ops.any fun o => isAlloc o.op) with
    | true =>
      simp only
      cases hpa : preAlloc P ops h with
      | none => rfl
      | some r =>
        simp only [opt]
        rw [← g3]
        exact kdraw_eq P m cF ops (infos P ops) r.1 r.1 (preAlloc_none P ops h r.2 r.1 (by rw [hpa])) (fun _ _ _ _ => rfl) hk _ g2 hR .nil r.2
    | false =>
      obtain ⟨pre, hpa⟩ := preAlloc_free P ops h ha
      simp only [hpa, opt]
      rw [← g3]
      refine kdraw_eq P m cF ops (infos P ops) pre [] (preAlloc_none P ops h h pre hpa) (fun i o hi hal => ?_) hk _ g2 hR .nil h
      exfalso
      have : (ops.any fun o => isAlloc o.op) = true := List.any_eq_true.2 ⟨o, List.mem_of_getElem? hi, hal⟩
      rw [ha] at this
      simp at this

/-! ### Code -/
/-- All slots go on. -/
def annE : Nat → List Tmp := fun i => if i ≥ 1000000 then [] else [999999999]
theorem annE_join (b : Code) : annE (joinId b) = [] := by unfold annE joinId; rw [if_pos (by omega)]

def loopT (body : (Exit → Tv → Hp → Bool) → Tv → Hp → Bool) (k : Exit → Tv → Hp → Bool) : Nat → Tv → Hp → Bool
  | 0, _, _ => false
  | n + 1, t, h => body (fun e t h' => match e with
      | .normal => loopT body k n t h'
      | e => k e t h') t h

theorem loopT_eq {n : Nat} {b' : (Exit → Tv → Hp → Bool) → Tv → Hp → Bool} {b : (Exit → List Value → Hp → Bool) → List Value → Hp → Bool} {k' : Exit → Tv → Hp → Bool} {k : Exit → List Value → Hp → Bool}
    (hb : ∀ {k' : Exit → Tv → Hp → Bool} {k : Exit → List Value → Hp → Bool}, (∀ e t tm h, RT n t tm → k' e t h = k e tm h) → ∀ {t tm} (h : Hp), RT n t tm → b' k' t h = b k tm h)
    (hk : ∀ e t tm h, RT n t tm → k' e t h = k e tm h) : ∀ (m : Nat) {t tm} (h : Hp), RT n t tm → loopT b' k' m t h = loopW false b k m tm h
  | 0, t, tm, h, hR => rfl
  | m + 1, t, tm, h, hR => by
    unfold loopT loopW
    refine hb (fun e t tm h' hR' => ?_) h hR
    cases e <;> first | exact loopT_eq hb hk m h' hR' | exact hk _ _ _ _ hR'

/-- Do all loops have a number below the joints'? -/
def small : Code → Bool
  | .seq a b => small a && small b
  | .cond _ a b => small a && small b
  | .block _ c => small c
  | .scope c => small c
  | .loop c => decide ((firstRegion c).getD 0 < 1000000) && small c
  | _ => true

structure KX where
  run : Cx → CF → (Exit → Tv → Hp → Bool) → Tv → Hp → Bool

def kcode (n m : Nat) : Code → KX
  | .skip => ⟨fun _ _ k t h => k .normal t h⟩
  | .region _ ops false => let r := kops P n ops.toList ops.toList; ⟨fun _ cF k t h => r.run cF t h fun t h => k .normal t h⟩
  | .region _ ops true => let r := kregion P n m ops.toList; ⟨fun _ cF k t h => r.run cF t h fun t h => k .normal t h⟩
  | .seq a b =>
    let x := kcode n m a
    let y := kcode n m b
    ⟨fun cx cF k t h => x.run cx cF (fun e t h => match e with
        | .normal => y.run cx cF k t h
        | e => k e t h) t h⟩
  | .cond c a b =>
    let q := kev c
    let x := kcode n m a
    let y := kcode n m b
    ⟨fun cx cF k t h => match q.run t with
      | .bool true => x.run cx cF k t h
      | .bool false => y.run cx cF k t h
      | _ => false⟩
  | .block id c =>
    let x := kcode n m c
    ⟨fun cx cF k t h => x.run cx cF (fun e t h => match e with
      | .exit i => if i = id then k .normal t h else k (.exit i) t h
      | e => k e t h) t h⟩
  | .loop c =>
    let x := kcode n m c
    ⟨fun cx cF k t h => loopT (fun k t h => x.run cx cF k t h) k m t h⟩
  | .exit id => ⟨fun _ _ k t h => k (.exit id) t h⟩
  | .ret => ⟨fun _ _ k t h => k .ret t h⟩
  | .label _ => ⟨fun _ _ k t h => k .normal t h⟩
  | .scope c =>
    let x := kcode n m c
    ⟨fun cx cF k t h => x.run cx cF (fun e t h => match e with
      | .goto _ => false
      | e => k e t h) t h⟩
  | .rangeFunc g ps asg body =>
    let q := kev g
    ⟨fun cx cF k t h => if cx.ok h then
      match q.run t with
      | .func (.func f) first captured =>
        if f < P.funcs.size then
          cF f (first.toList ++ [.func (.yield h.next) #[] #[]] ++ captured.toList) (h.newOb (.loop ⟨.ready, none, cx.me, toL t n 0, ps.toList, asg, body⟩)) fun _ h' => leaveX false h.next [] (fun e _ h => k e t h) h'
        else false
      | _ => false
    else false⟩
  | _ => ⟨fun _ _ _ _ _ => false⟩

theorem leaveX_tm (l : Nat) (tm : List Value) {k' k : Exit → List Value → Hp → Bool} (hk : ∀ e h, k' e [] h = k e tm h) (h : Hp) : leaveX false l [] k' h = leaveX false l tm k h := by
  unfold leaveX
  cases loopAt h l with
  | none => rfl
  | some r =>
    simp only [hk]

theorem kcode_eq (m : Nat) (cF : CF) (cx : Cx) {n : Nat} : ∀ (c : Code) (hs : small c = true) {k' : Exit → Tv → Hp → Bool} {k : Exit → List Value → Hp → Bool}, (∀ e t tm h, RT n t tm → k' e t h = k e tm h) → ∀ {t tm} (h : Hp), RT n t tm →
    (kcode P n m c).run cx cF k' t h = xC P (alB m) cF cx annE c k tm h
  | .skip, _, k', k, hk, t, tm, h, hR => hk _ _ _ _ hR
  | .exit id, _, k', k, hk, t, tm, h, hR => hk _ _ _ _ hR
  | .ret, _, k', k, hk, t, tm, h, hR => hk _ _ _ _ hR
  | .label l, _, k', k, hk, t, tm, h, hR => hk _ _ _ _ hR
  | .region id ops false, _, k', k, hk, t, tm, h, hR => by
    simp only [kcode, xC]
    exact kops_eq P m cF _ (k' := fun t h => k' .normal t h) (k := fun tm h => k .normal tm h) (fun t tm h hR => hk .normal t tm h hR) _ hR h
  | .region id ops true, _, k', k, hk, t, tm, h, hR => by
    simp only [kcode, xC]
    exact kregion_eq P m cF _ (k' := fun t h => k' .normal t h) (k := fun tm h => k .normal tm h) (fun t tm h hR => hk .normal t tm h hR) hR h
  | .seq a b, hs, k', k, hk, t, tm, h, hR => by
    simp only [small, Bool.and_eq_true] at hs
    simp only [kcode, xC, annE_join, joinT]
    refine kcode_eq m cF cx a hs.1 (fun e t tm h hR => ?_) h hR
    cases e <;> first | exact kcode_eq m cF cx b hs.2 hk h hR | exact hk _ _ _ _ hR
  | .cond c a b, hs, k', k, hk, t, tm, h, hR => by
    simp only [small, Bool.and_eq_true] at hs
    have iha := kcode_eq m cF cx a hs.1 hk h hR
    have ihb := kcode_eq m cF cx b hs.2 hk h hR
    simp only [kcode, xC, kev_eq hR]
    generalize ev tm c = x
    cases x with
    | bool u => cases u with
      | true => exact iha
      | false => exact ihb
    | _ => rfl
  | .block id c, hs, k', k, hk, t, tm, h, hR => by
    simp only [small] at hs
    simp only [kcode, xC]
    refine kcode_eq m cF cx c hs (fun e t tm h hR => ?_) h hR
    cases e <;> simp only [hk _ _ _ _ hR]
  | .loop c, hs, k', k, hk, t, tm, h, hR => by
    simp only [small, Bool.and_eq_true, decide_eq_true_eq] at hs
    simp only [kcode, xC]
    have hka : keepAll (annE ((firstRegion c).getD 0)) = true := by unfold annE; rw [if_neg (by omega)]; rfl
    rw [if_pos hka]
    exact loopT_eq (n := n) (fun {k' k} hk {t tm} h hR => kcode_eq m cF cx c hs.2 hk h hR) hk m h hR
  | .scope c, hs, k', k, hk, t, tm, h, hR => by
    simp only [small] at hs
    simp only [kcode, xC]
    refine kcode_eq m cF cx c hs (fun e t tm h hR => ?_) h hR
    cases e <;> first | rfl | exact hk _ _ _ _ hR
  | .rangeFunc g ps x y, _, k', k, hk, t, tm, h, hR => by
    simp only [kcode, xC, kev_eq hR, hR.toL]
    split
    · generalize ev tm g = z
      cases z with
      | func f first captured => cases f with
        | func f =>
          simp only
          split
          · congr 1
            funext v h'
            exact leaveX_tm _ _ (fun e h => hk _ _ _ _ hR) _
          · rfl
        | _ => rfl
      | _ => rfl
    · rfl
  | .goto l, _, k', k, hk, t, tm, h, hR => rfl
  | .refuse s, _, k', k, hk, t, tm, h, hR => rfl

/-! ### Functions -/
def krv (r : ResultVar) : KR :=
  match r with
  | .tmp i => let g := gt i; ⟨fun t _ => some (g.run t)⟩
  | .cell a ty => let g := gt a; ⟨fun t h => cload P ty (g.run t) h⟩

structure KM where
  run : Tv → Hp → Option (List Value)
def krvs : List ResultVar → KM
  | [] => ⟨fun _ _ => some []⟩
  | r :: rs =>
    let q := krv P r
    let qs := krvs rs
    ⟨fun t h => match q.run t h with
      | some v => match qs.run t h with
        | some l => some (v :: l)
        | none => none
      | none => none⟩

def kres (rs : List ResultVar) : KR :=
  match rs with
  | [] => ⟨fun _ _ => some (.tuple #[])⟩
  | [r] => krv P r
  | rs => let q := krvs P rs; ⟨fun t h => match q.run t h with
    | some [v] => some v
    | some vs => some (.tuple vs.toArray)
    | none => none⟩

theorem krv_eq {n : Nat} {t : Tv} {tm : List Value} (hR : RT n t tm) (r : ResultVar) (h : Hp) : (krv P r).run t h = (match r with
    | .tmp t => some (tm.getD t undef)
    | .cell a t => cload P t (tm.getD a undef) h) := by
  cases r <;> simp only [krv, hR.get]

theorem krvs_eq {n : Nat} {t : Tv} {tm : List Value} (hR : RT n t tm) (h : Hp) : ∀ rs, (krvs P rs).run t h = rs.mapM fun r => match r with
    | .tmp t => some (tm.getD t undef)
    | .cell a t => cload P t (tm.getD a undef) h
  | [] => rfl
  | r :: rs => by
    simp only [krvs, List.mapM_cons, krv_eq P hR, krvs_eq hR h rs]
    cases r with
    | tmp i =>
      simp only
      cases hq : List.mapM (fun r => match r with
        | ResultVar.tmp t => some (tm.getD t undef)
        | ResultVar.cell a t => cload P t (tm.getD a undef) h) rs <;> simp [bind, pure, hq]
    | cell a ty =>
      simp only
      cases cload P ty (tm.getD a undef) h with
      | none => rfl
      | some v =>
        cases hq : List.mapM (fun r => match r with
          | ResultVar.tmp t => some (tm.getD t undef)
          | ResultVar.cell a t => cload P t (tm.getD a undef) h) rs <;> simp [bind, pure, hq]

theorem kres_eq {n : Nat} {t : Tv} {tm : List Value} (hR : RT n t tm) (fn : Func) (h : Hp) : (kres P fn.results.toList).run t h = resultsOf P fn tm h := by
  unfold resultsOf
  have hq := krvs_eq P hR h fn.results.toList
  generalize fn.results.toList = rs at hq ⊢
  match rs with
  | [] => rfl
  | [r] =>
    simp only [kres]
    rw [krv_eq P hR]
    cases r with
    | tmp i => rfl
    | cell a ty =>
      simp only [List.mapM_cons, List.mapM_nil]
      cases cload P ty (tm.getD a undef) h <;> rfl
  | a :: b :: l =>
    simp only [kres, hq]
    rfl

structure KF where
  run : CF → List Value → Hp → (Value → Hp → Bool) → Bool

def kfunc (m : Nat) (f : FuncId) (fn : Func) (c : Code) : KF :=
  match small c with
  | true =>
    let n := fn.ntmps
    let x := kcode P n m c
    let q := kres P fn.results.toList
    let cx : Cx := ⟨f, none⟩
    ⟨fun cF args h k => match decide (args.length ≤ n) with
      | true => x.run cx cF (fun e t h' => match e with
        | .normal | .ret => opt false (q.run t h') fun v => k v h'
        | _ => false) (ofL args 0 .leaf) h
      | false => bodyX P (alB m) cF f annE fn c args h k⟩
  | false => ⟨fun cF args h k => bodyX P (alB m) cF f annE fn c args h k⟩

theorem kfunc_eq (m : Nat) (cF : CF) (f : FuncId) (fn : Func) (c : Code) (args : List Value) (h : Hp) (k : Value → Hp → Bool) : (kfunc P m f fn c).run cF args h k = bodyX P (alB m) cF f annE fn c args h k := by
  unfold kfunc
  cases hs : small c with
  | false => rfl
  | true =>
    simp only
    cases hd : decide (args.length ≤ fn.ntmps) with
    | false => rfl
    | true =>
      simp only
      unfold bodyX
      refine kcode_eq P m cF _ c hs (fun e t tm h' hR => ?_) h (RT.args (by simpa using hd))
      cases e <;> simp only [kres_eq P hR] <;> rfl

theorem setArgs_length : ∀ (ps : List Tmp) (args tm : List Value), (setArgs ps args tm).length = tm.length
  | [], _, _ => by simp [setArgs]
  | p :: ps, [], _ => by simp [setArgs]
  | p :: ps, a :: args, tm => by simp [setArgs, setArgs_length ps args]

/-- A round. -/
def kround (m : Nat) (cF : CF) (l : Nat) (args : List Value) (h : Hp) (k : Value → Hp → Bool) : Bool :=
  match loopAt h l with
  | some r =>
    match (P.funcs[r.fn]?).map (·.ntmps) with
    | some n =>
      match decide (r.tm.length = n) && small r.assign && small r.body with
      | true =>
        if r.params.length = args.length then
          (kcode P n m r.assign).run ⟨r.fn, some l⟩ cF (fun e t h => match e with
            | .normal => match loopAt h l with
              | some r' => if r'.state = .ready then (kcode P n m r.body).run ⟨r.fn, some l⟩ cF (fun e _ h => endX false l k e h) t (h.setOb l (.loop { r' with state := .busy })) else false
              | none => false
            | _ => false) (ofL (setArgs r.params args r.tm) 0 .leaf) h
        else false
      | false => roundX P (alB m) cF (fun _ => annE) l args h k
    | none => roundX P (alB m) cF (fun _ => annE) l args h k
  | none => false

theorem kround_eq (m : Nat) (cF : CF) (l : Nat) (args : List Value) (h : Hp) (k : Value → Hp → Bool) : kround P m cF l args h k = roundX P (alB m) cF (fun _ => annE) l args h k := by
  unfold kround
  cases hl : loopAt h l with
  | none => unfold roundX; rw [hl]; rfl
  | some r =>
    simp only
    cases hn : (P.funcs[r.fn]?).map (·.ntmps) with
    | none => rfl
    | some n =>
      simp only
      cases hc : decide (r.tm.length = n) && small r.assign && small r.body with
      | false => rfl
      | true =>
        simp only [Bool.and_eq_true, decide_eq_true_eq] at hc
        obtain ⟨⟨h1, h2⟩, h3⟩ := hc
        subst h1
        simp only
        unfold roundX
        simp only [hl]
        split
        · have hR := RT.of (setArgs r.params args r.tm)
          rw [setArgs_length] at hR
          refine kcode_eq P m cF _ r.assign h2 (fun e t tm h hR => ?_) h hR
          cases e <;> try rfl
          simp only
          cases loopAt h l with
          | none => rfl
          | some r' =>
            simp only
            split
            · exact kcode_eq P m cF _ r.body h3 (k' := fun e _ h => endX false l k e h) (k := fun e _ h => endX false l k e h) (fun e t tm h hR => rfl) _ hR
            · rfl
        · rfl

/-! ### All functions in a tree -/
def trOf : List Func → Nat → Tr Func → Tr Func
  | [], _, t => t
  | x :: xs, i, t => trOf xs (i + 1) (Tr.set x (i + 1) i t)

theorem trOf_get : ∀ (l : List Func) (i : Nat) (t : Tr Func) (j : Nat), (trOf l i t).get j = if i ≤ j ∧ j < i + l.length then l[j - i]? else t.get j
  | [], i, t, j => by rw [if_neg (by simp only [List.length_nil]; omega)]; rfl
  | v :: vs, i, t, j => by
    simp only [trOf, trOf_get vs, List.length_cons]
    rw [Tr.get_set _ _ _ _ _ (by omega)]
    by_cases h1 : j = i
    · subst h1
      rw [if_neg (by omega), if_pos rfl, if_pos (by omega)]
      simp
    · by_cases h2 : i + 1 ≤ j ∧ j < i + 1 + vs.length
      · rw [if_pos h2, if_pos (by omega)]
        rw [show j - i = (j - (i + 1)) + 1 by omega]
        simp
      · rw [if_neg h2, if_neg h1, if_neg (by omega)]

def funsT : Tr Func := trOf P.funcs.toList 0 .leaf

theorem funsT_get (f : Nat) : (funsT P).get f = P.funcs[f]? := by
  unfold funsT
  rw [trOf_get]
  by_cases h : f < P.funcs.size
  · rw [if_pos (by simp; exact h)]; simp
  · rw [if_neg (by simp; omega), Array.getElem?_eq_none (by omega)]; rfl

structure KB where
  run : Option KF
/-- A function's closure. -/
def kfun (m : Nat) (f : FuncId) : Option (Option KF) :=
  match (funsT P).get f with
  | some fn => match fn.body with
    | some c => match mayCall fn with
      | true => some (some (kfunc P m f fn c))
      | false => some none
    | none => some none
  | none => none

/-- xG, fast. -/
def xK (m : Nat) (nat : FuncId → List Value → Hp → Option (Option Value)) : Nat → FuncId → List Value → Hp → (Value → Hp → Bool) → Bool
  | 0, _, _, _, _ => false
  | n + 1, f, args, h, k =>
    match nat f args h with
    | some (some v) => k v h
    | some none => false
    | none =>
      match kfun P m f with
      | some (some q) => q.run (xK m nat n) args h k
      | some none => false
      | none => kround P m (xK m nat n) (f - P.funcs.size) args h k

theorem xK_eq (m : Nat) (nat : FuncId → List Value → Hp → Option (Option Value)) : ∀ (n : Nat), xK P m nat n = xG P (alB m) nat (fun _ => annE) n
  | 0 => rfl
  | n + 1 => by
    funext f args h k
    simp only [xK, xG, xK_eq m nat n, kfun, funsT_get]
    cases hn : nat f args h with
    | some r => cases r <;> rfl
    | none =>
      simp only
      cases hf : P.funcs[f]? with
      | none => exact kround_eq P m _ _ _ _ _
      | some fn =>
        simp only
        cases hb : fn.body with
        | none => rfl
        | some c =>
          simp only
          cases hm : mayCall fn with
          | true => simp only [kfunc_eq]; rfl
          | false => rfl
end

section
variable {P : Program}
/-- A call without arguments, evaluated fast. -/
theorem closedK_bool (hm : P.follows .mixedOrders = true) {m n : Nat} {nat : FuncId → List Value → Hp → Option (Option Value)} (hn : NatOk P nat) {f : FuncId}
    (hx : xK P m nat n f [] Hp.empty (fun v _ => match v with | .bool b => b | _ => false) = true) : SCalls P f [] Hp.empty fun v _ => v = .bool true := by
  rw [xK_eq] at hx
  refine (xG_ok hm hn n f [] Hp.empty _ hx).mono fun v h' hv => ?_
  cases v with
  | bool b => simp at hv; rw [hv]
  | _ => simp at hv
end
end Go.Cn

/- A call that reads no memory of the caller's: its contract over the empty heap serves over every heap. -/
set_option linter.unusedVariables false
set_option linter.unusedSimpArgs false
namespace Go.Cn

section
variable {P : Program}
theorem SCalls.closed {f : FuncId} {h : Hp} {K : Value → Prop} (hlt : f < P.funcs.size) (hc : SCalls P f [] Hp.empty fun v _ => K v) (hk : ∀ v, K v → ∃ b, v = .bool b) : SCalls P f [] h fun v h' => K v ∧ h' = h := by
  have hc := hc.func hlt
  refine .inl ⟨hc.1, fun base σ w rargs hr hl => ?_⟩
  have hl' : LRel (fun _ => none) [] rargs.toList := ⟨hl.1, by simp⟩
  refine (hc.2 w.heap.size (fun _ => none) w rargs (HR_empty _ w (Nat.le_refl _)) hl').mono ?_
  rintro e w' ⟨v, v', h', σ', rfl, hv, hvr, _, he⟩
  obtain ⟨b, rfl⟩ := hk v hv
  have : v' = .bool b := hvr.bool_inv
  subst this
  refine ⟨_, _, h, σ, rfl, ⟨hv, rfl⟩, .bool b, hr.grown he.size he.below, ?_⟩
  exact ⟨Sg.le_refl σ, he.os, he.tape, he.output, he.size, fun k hk => he.below k (Nat.lt_of_lt_of_le hk hr.base_le), fun k hk _ => he.below k hk,
    fun b e h1 h2 => by rw [h1] at h2; simp at h2, Nat.le_refl _, fun b _ hb => ⟨rfl, rfl, hb⟩⟩

theorem closed_bool (hm : P.follows .mixedOrders = true) {m n : Nat} {ann : FuncId → Nat → List Tmp} {f : FuncId} (hlt : f < P.funcs.size)
    (hx : xF P (alB m) ann n f [] Hp.empty (fun v _ => match v with | .bool b => b | _ => false) = true) (h : Hp) : SCalls P f [] h fun v h' => v = .bool true ∧ h' = h := by
  refine SCalls.closed (K := fun v => v = .bool true) hlt ((xF_ok hm n f [] Hp.empty _ hx).mono ?_) ?_
  · intro v _ hv
    cases v with
    | bool b => simp at hv; rw [hv]
    | _ => simp at hv
  · rintro v rfl; exact ⟨_, rfl⟩
end
end Go.Cn
