/- Reasoning over canonical heaps: slices, append; whole numbers. -/
import Derived.Test.YtfkhjbfddeahaaaCoB
set_option linter.unusedVariables false
set_option linter.unusedSimpArgs false
namespace Go.Cn

/-! ### 1. Slices of elements of w cells -/
/-- A slice with these cells, in memory of group g. -/
structure Sl (h : Hp) (w : Nat) (g : Option Nat) (a : Option Addr) (l c : Nat) (cs : List Value) : Prop where
  le : l ≤ c
  len : cs.length = l * w
  mem : match a with
    | none => l = 0 ∧ c = 0
    | some ⟨b, o, sp⟩ => (sp = none ∨ sp = some w) ∧ (0 < l → ∃ CS, Blk h b g CS ∧ o + l * w ≤ CS.length ∧ (CS.drop o).take (l * w) = cs)

theorem Sl.nil (h : Hp) (w : Nat) (g : Option Nat) : Sl h w g none 0 0 [] := ⟨Nat.le_refl _, by simp, rfl, rfl⟩

theorem Sl.keep {S : Nat → Prop} {h h' : Hp} (k : Keep S h h') {w : Nat} {g : Option Nat} {a : Option Addr} {l c : Nat} {cs : List Value} (s : Sl h w g a l c cs) (hn : ∀ x, g = some x → ¬ S x) : Sl h' w g a l c cs := by
  refine ⟨s.le, s.len, ?_⟩
  have := s.mem
  cases a with
  | none => exact this
  | some a =>
    obtain ⟨b, o, sp⟩ := a
    obtain ⟨h1, this⟩ := this
    refine ⟨h1, fun h0 => ?_⟩
    obtain ⟨CS, h2, h3, h4⟩ := this h0
    exact ⟨CS, k.blk h2 hn, h3, h4⟩

theorem take_drop_sub {α : Type} {CS cs : List α} {o n i m : Nat} (h : (CS.drop o).take n = cs) (hi : i + m ≤ n) : (CS.drop (o + i)).take m = (cs.drop i).take m := by
  subst h
  rw [List.drop_take, List.take_take, List.drop_drop]
  congr 1
  omega

theorem Sl.cells {h : Hp} {w : Nat} {g : Option Nat} {a : Option Addr} {l c : Nat} {cs : List Value} (s : Sl h w g a l c cs) {i m : Nat} (hi : i + m ≤ l * w) (hl : 0 < l) : a.isSome = true ∧ h.cellsAt (blk a) (off a + i) m = some ((cs.drop i).take m) := by
  have h0 := s.mem
  cases a with
  | none => simp at h0; omega
  | some a =>
    obtain ⟨b, o, sp⟩ := a
    obtain ⟨h1, h0⟩ := h0
    obtain ⟨CS, h2, h3, h4⟩ := h0 hl
    refine ⟨rfl, ?_⟩
    show h.cellsAt b (o + i) m = _
    rw [h2.cells (by omega), take_drop_sub h4 hi]

/-- A slice of typed elements. -/
structure SlT {α : Type} (enc : α → List Value) (w : Nat) (h : Hp) (g : Option Nat) (a : Option Addr) (l c : Nat) (L : List α) : Prop where
  sl : Sl h w g a l c (L.flatMap enc)
  len : L.length = l

section
variable {α : Type} {enc : α → List Value} {w : Nat}

theorem flat_len (hw : ∀ x, (enc x).length = w) (L : List α) : (L.flatMap enc).length = L.length * w := by
  induction L with
  | nil => simp
  | cons x L ih => simp only [List.flatMap_cons, List.length_append, hw, ih, List.length_cons, Nat.succ_mul]; omega

theorem flat_get (hw : ∀ x, (enc x).length = w) {L : List α} {i j m : Nat} {x : α} (hx : L[i]? = some x) (hm : j + m ≤ w) : ((L.flatMap enc).drop (i * w + j)).take m = ((enc x).drop j).take m := by
  induction L generalizing i with
  | nil => simp at hx
  | cons y L ih =>
    cases i with
    | zero =>
      simp at hx; subst hx
      simp only [List.flatMap_cons, Nat.zero_mul, Nat.zero_add]
      rw [List.drop_append_of_le_length (by rw [hw]; omega), List.take_append_of_le_length (by rw [List.length_drop, hw]; omega)]
    | succ i =>
      simp only [List.getElem?_cons_succ] at hx
      simp only [List.flatMap_cons]
      rw [show (i + 1) * w + j = (enc y).length + (i * w + j) by rw [hw, Nat.succ_mul]; omega, ← List.drop_drop, List.drop_left]
      exact ih hx

theorem SlT.get (hw : ∀ x, (enc x).length = w) {h : Hp} {g : Option Nat} {a : Option Addr} {l c : Nat} {L : List α} (s : SlT enc w h g a l c L) {i j m : Nat} {x : α} (hx : L[i]? = some x) (hm : j + m ≤ w) :
    a.isSome = true ∧ h.cellsAt (blk a) (off a + i * w + j) m = some (((enc x).drop j).take m) := by
  have hi : i < l := by rw [← s.len]; exact (List.getElem?_eq_some_iff.mp hx).1
  have h1 : i * w + w ≤ l * w := by rw [← Nat.succ_mul]; exact Nat.mul_le_mul_right w hi
  have := s.sl.cells (i := i * w + j) (m := m) (by omega) (by omega)
  rw [flat_get hw hx hm] at this
  rw [Nat.add_assoc]
  exact this

theorem SlT.take (hw : ∀ x, (enc x).length = w) {h : Hp} {g : Option Nat} {a : Option Addr} {l c : Nat} {L : List α} (s : SlT enc w h g a l c L) {m : Nat} (hm : m ≤ l) : SlT enc w h g a m c (L.take m) := by
  have hl : (L.take m).length = m := by rw [List.length_take, s.len]; omega
  have hmw : m * w ≤ l * w := Nat.mul_le_mul_right w hm
  refine ⟨⟨Nat.le_trans hm s.sl.le, by rw [flat_len hw, hl], ?_⟩, hl⟩
  have h0 := s.sl.mem
  cases a with
  | none => exact ⟨by omega, h0.2⟩
  | some a =>
    obtain ⟨b, o, sp⟩ := a
    obtain ⟨h1, h0⟩ := h0
    refine ⟨h1, fun hm0 => ?_⟩
    obtain ⟨CS, h2, h3, h4⟩ := h0 (by omega)
    refine ⟨CS, h2, by omega, ?_⟩
    have e : L.flatMap enc = (L.take m).flatMap enc ++ (L.drop m).flatMap enc := by rw [← List.flatMap_append, List.take_append_drop]
    have := take_drop_sub h4 (i := 0) (m := m * w) (by omega)
    rw [Nat.add_zero, e] at this
    rw [this, List.drop_zero, List.take_append_of_le_length (by rw [flat_len hw, hl]; exact Nat.le_refl _), List.take_of_length_le (by rw [flat_len hw, hl]; exact Nat.le_refl _)]

theorem SlT.drop1 (hw : ∀ x, (enc x).length = w) {h : Hp} {g : Option Nat} {a : Option Addr} {l c : Nat} {x : α} {L : List α} (s : SlT enc w h g a l c (x :: L)) :
    SlT enc w h g (cutA 1 w a) (diffN (natI l) 1) (diffN (natI c) 1) L ∧ cutOk 1 (natI l) (natI c) (natI c) ∧ spotOk w a ∧ 0 < l := by
  have hl : L.length + 1 = l := by simpa using s.len
  have hLl : L.length = l - 1 := by omega
  have hle := s.sl.le
  have e1 : diffN (natI l) 1 = l - 1 := by simp [diffN, natI]
  have e2 : diffN (natI c) 1 = c - 1 := by simp [diffN, natI]
  rw [e1, e2]
  have h0 := s.sl.mem
  refine ⟨⟨⟨by omega, by rw [flat_len hw, ← hl]; congr 1, ?_⟩, by omega⟩, by simp only [cutOk, natI]; omega, ?_, by omega⟩
  · cases a with
    | none => simp at h0; omega
    | some a =>
      obtain ⟨b, o, sp⟩ := a
      obtain ⟨h1, h0⟩ := h0
      obtain ⟨CS, h2, h3, h4⟩ := h0 (by omega)
      show (sp = none ∨ sp = some w) ∧ _
      refine ⟨h1, fun _ => ⟨CS, h2, ?_, ?_⟩⟩
      · have : l * w = w + (l - 1) * w := by rw [← hl, Nat.add_mul, Nat.add_sub_cancel]; omega
        simp only [Int.toNat_one, Nat.one_mul]; omega
      · have hlw : l * w = w + (l - 1) * w := by rw [← hl, Nat.add_mul, Nat.add_sub_cancel]; omega
        have := take_drop_sub h4 (i := w) (m := (l - 1) * w) (by omega)
        simp only [Int.toNat_one, Nat.one_mul]
        rw [this, List.flatMap_cons, List.drop_append, List.drop_eq_nil_of_le (by rw [hw]; exact Nat.le_refl _), hw, Nat.sub_self, List.drop_zero, List.nil_append]
        exact List.take_of_length_le (by rw [flat_len hw, hLl]; exact Nat.le_refl _)
  · cases a with
    | none => trivial
    | some a => exact h0.1

theorem SlT.grp {h : Hp} (wf : Wf h) {g : Option Nat} {a : Option Addr} {l c : Nat} {L : List α} (s : SlT enc w h g a l c L) : ∃ g2 : Option Nat, (∀ x, g2 = some x → x < h.next) ∧ SlT enc w h g2 a l c L := by
  by_cases hl : 0 < l
  · refine ⟨g, fun x hx => ?_, s⟩
    subst hx
    have h0 := s.sl.mem
    cases a with
    | none => simp at h0; omega
    | some a =>
      obtain ⟨CS, h2, _⟩ := h0.2 hl
      exact h2.glt wf
  · refine ⟨none, by simp, ⟨s.sl.le, s.sl.len, ?_⟩, s.len⟩
    have h0 := s.sl.mem
    cases a with
    | none => exact h0
    | some a => exact ⟨h0.1, fun h1 => absurd h1 hl⟩

theorem SlT.nil (h : Hp) (g : Option Nat) : SlT enc w h g none 0 0 [] := ⟨Sl.nil h w g, rfl⟩
theorem SlT.keep {S : Nat → Prop} {h h' : Hp} (k : Keep S h h') {g : Option Nat} {a : Option Addr} {l c : Nat} {L : List α} (s : SlT enc w h g a l c L) (hn : ∀ x, g = some x → ¬ S x) : SlT enc w h' g a l c L := ⟨s.sl.keep k hn, s.len⟩
end

/-! ### 2. append -/
section
variable (P : Program)
/-- What append asks of the types. -/
structure AppT (t xt elem : TypeId) (w bytes : Nat) : Prop where
  under : P.underlying t = some (.slice elem)
  info : ∃ i z, P.info? elem = some i ∧ i.size = w ∧ i.bytes = bytes ∧ i.zero = some z ∧ z.cells.size = w
  other : ∃ u, P.underlying xt = some u ∧ ∀ k, u ≠ .int k
  pos : 0 < w
  bpos : 0 < bytes

def appOk (t xt elem : TypeId) (w bytes : Nat) : Bool :=
  (match P.underlying t with | some (.slice e) => e == elem | _ => false) &&
  (match P.info? elem with
    | some i => i.size == w && i.bytes == bytes && (match i.zero with | some z => z.cells.size == w | none => false)
    | none => false) &&
  (match P.underlying xt with | some (.int _) => false | some _ => true | none => false) && decide (0 < w) && decide (0 < bytes)

theorem AppT.of {t xt elem : TypeId} {w bytes : Nat} (h : appOk P t xt elem w bytes = true) : AppT P t xt elem w bytes := by
  simp only [appOk, Bool.and_eq_true, decide_eq_true_eq] at h
  obtain ⟨⟨⟨⟨h1, h2⟩, h3⟩, h4⟩, h5⟩ := h
  refine ⟨?_, ?_, ?_, h4, h5⟩
  · split at h1
    · rename_i e he; rw [he]; simp at h1; rw [h1]
    · simp at h1
  · split at h2
    · rename_i i hi
      simp only [Bool.and_eq_true, beq_iff_eq] at h2
      obtain ⟨⟨h6, h7⟩, h8⟩ := h2
      split at h8
      · rename_i z hz; exact ⟨i, z, hi, h6, h7, hz, by simpa using h8⟩
      · simp at h8
    · simp at h2
  · split at h3
    · simp at h3
    · rename_i u hne hu; exact ⟨u, hu, fun k hk => hne k hk⟩
    · simp at h3
end

section
variable {P : Program}

theorem dataOf_sl {h : Hp} {w : Nat} {g : Option Nat} {a : Option Addr} {l c : Nat} {cs : List Value} (s : Sl h w g a l c cs) : dataOf w (.slice a l c) h = some (l, cs) := by
  have h0 := s.mem
  have hl := s.len
  cases a with
  | none =>
    obtain ⟨rfl, rfl⟩ := h0
    simp at hl; subst hl; rfl
  | some a =>
    obtain ⟨b, o, sp⟩ := a
    obtain ⟨h1, h0⟩ := h0
    simp only [dataOf]
    by_cases hz : l = 0
    · subst hz; simp at hl; subst hl; simp
    · obtain ⟨CS, h2, h3, h4⟩ := h0 (by omega)
      simp only [hz, if_false]
      rw [h2.cells h3, h4]; rfl

/-- A slice that was built by append: nil, or a block of its own, of a group in S. -/
def Bd (h : Hp) (w : Nat) (S : Nat → Prop) (a : Option Addr) (l c : Nat) (cs : List Value) : Prop :=
  (a = none ∧ l = 0 ∧ c = 0 ∧ cs = []) ∨ ∃ b g, a = some ⟨b, 0, some w⟩ ∧ S g ∧ c = l ∧ 0 < l ∧ cs.length = l * w ∧ Blk h b (some g) cs

theorem Bd.nil (h : Hp) (w : Nat) (S : Nat → Prop) : Bd h w S none 0 0 [] := .inl ⟨rfl, rfl, rfl, rfl⟩

theorem Bd.sl {h : Hp} {w : Nat} {S : Nat → Prop} {a : Option Addr} {l c : Nat} {cs : List Value} (s : Bd h w S a l c cs) : ∃ g : Option Nat, (∀ x, g = some x → S x) ∧ Sl h w g a l c cs := by
  rcases s with ⟨rfl, rfl, rfl, rfl⟩ | ⟨b, g, rfl, h1, rfl, h2, h3, h4⟩
  · exact ⟨none, by simp, Sl.nil h w _⟩
  · exact ⟨some g, fun x hx => by simp at hx; subst hx; exact h1, Nat.le_refl _, h3, .inr rfl, fun _ => ⟨cs, h4, by omega, by rw [← h3]; simp⟩⟩

theorem Bd.slT {α : Type} {enc : α → List Value} {h : Hp} {w : Nat} {S : Nat → Prop} {a : Option Addr} {l c : Nat} {L : List α} (s : Bd h w S a l c (L.flatMap enc)) (hl : L.length = l) : ∃ g : Option Nat, (∀ x, g = some x → S x) ∧ SlT enc w h g a l c L := by
  obtain ⟨g, h1, h2⟩ := s.sl; exact ⟨g, h1, h2, hl⟩

theorem Bd.keep {S0 S : Nat → Prop} {h h' : Hp} (k : Keep S0 h h') {w : Nat} {a : Option Addr} {l c : Nat} {cs : List Value} (s : Bd h w S a l c cs) (hn : ∀ x, S x → ¬ S0 x) : Bd h' w S a l c cs := by
  rcases s with h1 | ⟨b, g, rfl, h1, rfl, h2, h3, h4⟩
  · exact .inl h1
  · exact .inr ⟨b, g, rfl, h1, rfl, h2, h3, k.blk h4 fun x hx => by simp at hx; subst hx; exact hn _ h1⟩

theorem Bd.bound {h : Hp} (wf : Wf h) {w : Nat} {S : Nat → Prop} {a : Option Addr} {l c : Nat} {cs : List Value} (s : Bd h w S a l c cs) : Bd h w (fun g => S g ∧ g < h.next) a l c cs := by
  rcases s with h1 | ⟨b, g, rfl, h1, rfl, h2, h3, h4⟩
  · exact .inl h1
  · exact .inr ⟨b, g, rfl, ⟨h1, h4.glt wf⟩, rfl, h2, h3, h4⟩

theorem Bd.mono {h : Hp} {w : Nat} {S S' : Nat → Prop} {a : Option Addr} {l c : Nat} {cs : List Value} (s : Bd h w S a l c cs) (hs : ∀ g, S g → S' g) : Bd h w S' a l c cs := by
  rcases s with h1 | ⟨b, g, rfl, h1, rfl, h2, h3, h4⟩
  · exact .inl h1
  · exact .inr ⟨b, g, rfl, hs g h1, rfl, h2, h3, h4⟩

theorem Bd.append {h : Hp} (wf : Wf h) {t xt elem : TypeId} {w bytes : Nat} (ht : AppT P t xt elem w bytes) {S : Nat → Prop} (hS : ∀ g, h.next ≤ g → S g) {a : Option Addr} {l c : Nat} {cs : List Value} (s : Bd h w S a l c cs)
    {x : Value} {n : Nat} {new : List Value} (hx : dataOf w x h = some (n, new)) (hnl : new.length = n * w) (hv : new.all isCell = true) (hr : roomy (l + n) bytes = true) :
    ∃ a' h', cappend P t xt (.slice a l c) x h = some (.slice a' (l + n) (l + n), h') ∧ Bd h' w S a' (l + n) (l + n) (cs ++ new) ∧ Keep S h h' ∧ Wf h' := by
  obtain ⟨i, z, e1, e2, e3, e4, e5⟩ := ht.info
  obtain ⟨u, e6, e7⟩ := ht.other
  have hp := ht.pos
  have hb := ht.bpos
  have hlc : c = l := by rcases s with ⟨_, h1, h2, _⟩ | ⟨_, _, _, _, h1, _⟩ <;> omega
  subst hlc
  have main : cappend P t xt (.slice a c c) x h = if n = 0 then some (.slice a c c, h) else
      (match (Value.slice a c c) with
        | .slice none 0 0 => some (.slice (some ⟨h.next, 0, some w⟩) n n, h.alloc new elem)
        | .slice (some ⟨b, o, sp⟩) l c =>
          if l + n ≤ c then (h.store b (o + l * w) new).map fun h' => (.slice (some ⟨b, o, sp⟩) (l + n) c, h')
          else match sp with
            | none => if l = 0 then some (.slice (some ⟨h.next, 0, some w⟩) n n, h.alloc new elem) else
              (h.cellsAt b o (l * w)).map fun old => (.slice (some ⟨h.next, 0, some w⟩) (l + n) (l + n), h.alloc (old ++ new) elem)
            | some k => if k = w then (h.extend b o (o + l * w) new).map fun h' => (.slice (some ⟨h.next, 0, some w⟩) (l + n) (l + n), h') else none
        | _ => none) := by
    unfold cappend
    rw [ht.under]
    dsimp only
    rw [e1, e6]
    have hb1 : ¬ (w = 0) := by omega
    have hb2 : ¬ (bytes = 0) := by omega
    cases u with
    | int k => exact absurd rfl (e7 k)
    | _ =>
      dsimp only
      rw [e2, hx]
      by_cases hn : n = 0
      · simp [hn]
      · simp only [hn, if_false, slen, e3, e4, e5, Option.map_some, decide_true, Bool.not_true, hr, Bool.false_or, Bool.or_false, hb1, hb2, decide_false, Bool.false_eq_true]
        cases a <;> rfl
  rw [main]
  by_cases hn : n = 0
  · subst hn
    have : new = [] := by simpa using hnl
    subst this
    simp only [if_true, Nat.add_zero, List.append_nil]
    exact ⟨a, h, rfl, s, Keep.refl _ _, wf⟩
  · simp only [hn, if_false]
    rcases s with ⟨rfl, rfl, _, rfl⟩ | ⟨b, g, rfl, h1, _, h2, h3, h4⟩
    · simp only [Nat.zero_add, List.nil_append]
      exact ⟨_, _, rfl, .inr ⟨_, h.next, rfl, hS _ (Nat.le_refl _), rfl, by omega, hnl, alloc_blk wf new elem⟩, (alloc_keep wf new elem).mono wf fun _ _ hf => hf.elim, alloc_wf wf new elem⟩
    · simp only
      rw [if_neg (by omega)]
      simp only [if_true, Nat.zero_add]
      obtain ⟨h', g1, g2, g3, g4, g5, g6⟩ := h4.extend wf (o := 0) (e := c * w) (new := new) (by omega) (by omega) hv
      rw [g1]
      refine ⟨_, _, rfl, .inr ⟨_, g, rfl, h1, rfl, by omega, ?_, ?_⟩, g4.mono wf (fun x _ hx => by subst hx; exact h1), g6⟩
      · simp only [List.length_append, h3, hnl, Nat.add_mul]
      · have : (cs.drop 0).take (c * w - 0) = cs := by rw [← h3]; simp
        rw [this] at g2
        exact g2

/-- append of one element, which lies in a new block. -/
theorem Bd.append1 {h h1 : Hp} (wf : Wf h) {t xt elem e : TypeId} {w bytes : Nat} (ht : AppT P t xt elem w bytes) {S : Nat → Prop} (hS : ∀ g, h.next ≤ g → S g) {a : Option Addr} {l c : Nat} {cs : List Value} (s : Bd h w S a l c cs)
    {new : List Value} (he : h1 = h.alloc new e) (hnl : new.length = w) (hv : new.all isCell = true) (hr : roomy (l + 1) bytes = true) :
    ∃ a' h', cappend P t xt (.slice a l c) (.slice (some ⟨h.next, 0, none⟩) 1 1) h1 = some (.slice a' (l + 1) (l + 1), h') ∧ Bd h' w S a' (l + 1) (l + 1) (cs ++ new) ∧ Keep S h h' ∧ Wf h' := by
  subst he
  have k := alloc_keep wf new e
  have wf' := alloc_wf wf new e
  have hb := alloc_blk wf new e
  have hS' : ∀ g, (h.alloc new e).next ≤ g → S g := fun g hg => hS g (by rw [alloc_next] at hg; omega)
  have hd : dataOf w (.slice (some ⟨h.next, 0, none⟩) 1 1) (h.alloc new e) = some (1, new) := by
    simp only [dataOf, Nat.one_mul]
    rw [hb.cells (by omega)]
    simp [← hnl]
  obtain ⟨a', h', h1, h2, h3, h4⟩ := Bd.append wf' ht hS' (s.keep k fun _ _ hf => hf) hd (by omega) hv hr
  exact ⟨a', h', h1, h2, (k.mono wf (S' := S) fun _ _ hf => hf.elim).trans wf h3 (fun _ _ hg => hg), h4⟩
end

theorem new_blk {h h1 : Hp} (wf : Wf h) {cs : List Value} {e : TypeId} (he : h1 = h.alloc cs e) : Blk h1 h.next (some h.next) cs ∧ Kept h h1 ∧ h1.next = h.next + 1 ∧ Wf h1 := by
  subst he; exact ⟨alloc_blk wf cs e, alloc_keep wf cs e, rfl, alloc_wf wf cs e⟩

/-- A new variable that is written whole. -/
theorem set_blk {h h1 : Hp} (wf : Wf h1) {b : Nat} {cs vs : List Value} (hb : Blk h1 b (some b) cs) (k : Kept h h1) (wf0 : Wf h) (hn : h.next ≤ b) (hl : vs.length = cs.length) (hv : vs.all isCell = true) :
    ∃ h', h1.store b 0 vs = some h' ∧ Blk h' b (some b) vs ∧ Kept h h' ∧ Keep (· = b) h1 h' ∧ h'.next = h1.next ∧ Wf h' := by
  obtain ⟨h', e1, e2, e3, e4, e5⟩ := hb.store (o := 0) (vs := vs) (by omega) hv
  refine ⟨h', e1, ?_, ?_, e3, e4, e5 wf⟩
  · have : splice cs 0 vs = vs := by simp [splice, hl]
    rw [this] at e2; exact e2
  · exact k.trans wf0 e3 fun g hg hs => by omega

/-! ### 3. Whole numbers -/
theorem addW_small {a b : Int} (h0 : -9223372036854775808 ≤ a + b) (h1 : a + b < 9223372036854775808) : addW .i64 a b = a + b := by
  unfold addW IntKind.wrap
  simp [IntKind.bits, IntKind.signed]
  omega
theorem subW_small {a b : Int} (h0 : -9223372036854775808 ≤ a - b) (h1 : a - b < 9223372036854775808) : subW .i64 a b = a - b := by
  unfold subW IntKind.wrap
  simp [IntKind.bits, IntKind.signed]
  omega
theorem roomy_of {n b : Nat} (h : (2 * n + 1024) * b ≤ 140737488355328) : roomy n b = true := by
  simp only [roomy, decide_eq_true_eq]
  exact h
/-! ### 4. Strings -/
theorem toList_loop (s : ByteArray) : ∀ (n i : Nat) (r : List UInt8), s.size - i = n → ByteArray.toList.loop s i r = r.reverse ++ s.data.toList.drop i
  | 0, i, r, hn => by
    unfold ByteArray.toList.loop
    have : ¬ i < s.size := by omega
    rw [if_neg this, List.drop_eq_nil_of_le (by have : s.data.toList.length = s.size := Array.length_toList
                                                omega)]
    simp
  | n + 1, i, r, hn => by
    unfold ByteArray.toList.loop
    have hi : i < s.size := by omega
    have hi' : i < s.data.toList.length := by have : s.data.toList.length = s.size := Array.length_toList
                                              omega
    rw [if_pos hi, toList_loop s n (i + 1) _ (by omega), List.drop_eq_getElem_cons hi']
    have hd : i < s.data.size := hi
    have : s.get! i = s.data.toList[i] := by
      show s.data[i]! = _
      rw [getElem!_pos s.data i hd]; simp
    rw [this]; simp
theorem toList_eq (s : ByteArray) : s.toList = s.data.toList := by
  unfold ByteArray.toList
  rw [toList_loop s _ 0 [] rfl]; simp
theorem toList_inj {s u : ByteArray} (h : s.toList = u.toList) : s = u := by
  rw [toList_eq, toList_eq] at h
  cases s; cases u; simp at h; rw [h]
theorem same_iff (s u : ByteArray) : strSame s u = true ↔ s = u := by
  cases s with | mk s => cases u with | mk u =>
  show (s == u) = true ↔ _
  simp
theorem eq_iff (s u : ByteArray) : strEq s u = true ↔ s = u := by
  unfold strEq
  rw [beq_iff_eq]
  exact ⟨toList_inj, fun h => by rw [h]⟩
theorem less_eq : ∀ (x y : List UInt8), Op.bytesLess x y = decide (x < y)
  | [], [] => by simp [Op.bytesLess]
  | _ :: _, [] => by simp [Op.bytesLess]
  | [], _ :: _ => by simp [Op.bytesLess]
  | a :: x, b :: y => by
    rw [Op.bytesLess, less_eq x y]
    simp only [List.cons_lt_cons_iff]
    by_cases h1 : a < b <;> by_cases h2 : a = b <;> by_cases h3 : x < y <;> simp [h1, h2, h3]
theorem lt_iff (s u : ByteArray) : Go.Cn.strLt s u = true ↔ s.toList < u.toList := by simp [Go.Cn.strLt, less_eq]
theorem lt_irrefl (s : ByteArray) : Go.Cn.strLt s s = false := by
  rw [Bool.eq_false_iff]; intro h; rw [lt_iff] at h; exact List.lt_irrefl _ h
theorem lt_trans {s u v : ByteArray} (h : Go.Cn.strLt s u = true) (k : Go.Cn.strLt u v = true) : Go.Cn.strLt s v = true := by
  rw [lt_iff] at *; exact List.lt_trans h k
theorem lt_total {s u : ByteArray} (h : Go.Cn.strLt s u = false) (k : Go.Cn.strLt u s = false) : s = u := by
  rw [Bool.eq_false_iff] at h k
  rw [Ne, lt_iff] at h k
  exact toList_inj (List.le_antisymm (List.not_lt.mp k) (List.not_lt.mp h))
theorem lt_asymm {s u : ByteArray} (h : Go.Cn.strLt s u = true) : Go.Cn.strLt u s = false := by
  rw [Bool.eq_false_iff]; intro k; have := lt_trans h k; rw [lt_irrefl] at this; exact absurd this (by simp)
end Go.Cn
