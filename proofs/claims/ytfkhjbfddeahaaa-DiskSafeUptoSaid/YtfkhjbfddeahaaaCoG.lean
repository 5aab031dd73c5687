/- Reasoning over canonical heaps: single cells of a block; slices that own their memory, with room behind them. -/
import Derived.Test.YtfkhjbfddeahaaaCoF
set_option linter.unusedVariables false
set_option linter.unusedSimpArgs false
namespace Go.Cn

/-! ### 1. One cell of a block -/
theorem take_one {α : Type} {CS : List α} {o : Nat} {v : α} (h : CS[o]? = some v) : (CS.drop o).take 1 = [v] := by
  obtain ⟨ho, hv⟩ := List.getElem?_eq_some_iff.mp h
  rw [List.drop_eq_getElem_cons ho, hv]; rfl

theorem Blk.one {h : Hp} {b : Nat} {g : Option Nat} {CS : List Value} (hb : Blk h b g CS) {o : Nat} {v : Value} (hv : CS[o]? = some v) : h.cellsAt b o 1 = some [v] := by
  have ho := (List.getElem?_eq_some_iff.mp hv).1
  rw [hb.cells (by omega), take_one hv]

theorem splice_one {CS : List Value} {o : Nat} (ho : o < CS.length) (v : Value) : splice CS o [v] = CS.set o v := by
  rw [List.set_eq_take_append_cons_drop, if_pos ho]
  simp [splice]

theorem Blk.set {h : Hp} {b g : Nat} {CS : List Value} (hb : Blk h b (some g) CS) {o : Nat} (ho : o < CS.length) {v : Value} (hv : isCell v = true) :
    ∃ h', h.store b o [v] = some h' ∧ Blk h' b (some g) (CS.set o v) ∧ Keep (· = g) h h' ∧ h'.next = h.next ∧ (Wf h → Wf h') := by
  obtain ⟨h', h1, h2, h3, h4, h5⟩ := hb.store (o := o) (vs := [v]) (by simp; omega) (by simp [hv])
  rw [splice_one ho] at h2
  exact ⟨h', h1, h2, h3, h4, h5⟩

theorem splice_take {CS vs : List Value} {i n : Nat} (hi : i + vs.length ≤ n) (hn : n ≤ CS.length) : splice (CS.take n) i vs = (splice CS i vs).take n := by
  apply List.ext_getElem?
  intro j
  rw [splice_get (by rw [List.length_take]; omega), List.getElem?_take, List.getElem?_take, splice_get (by omega)]
  split <;> split <;> first | rfl | omega | skip

/-! ### 2. Slices that own their memory -/
/-- Two groups are not the same one. -/
def Ap (x y : Option Nat) : Prop := ∀ g, x = some g → y ≠ some g
theorem Ap.symm {x y : Option Nat} (h : Ap x y) : Ap y x := fun g hy hx => h g hx hy
theorem Ap.nl (x : Option Nat) : Ap none x := fun g h => by simp at h
theorem Ap.nr (x : Option Nat) : Ap x none := fun g h => by simp

/-- A slice that owns its memory: empty, or a block of group g of c elements, of which the first l are its own. -/
def Ow (h : Hp) (w : Nat) (g : Option Nat) (a : Option Addr) (l c : Nat) (cs : List Value) : Prop :=
  (g = none ∧ l = 0 ∧ c = 0 ∧ cs = [] ∧ (a = none ∨ ∃ b o, a = some ⟨b, o, none⟩)) ∨
  ∃ b sp g' CS, g = some g' ∧ a = some ⟨b, 0, sp⟩ ∧ (sp = none ∨ sp = some w) ∧ l ≤ c ∧ 0 < c ∧ Blk h b (some g') CS ∧ CS.length = c * w ∧ cs = CS.take (l * w)

theorem Ow.nil (h : Hp) (w : Nat) : Ow h w none none 0 0 [] := .inl ⟨rfl, rfl, rfl, rfl, .inl rfl⟩

section
variable {h : Hp} {w : Nat} {g : Option Nat} {a : Option Addr} {l c : Nat} {cs : List Value}

theorem Ow.sl (s : Ow h w g a l c cs) : Sl h w g a l c cs := by
  rcases s with ⟨rfl, rfl, rfl, rfl, ha⟩ | ⟨b, sp, g', CS, rfl, rfl, hsp, hl, hc, hb, hlen, rfl⟩
  · refine ⟨Nat.le_refl _, by simp, ?_⟩
    rcases ha with rfl | ⟨b, o, rfl⟩
    · exact ⟨rfl, rfl⟩
    · exact ⟨.inl rfl, fun h0 => by omega⟩
  · have : l * w ≤ c * w := Nat.mul_le_mul_right w hl
    exact ⟨hl, by rw [List.length_take]; omega, hsp, fun _ => ⟨CS, hb, by omega, by rw [List.drop_zero]⟩⟩

theorem Ow.keep {S : Nat → Prop} {h' : Hp} (k : Keep S h h') (s : Ow h w g a l c cs) (hn : ∀ x, g = some x → ¬ S x) : Ow h' w g a l c cs := by
  rcases s with h1 | ⟨b, sp, g', CS, rfl, rfl, hsp, hl, hc, hb, hlen, rfl⟩
  · exact .inl h1
  · exact .inr ⟨b, sp, g', CS, rfl, rfl, hsp, hl, hc, k.blk hb fun x hx => by simp at hx; subst hx; exact hn _ rfl, hlen, rfl⟩

theorem Ow.glt (wf : Wf h) (s : Ow h w g a l c cs) : ∀ x, g = some x → x < h.next := by
  rcases s with ⟨rfl, _⟩ | ⟨b, sp, g', CS, rfl, rfl, hsp, hl, hc, hb, hlen, rfl⟩
  · simp
  · intro x hx; simp at hx; subst hx; exact hb.glt wf

/-- What stays of a slice that is cut behind its k-th element. -/
theorem Ow.cut (s : Ow h w g a l c cs) {k : Nat} (hk : k ≤ l) : Ow h w g a k c (cs.take (k * w)) := by
  rcases s with ⟨rfl, rfl, rfl, rfl, ha⟩ | ⟨b, sp, g', CS, rfl, rfl, hsp, hl, hc, hb, hlen, rfl⟩
  · have : k = 0 := by omega
    subst this
    exact .inl ⟨rfl, rfl, rfl, by simp, ha⟩
  · have : k * w ≤ l * w := Nat.mul_le_mul_right w hk
    exact .inr ⟨b, sp, g', CS, rfl, rfl, hsp, by omega, hc, hb, hlen, by rw [List.take_take, Nat.min_eq_left this]⟩

/-- Cells of an element are written. -/
theorem Ow.store (s : Ow h w g a l c cs) {i : Nat} {vs : List Value} (hi : i + vs.length ≤ l * w) (hl0 : 0 < l) (hv : vs.all isCell = true) :
    a.isSome = true ∧ ∃ h', h.store (blk a) (off a + i) vs = some h' ∧ Ow h' w g a l c (splice cs i vs) ∧ Keep (fun x => g = some x) h h' ∧ h'.next = h.next ∧ (Wf h → Wf h') := by
  rcases s with ⟨rfl, rfl, rfl, rfl, ha⟩ | ⟨b, sp, g', CS, rfl, rfl, hsp, hl, hc, hb, hlen, rfl⟩
  · omega
  · have hlw : l * w ≤ c * w := Nat.mul_le_mul_right w hl
    obtain ⟨h', h1, h2, h3, h4, h5⟩ := hb.store (o := i) (vs := vs) (by omega) hv
    have e0 : off (some ⟨b, 0, sp⟩) + i = i := by simp [off]
    refine ⟨rfl, h', by rw [e0]; exact h1, .inr ⟨b, sp, g', _, rfl, rfl, hsp, hl, hc, h2, ?_, ?_⟩, ⟨h3.next, h3.ro, fun b c t g hb hn => h3.rw b c t g hb fun he => hn (by rw [he])⟩, h4, h5⟩
    · rw [splice_length (by omega)]; exact hlen
    · exact splice_take hi (by omega)
end

section
variable {P : Program}
/-- append to a slice that owns its memory. -/
theorem Ow.append {h : Hp} (wf : Wf h) {t xt elem : TypeId} {w bytes : Nat} (ht : AppT P t xt elem w bytes) {g : Option Nat} {a : Option Addr} {l c : Nat} {cs : List Value} (s : Ow h w g a l c cs)
    {x : Value} {n : Nat} {new : List Value} (hx : dataOf w x h = some (n, new)) (hnl : new.length = n * w) (hv : new.all isCell = true) (hr : roomy (l + n) bytes = true) :
    ∃ a' c' g' h', cappend P t xt (.slice a l c) x h = some (.slice a' (l + n) c', h') ∧ Ow h' w g' a' (l + n) c' (cs ++ new) ∧ (g' = g ∨ ∃ y, g' = some y ∧ h.next ≤ y) ∧ Keep (fun x => g = some x) h h' ∧ Wf h' := by
  obtain ⟨i, z, e1, e2, e3, e4, e5⟩ := ht.info
  obtain ⟨u, e6, e7⟩ := ht.other
  have hp := ht.pos
  have hb := ht.bpos
  have hlc : l ≤ c := by rcases s with ⟨_, h1, h2, _⟩ | ⟨_, _, _, _, _, _, _, h1, _⟩ <;> omega
  have main : cappend P t xt (.slice a l c) x h = if n = 0 then some (.slice a l c, h) else
      (match (Value.slice a l c) with
        | .slice none 0 0 => some (.slice (some ⟨h.next, 0, some w⟩) n n, h.alloc new elem)
        | .slice (some ⟨b, o, sp⟩) l c =>
          if l + n ≤ c then (h.store b (o + l * w) new).map fun h' => (.slice (some ⟨b, o, sp⟩) (l + n) c, h')
          else match sp with
            | none => if l = 0 then some (.slice (some ⟨h.next, 0, some w⟩) n n, h.alloc new elem) else
              (h.cellsAt b o (l * w)).map fun old => (.slice (some ⟨h.next, 0, some w⟩) (l + n) (l + n), h.alloc (old ++ new) elem)
            | some k => if k = w then (h.extend b o (o + l * w) new).map fun h' => (.slice (some ⟨h.next, 0, some w⟩) (l + n) (l + n), h') else none
        | _ => none) := by
    unfold cappend
    rw [ht.under]
    dsimp only
    rw [e1, e6]
    have hb1 : ¬ (w = 0) := by omega
    have hb2 : ¬ (bytes = 0) := by omega
    cases u with
    | int k => exact absurd rfl (e7 k)
    | _ =>
      dsimp only
      rw [e2, hx]
      by_cases hn : n = 0
      · simp [hn, hlc]
      · simp only [hn, if_false, slen, e3, e4, e5, Option.map_some, decide_true, Bool.not_true, hr, Bool.false_or, Bool.or_false, hb1, hb2, decide_false, Bool.false_eq_true]
        cases a <;> rfl
  rw [main]
  by_cases hn : n = 0
  · subst hn
    have : new = [] := by simpa using hnl
    subst this
    simp only [if_true, Nat.add_zero, List.append_nil]
    exact ⟨a, c, g, h, rfl, s, .inl rfl, Keep.refl _ _, wf⟩
  · simp only [hn, if_false]
    have fresh : ∀ (cs' : List Value) (k : Nat), cs'.length = k * w → 0 < k → Ow (h.alloc cs' elem) w (some h.next) (some ⟨h.next, 0, some w⟩) k k cs' ∧ Keep (fun x => g = some x) h (h.alloc cs' elem) ∧ Wf (h.alloc cs' elem) := by
      intro cs' k hk h0
      exact ⟨.inr ⟨h.next, some w, h.next, cs', rfl, rfl, .inr rfl, Nat.le_refl _, h0, alloc_blk wf cs' elem, hk, by rw [← hk, List.take_length]⟩, (alloc_keep wf cs' elem).mono wf fun _ _ hf => hf.elim, alloc_wf wf cs' elem⟩
    rcases s with ⟨rfl, rfl, rfl, rfl, ha⟩ | ⟨b, sp, g', CS, rfl, rfl, hsp, hl, hc, hblk, hlen, rfl⟩
    · obtain ⟨f1, f2, f3⟩ := fresh new n hnl (by omega)
      rcases ha with rfl | ⟨b, o, rfl⟩
      · simp only [Nat.zero_add, List.nil_append]
        exact ⟨_, _, _, _, rfl, f1, .inr ⟨_, rfl, Nat.le_refl _⟩, f2, f3⟩
      · simp only [Nat.zero_add, List.nil_append]
        rw [if_neg (by omega)]
        simp only [if_true]
        exact ⟨_, _, _, _, rfl, f1, .inr ⟨_, rfl, Nat.le_refl _⟩, f2, f3⟩
    · have hlw : l * w ≤ c * w := Nat.mul_le_mul_right w hl
      have htl : (CS.take (l * w)).length = l * w := by rw [List.length_take]; omega
      simp only [Nat.zero_add]
      by_cases hroom : l + n ≤ c
      · rw [if_pos hroom]
        have hlnw : (l + n) * w ≤ c * w := Nat.mul_le_mul_right w hroom
        have hadd : (l + n) * w = l * w + n * w := Nat.add_mul _ _ _
        obtain ⟨h', h1, h2, h3, h4, h5⟩ := hblk.store (o := l * w) (vs := new) (by omega) hv
        rw [h1]
        refine ⟨_, _, _, _, rfl, .inr ⟨b, sp, g', _, rfl, rfl, hsp, hroom, hc, h2, by rw [splice_length (by omega)]; exact hlen, ?_⟩, .inl rfl, ⟨h3.next, h3.ro, fun b c t g hb hn => h3.rw b c t g hb fun he => hn (by rw [he])⟩, h5 wf⟩
        have e : (CS.take (l * w) ++ new).length = (l + n) * w := by rw [List.length_append, htl, hnl, hadd]
        rw [← e]
        exact List.take_left.symm
      · rw [if_neg hroom]
        rcases hsp with rfl | rfl
        · simp only
          by_cases hl0 : l = 0
          · subst hl0
            obtain ⟨f1, f2, f3⟩ := fresh new n hnl (by omega)
            simp only [if_true, Nat.zero_add, Nat.zero_mul, List.take_zero, List.nil_append]
            exact ⟨_, _, _, _, rfl, f1, .inr ⟨_, rfl, Nat.le_refl _⟩, f2, f3⟩
          · rw [if_neg hl0, hblk.cells (by omega)]
            obtain ⟨f1, f2, f3⟩ := fresh (CS.take (l * w) ++ new) (l + n) (by rw [List.length_append, htl, Nat.add_mul]; omega) (by omega)
            simp only [List.drop_zero, Option.map_some]
            exact ⟨_, _, _, _, rfl, f1, .inr ⟨_, rfl, Nat.le_refl _⟩, f2, f3⟩
        · simp only [if_true]
          obtain ⟨h', g1, g2, g3, g4, g5, g6⟩ := hblk.extend wf (o := 0) (e := l * w) (new := new) (by omega) (by omega) hv
          rw [g1]
          rw [List.drop_zero, Nat.sub_zero] at g2
          refine ⟨_, _, _, _, rfl, .inr ⟨h.next, some w, g', _, rfl, rfl, .inr rfl, Nat.le_refl _, by omega, g2, by rw [List.length_append, htl, Nat.add_mul]; omega, ?_⟩, .inl rfl, ⟨g4.next, g4.ro, fun b c t g hb hn => g4.rw b c t g hb fun he => hn (by rw [he])⟩, g6⟩
          exact (List.take_of_length_le (by rw [List.length_append, htl, Nat.add_mul]; omega)).symm

/-- append of one element, which lies in a new block. -/
theorem Ow.append1 {h h1 : Hp} (wf : Wf h) {t xt elem e : TypeId} {w bytes : Nat} (ht : AppT P t xt elem w bytes) {g : Option Nat} {a : Option Addr} {l c : Nat} {cs : List Value} (s : Ow h w g a l c cs)
    {new : List Value} (he : h1 = h.alloc new e) (hnl : new.length = w) (hv : new.all isCell = true) (hr : roomy (l + 1) bytes = true) :
    ∃ a' c' g' h', cappend P t xt (.slice a l c) (.slice (some ⟨h.next, 0, none⟩) 1 1) h1 = some (.slice a' (l + 1) c', h') ∧ Ow h' w g' a' (l + 1) c' (cs ++ new) ∧ (g' = g ∨ ∃ y, g' = some y ∧ h.next ≤ y) ∧ Keep (fun x => g = some x) h h' ∧ Wf h' := by
  subst he
  have k := alloc_keep wf new e
  have wf' := alloc_wf wf new e
  have hb := alloc_blk wf new e
  have hd : dataOf w (.slice (some ⟨h.next, 0, none⟩) 1 1) (h.alloc new e) = some (1, new) := by
    simp only [dataOf, Nat.one_mul]
    rw [hb.cells (by omega)]
    simp [← hnl]
  obtain ⟨a', c', g', h', h1, h2, h3, h4, h5⟩ := Ow.append wf' ht (s.keep k fun _ _ hf => hf) hd (by omega) hv hr
  refine ⟨a', c', g', h', h1, h2, ?_, (k.mono wf (S' := fun x => g = some x) fun _ _ hf => hf.elim).trans wf h4 (fun _ _ hg => hg), h5⟩
  rcases h3 with h3 | ⟨y, h3, h6⟩
  · exact .inl h3
  · exact .inr ⟨y, h3, by rw [alloc_next] at h6; omega⟩
end

/-! ### 3. Tests -/
theorem ltI_iff {a b : Int} : ltI a b = true ↔ a < b := by simp only [ltI, decide_eq_true_eq]
theorem leI_iff {a b : Int} : leI a b = true ↔ a ≤ b := by simp only [leI, decide_eq_true_eq]
theorem gtI_iff {a b : Int} : gtI a b = true ↔ a > b := by simp only [gtI, decide_eq_true_eq]
theorem geI_iff {a b : Int} : geI a b = true ↔ a ≥ b := by simp only [geI, decide_eq_true_eq]
theorem eqI_iff {a b : Int} : eqI a b = true ↔ a = b := by simp only [eqI, beq_iff_eq]
theorem neI_iff {a b : Int} : neI a b = true ↔ a ≠ b := by simp only [neI, bne_iff_ne]
theorem notB_iff {b : Bool} : notB b = true ↔ b = false := by cases b <;> simp [notB]
theorem andB_iff {a b : Bool} : andB a b = true ↔ a = true ∧ b = true := by cases a <;> cases b <;> simp [andB]
theorem or_iff {a b : Bool} : sel a true b = true ↔ a = true ∨ b = true := by cases a <;> cases b <;> simp [sel]
theorem and_iff {a b : Bool} : sel a b false = true ↔ a = true ∧ b = true := by cases a <;> cases b <;> simp [sel]
theorem natI_eq (n : Nat) : natI n = (n : Int) := rfl

/-! ### 4. New slices -/
section
variable {P : Program}
theorem make_slice {h : Hp} (wf : Wf h) {t elem : TypeId} {w bytes : Nat} (ht : AppT P t t elem w bytes) {z : Value} (hz : zero? P elem = some z) (hp : plainV 100 z = true) {n : Int} {m : Nat} (hn : n = m) (hm : bytes * m ≤ 140737488355328) :
    ∃ h', cmakeSlice P t (.int .i64 n) (.int .i64 n) h = some (.slice (some ⟨h.next, 0, none⟩) m m, h') ∧ h' = h.alloc (zeroCells z.cells.toList m) elem := by
  obtain ⟨i, z', e1, e2, e3, e4, e5⟩ := ht.info
  have hpos := ht.pos
  have hbp := ht.bpos
  have ez : z' = z := by simp [zero?, e1, e4] at hz; exact hz
  subst ez
  subst hn
  refine ⟨_, ?_, rfl⟩
  unfold cmakeSlice
  rw [ht.under]
  dsimp only
  rw [e1]
  dsimp only
  rw [e4]
  dsimp only
  have h1 : (0 : Int) ≤ (m : Int) ∧ (m : Int) ≤ (m : Int) ∧ (i.bytes : Int) * (m : Int) ≤ 2 ^ 47 ∧ (m : Int) ≤ IntKind.i64.max := by
    have h2 : ((i.bytes * m : Nat) : Int) ≤ 140737488355328 := by rw [e3]; exact Int.ofNat_le.mpr hm
    have h3 : m ≤ bytes * m := Nat.le_mul_of_pos_left m hbp
    have h4 : IntKind.i64.max = 9223372036854775807 := rfl
    refine ⟨by omega, Int.le_refl _, by push_cast at h2; exact h2, by rw [h4]; omega⟩
  rw [if_pos h1]
  have h5 : (decide (z'.cells.size = i.size) && !decide (i.size = 0) && plainV 100 z') = true := by
    rw [hp, e5, e2]
    have : ¬ w = 0 := by omega
    simp only [this, decide_true, decide_false, Bool.not_false, Bool.and_self]
  show (if (decide (z'.cells.size = i.size) && !decide (i.size = 0) && plainV 100 z') = true then _ else _) = _
  rw [if_pos h5]
  rfl
end
end Go.Cn
