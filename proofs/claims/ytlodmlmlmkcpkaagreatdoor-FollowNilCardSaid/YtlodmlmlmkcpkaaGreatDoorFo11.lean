/- Joined: CoE. -/
import Derived.Test.YtlodmlmlmkcpkaaGreatDoorFo10
import Derived.Deep.Slices
import Derived.OpenShut
/- Arguments of plain data, laid as read-only blocks of a canonical heap. -/
set_option linter.unusedVariables false
set_option linter.unusedSimpArgs false
namespace Go.Cn
open Go.ChangeShapes Go.WideShapes Go.ChangeAt

/-! ### 1. A read-only block is added -/
def Hp.addO (h : Hp) (o : Option Ob) : Hp :=
  match o with
  | some o => { h with obs := Tr.set o (h.next + 1) h.next h.obs, next := h.next + 1 }
  | none => { h with next := h.next + 1 }

theorem Hp.ob_addO (h : Hp) (hf : h.ob h.next = none) (o : Option Ob) (b : Nat) : (h.addO o).ob b = if b = h.next then o else h.ob b := by
  cases o with
  | none =>
    show h.ob b = _
    split
    · rename_i e; subst e; exact hf
    · rfl
  | some o =>
    simp only [Hp.addO, Hp.ob]
    rw [Tr.get_set _ _ _ _ _ (by omega)]
theorem Hp.gs_addO (h : Hp) (o : Option Ob) : (h.addO o).gs = h.gs := by cases o <;> rfl
theorem Hp.next_addO (h : Hp) (o : Option Ob) : (h.addO o).next = h.next + 1 := by cases o <;> rfl

theorem Lies.mono {base : Nat} {σ σ' : Sg} {w : World} {e : En} {cs : List Value} {g : Option Nat} (h : Lies base σ w e cs g) (hs : σ.le σ') : Lies base σ' w e cs g := by
  obtain ⟨⟨c, el, fr, h1, h2, h3, h4, h5⟩, h6⟩ := h
  refine ⟨⟨c, el, fr, h1, h2, h3, ?_, h5⟩, h6⟩
  intro i v hv
  obtain ⟨v', h7, h8⟩ := h4 i v hv
  exact ⟨v', h7, h8.mono hs⟩

theorem HR.addO {base : Nat} {σ : Sg} {h : Hp} {w : World} (hr : HR base σ h w) {o : Option Ob} {e : En} (he : e.rb < w.heap.size) (heb : e.rb < base)
    (ho : o = none ∨ ∃ cs t, o = some (.cells cs t none) ∧ Lies base (σ.put h.next e) w e cs none) : HR base (σ.put h.next e) (h.addO o) w := by
  have hσ : σ h.next = none := hr.none_next (Nat.le_refl _)
  have hle : σ.le (σ.put h.next e) := Sg.put_le hσ
  have hput : ∀ b e', (σ.put h.next e) b = some e' → (b = h.next ∧ e' = e) ∨ (b ≠ h.next ∧ σ b = some e') := by
    intro b e' hb
    unfold Sg.put at hb
    split at hb
    · rename_i hh; left; exact ⟨hh, by simpa using hb.symm⟩
    · rename_i hh; right; exact ⟨hh, hb⟩
  have hobn : h.ob h.next = none := (hr.fresh _ (Nat.le_refl _)).1
  have hob := Hp.ob_addO h hobn o
  have hgs := Hp.gs_addO h o
  have hnx := Hp.next_addO h o
  have hone : ∀ cs t g, o = some (.cells cs t g) → g = none := by
    intro cs t g hoe
    rcases ho with h1 | ⟨cs', t', h1, _⟩
    · rw [h1] at hoe; simp at hoe
    · rw [h1] at hoe; simp at hoe; exact hoe.2.2.symm
  have hold : ∀ b cs t g, (h.addO o).ob b = some (.cells cs t (some g)) → b ≠ h.next ∧ h.ob b = some (.cells cs t (some g)) := by
    intro b cs t g hx
    rw [hob] at hx
    split at hx
    · have := hone _ _ _ hx; simp at this
    · rename_i hne; exact ⟨hne, hx⟩
  have hoth : Oth base (σ.put h.next e) (h.addO o) w := by
    refine hr.oth.step hle ?_ (fun k o h1 _ => h1) ?_
    · intro b e' o' h1 h2 h3
      rw [hob] at h2
      split at h2
      · rcases ho with h4 | ⟨cs, t, h4, _⟩
        · rw [h4] at h2; simp at h2
        · rw [h4] at h2; cases h2; simp [Ob.isOth] at h3
      · rename_i hne
        rcases hput b e' h1 with ⟨h5, _⟩ | ⟨_, h5⟩
        · exact absurd h5 hne
        · exact ⟨h2, h5⟩
    · intro b e' h1 h2
      rcases hput b e' h1 with ⟨_, rfl⟩ | ⟨_, h5⟩
      · right; exact heb
      · rw [h5] at h2; simp at h2
  refine ⟨hr.base_le, ?_, ?_, ?_, ?_, ?_, ?_, ?_, ?_, hoth⟩
  · intro b e' hb
    rw [hnx]
    rcases hput b e' hb with ⟨rfl, rfl⟩ | ⟨_, h2⟩
    · exact ⟨by omega, he⟩
    · have := hr.dom _ _ h2; omega
  · intro b hb
    rw [hnx] at hb
    rw [hob, if_neg (by omega), hgs]
    exact hr.fresh b (by omega)
  · intro b e' cs t g hb hx hl
    rcases hput b e' hb with ⟨rfl, rfl⟩ | ⟨h1, h2⟩
    · rw [hob, if_pos rfl] at hx
      rcases ho with h3 | ⟨cs', t', h3, h4⟩
      · rw [h3] at hx; simp at hx
      · rw [h3] at hx; simp at hx
        obtain ⟨rfl, rfl, rfl⟩ := hx
        exact h4
    · rw [hob, if_neg h1] at hx
      have hl' : h.live b g = true := by
        cases g with
        | none => rfl
        | some g => simpa [Hp.live, hgs] using hl
      exact (hr.cell b e' cs t g h2 hx hl').mono hle
  · intro b cs t g hx
    obtain ⟨_, hx⟩ := hold _ _ _ _ hx
    have := hr.grp _ _ _ _ hx
    rw [hnx]; omega
  · intro b e' cs t g hb hx
    obtain ⟨hne, hx⟩ := hold _ _ _ _ hx
    rcases hput b e' hb with ⟨rfl, rfl⟩ | ⟨h1, h2⟩
    · exact absurd rfl hne
    · obtain ⟨e2, h3⟩ := hr.gdom _ _ _ _ _ h2 hx
      exact ⟨e2, hle _ _ h3⟩
  · intro g l hg b hb
    rw [hgs] at hg
    obtain ⟨cs, t, h1⟩ := hr.stack g l hg b hb
    refine ⟨cs, t, ?_⟩
    rw [hob, if_neg]
    · exact h1
    · intro e2; subst e2; rw [hobn] at h1; simp at h1
  · intro g l hg
    rw [hgs] at hg
    have hmem := hr.stack g l hg
    have hp := hr.nest g l hg
    refine hp.imp_of_mem ?_
    intro b1 b2 m1 m2 hn e1 e2 cs1 cs2 t1 t2 g1 g2 s1 s2 o1 o2 hrb
    have n1 : b1 ≠ h.next := by
      obtain ⟨cs, t, h1⟩ := hmem b1 m1
      intro e3; subst e3; rw [hobn] at h1; simp at h1
    have n2 : b2 ≠ h.next := by
      obtain ⟨cs, t, h1⟩ := hmem b2 m2
      intro e3; subst e3; rw [hobn] at h1; simp at h1
    rw [hob, if_neg n1] at o1
    rw [hob, if_neg n2] at o2
    have s1 : σ b1 = some e1 := by rcases hput _ _ s1 with ⟨h1, _⟩ | ⟨_, h1⟩; exact absurd h1 n1; exact h1
    have s2 : σ b2 = some e2 := by rcases hput _ _ s2 with ⟨h1, _⟩ | ⟨_, h1⟩; exact absurd h1 n2; exact h1
    exact hn e1 e2 cs1 cs2 t1 t2 g1 g2 s1 s2 o1 o2 hrb
  · intro b1 b2 e1 e2 cs1 cs2 t1 t2 g1 g2 s1 s2 o1 o2 l1 l2 hrb
    obtain ⟨n1, o1⟩ := hold _ _ _ _ o1
    obtain ⟨n2, o2⟩ := hold _ _ _ _ o2
    have s1 : σ b1 = some e1 := by rcases hput _ _ s1 with ⟨h1, _⟩ | ⟨_, h1⟩; exact absurd h1 n1; exact h1
    have s2 : σ b2 = some e2 := by rcases hput _ _ s2 with ⟨h1, _⟩ | ⟨_, h1⟩; exact absurd h1 n2; exact h1
    have hl : ∀ b g, (h.addO o).live b (some g) = h.live b (some g) := by intro b g; simp [Hp.live, hgs]
    rw [hl] at l1 l2
    exact hr.apart b1 b2 e1 e2 cs1 cs2 t1 t2 g1 g2 s1 s2 o1 o2 l1 l2 hrb

/-! ### 2. Values of a type, in read-only memory -/
section
variable (P : Program)
def FineFs (G : TypeId → List Value → Prop) : List Field → List Value → Prop
  | [], cs => cs = []
  | f :: fs, cs => ∃ c1 c2, cs = c1 ++ c2 ∧ G f.type c1 ∧ FineFs G fs c2

/-- The elements of an array, as fields. -/
def arrF (e : TypeId) (w n : Nat) : List Field := (List.range n).map fun i => { name := "", type := e, offset := i * w, embedded := false, tag := "", pkgPath := "", byteOffset := 0 }
theorem arrF_get {e : TypeId} {w n i : Nat} {f : Field} (h : (arrF e w n)[i]? = some f) : i < n ∧ f.type = e ∧ f.offset = i * w := by
  unfold arrF at h
  rw [List.getElem?_map] at h
  cases hr : (List.range n)[i]? with
  | none => rw [hr] at h; simp at h
  | some j =>
    rw [hr] at h
    obtain ⟨h1, h2⟩ := List.getElem?_eq_some_iff.1 hr
    simp at h1 h2
    simp at h
    subst h
    exact ⟨h1, rfl, by rw [h2]⟩
theorem arrF_all {e : TypeId} {w n : Nat} {p : Field → Bool} (h : ∀ f, f.type = e → p f = true) : (arrF e w n).all p = true := by
  rw [List.all_eq_true]
  intro f hf
  unfold arrF at hf
  rw [List.mem_map] at hf
  obtain ⟨i, _, rfl⟩ := hf
  exact h _ rfl
theorem arrF_len (e : TypeId) (w n : Nat) : (arrF e w n).length = n := by simp [arrF]

/-- Cells of a value of a type; its slices lie in read-only blocks; no slice and no string is longer than N. -/
def Fine (h : Hp) (N : Nat) : (fuel : Nat) → TypeId → List Value → Prop
  | 0, _, _ => False
  | n + 1, t, cs => match P.underlying t with
    | some .bool => ∃ b, cs = [.bool b]
    | some (.int k) => ∃ i, cs = [.int k i] ∧ (Lit.int k i).wf = true
    | some .string => ∃ s, cs = [.string s] ∧ s.size ≤ N
    | some (.struct fs) => FineFs (Fine h N n) fs.toList cs
    | some (.slice e) => cs = [.slice none 0 0] ∨ ∃ b l c, cs = [.slice (some ⟨b, 0, none⟩) l c] ∧ l ≤ c ∧ c ≤ N ∧
        (0 < l → ∃ CS, Blk h b none CS ∧ CS.length = l * P.cellsOf e ∧ ∀ i, i < l → Fine h N n e ((CS.drop (i * P.cellsOf e)).take (P.cellsOf e)))
    | some (.array len e) => FineFs (Fine h N n) (arrF e (P.cellsOf e) len) cs
    | _ => False

/-- The fields lie one behind the other. -/
def tiled : List Field → Nat → Nat → Bool
  | [], o, n => o == n
  | f :: fs, o, n => f.offset == o && tiled fs (o + P.cellsOf f.type) n

/-- Plain data: bools, whole numbers, strings, structs and slices of such. -/
def simpleT : (fuel : Nat) → TypeId → Bool
  | 0, _ => false
  | n + 1, t => match P.underlying t with
    | some .bool | some (.int _) | some .string => P.cellsOf t == 1
    | some (.struct fs) => tiled P fs.toList 0 (P.cellsOf t) && fs.toList.all fun f => simpleT n f.type
    | some (.slice e) => P.cellsOf t == 1 && decide (0 < P.cellsOf e) && simpleT n e
    | some (.array len e) => tiled P (arrF e (P.cellsOf e) len) 0 (P.cellsOf t) && simpleT n e
    | _ => false

/-- A measure of data. -/
structure Meas {H : Type} (B : DataW H → Nat) : Prop where
  slice : ∀ elems spare, elems.length + spare.length ≤ B (.slice elems spare) ∧ ∀ d ∈ elems, B d ≤ B (.slice elems spare)
  agg : ∀ parts, ∀ d ∈ parts, B d ≤ B (.agg parts)
  str : ∀ bytes, bytes.length ≤ B (.lit (.string bytes))

/-- What is known of data at their types, such that no slice and no string is longer than N. -/
structure MeasT {H : Type} (N : Nat) (Q : TypeId → DataW H → Prop) : Prop where
  slice : ∀ t e elems spare, P.underlying t = some (.slice e) → Q t (.slice elems spare) → elems.length + spare.length ≤ N ∧ ∀ d ∈ elems, Q e d
  struct : ∀ t fs parts, P.underlying t = some (.struct fs) → Q t (.agg parts) → ∀ (i : Nat) f d, fs.toList[i]? = some f → parts[i]? = some d → Q f.type d
  array : ∀ t n e parts, P.underlying t = some (.array n e) → Q t (.agg parts) → ∀ d ∈ parts, Q e d
  str : ∀ t bytes, P.underlying t = some .string → Q t (.lit (.string bytes)) → bytes.length ≤ N

theorem Meas.typed {H : Type} {B : DataW H → Nat} (M : Meas B) (N : Nat) : MeasT P N fun _ d => B d ≤ N := by
  refine ⟨fun t e elems spare _ h => ⟨Nat.le_trans (M.slice elems spare).1 h, fun d hd => Nat.le_trans ((M.slice elems spare).2 d hd) h⟩, fun t fs parts _ h i f d _ hd => ?_, fun t n e parts _ h d hd => Nat.le_trans (M.agg parts d hd) h, fun t bytes _ h => Nat.le_trans (M.str bytes) h⟩
  exact Nat.le_trans (M.agg parts d (List.mem_of_getElem? hd)) h

/-- No element of a slice is without bytes. -/
def bytesT : (fuel : Nat) → TypeId → Bool
  | 0, _ => false
  | n + 1, t => match P.underlying t with
    | some (.struct fs) => fs.toList.all fun f => bytesT n f.type
    | some (.slice e) => decide (1 ≤ P.bytesOf e) && bytesT n e
    | some (.array _ e) => bytesT n e
    | _ => true

/-- The reach of a claim's form, as what is known of data. -/
def Reach {H : Type} (R : Nat) (t : TypeId) (d : DataW H) : Prop := (∃ m, bytesT P m t = true) ∧ ∀ x ∈ d.weights P t, x ≤ R

theorem weightsAll_mem {H : Type} {e : TypeId} {x : Nat} : ∀ {ds : List (DataW H)} {d : DataW H}, d ∈ ds → x ∈ d.weights P e → x ∈ DataW.weightsAll P e ds
  | y :: ds, d, hd, hx => by
    simp only [DataW.weightsAll, List.mem_append]
    cases List.mem_cons.1 hd with
    | inl e => subst e; exact .inl hx
    | inr hd => exact .inr (weightsAll_mem hd hx)
theorem weightsEach_mem {H : Type} {x : Nat} : ∀ {ts : List TypeId} {ds : List (DataW H)} {i : Nat} {t : TypeId} {d : DataW H}, ts[i]? = some t → ds[i]? = some d → x ∈ d.weights P t → x ∈ DataW.weightsEach P ts ds
  | [], ds, i, t, d, ht, _, _ => by simp at ht
  | t' :: ts, [], i, t, d, _, hd, _ => by simp at hd
  | t' :: ts, y :: ds, 0, t, d, ht, hd, hx => by
    simp at ht hd
    subst ht hd
    simp only [DataW.weightsEach, List.mem_append]
    exact .inl hx
  | t' :: ts, y :: ds, i + 1, t, d, ht, hd, hx => by
    simp only [DataW.weightsEach, List.mem_append]
    exact .inr (weightsEach_mem (by simpa using ht) (by simpa using hd) hx)

theorem Reach.meas {H : Type} (R : Nat) : MeasT P R (Reach P (H := H) R) := by
  refine ⟨fun t e elems spare hu ⟨⟨m, hm⟩, hw⟩ => ?_, fun t fs parts hu ⟨⟨m, hm⟩, hw⟩ i f d hf hd => ?_, fun t n e parts hu ⟨⟨m, hm⟩, hw⟩ d hd => ?_, fun t bytes hu ⟨_, hw⟩ => ?_⟩
  · cases m with
    | zero => simp [bytesT] at hm
    | succ m =>
      unfold bytesT at hm
      simp only [hu, Bool.and_eq_true, decide_eq_true_eq] at hm
      simp only [DataW.weights, hu] at hw
      refine ⟨?_, fun d hd => ⟨⟨m, hm.2⟩, fun x hx => hw x (List.mem_cons_of_mem _ (List.mem_append_left _ (weightsAll_mem P hd hx)))⟩⟩
      have h1 := hw _ (List.mem_cons_self ..)
      exact Nat.le_trans (Nat.le_mul_of_pos_right _ hm.1) h1
  · cases m with
    | zero => simp [bytesT] at hm
    | succ m =>
      unfold bytesT at hm
      simp only [hu, List.all_eq_true] at hm
      simp only [DataW.weights, hu] at hw
      exact ⟨⟨m, hm f (List.mem_of_getElem? hf)⟩, fun x hx => hw x (weightsEach_mem P (by rw [List.getElem?_map, hf]; rfl) hd hx)⟩
  · cases m with
    | zero => simp [bytesT] at hm
    | succ m =>
      unfold bytesT at hm
      simp only [hu] at hm
      simp only [DataW.weights, hu] at hw
      exact ⟨⟨m, hm⟩, fun x hx => hw x (weightsAll_mem P hd hx)⟩
  · exact hw _ (by simp [DataW.weights])
end

section
variable {P : Program}
theorem FineFs.mono {G G' : TypeId → List Value → Prop} (hg : ∀ t cs, G t cs → G' t cs) : ∀ {fs : List Field} {cs : List Value}, FineFs G fs cs → FineFs G' fs cs
  | [], cs, h => h
  | f :: fs, cs, ⟨c1, c2, h1, h2, h3⟩ => ⟨c1, c2, h1, hg _ _ h2, FineFs.mono hg h3⟩

theorem Fine.keep {S : Nat → Prop} {h h' : Hp} (k : Keep S h h') {N : Nat} : ∀ {n : Nat} {t : TypeId} {cs : List Value}, Fine P h N n t cs → Fine P h' N n t cs
  | 0, _, _, hg => hg
  | n + 1, t, cs, hg => by
    unfold Fine at hg ⊢
    split at hg <;> try exact hg
    · exact hg.mono fun t cs h => Fine.keep k h
    · rcases hg with hg | ⟨b, l, c, h1, h2, h3, h4⟩
      · exact .inl hg
      · refine .inr ⟨b, l, c, h1, h2, h3, fun hl => ?_⟩
        obtain ⟨CS, h5, h6, h7⟩ := h4 hl
        exact ⟨CS, k.blk h5 (by simp), h6, fun i hi => Fine.keep k (h7 i hi)⟩
    · exact hg.mono fun t cs h => Fine.keep k h

section
variable {h : Hp} {N n : Nat} {t : TypeId} {cs : List Value}
theorem Fine.struct {fs : Array Field} (hu : P.underlying t = some (.struct fs)) (hg : Fine P h N n t cs) : ∃ m, n = m + 1 ∧ FineFs (Fine P h N m) fs.toList cs := by
  cases n with
  | zero => exact hg.elim
  | succ n => unfold Fine at hg; rw [hu] at hg; exact ⟨n, rfl, hg⟩
theorem Fine.array {e : TypeId} {len : Nat} (hu : P.underlying t = some (.array len e)) (hg : Fine P h N n t cs) : ∃ m, n = m + 1 ∧ FineFs (Fine P h N m) (arrF e (P.cellsOf e) len) cs := by
  cases n with
  | zero => exact hg.elim
  | succ n => unfold Fine at hg; rw [hu] at hg; exact ⟨n, rfl, hg⟩
theorem Fine.bool (hu : P.underlying t = some .bool) (hg : Fine P h N n t cs) : ∃ b, cs = [.bool b] := by
  cases n with
  | zero => exact hg.elim
  | succ n => unfold Fine at hg; rw [hu] at hg; exact hg
theorem Fine.int {k : IntKind} (hu : P.underlying t = some (.int k)) (hg : Fine P h N n t cs) : ∃ i, cs = [.int k i] ∧ (Lit.int k i).wf = true := by
  cases n with
  | zero => exact hg.elim
  | succ n => unfold Fine at hg; rw [hu] at hg; exact hg
theorem Fine.string (hu : P.underlying t = some .string) (hg : Fine P h N n t cs) : ∃ s, cs = [.string s] ∧ s.size ≤ N := by
  cases n with
  | zero => exact hg.elim
  | succ n => unfold Fine at hg; rw [hu] at hg; exact hg

theorem fine_rows {α : Type} {enc : α → List Value} {w : Nat} {CS : List Value} : ∀ (l : Nat), CS.length = l * w → (∀ i, i < l → ∃ x, (CS.drop (i * w)).take w = enc x) → ∃ L : List α, L.length = l ∧ CS = L.flatMap enc
  | 0, hl, _ => ⟨[], rfl, by simp at hl; simp [hl]⟩
  | l + 1, hl, hG => by
    obtain ⟨L, hL, he⟩ := fine_rows (enc := enc) (w := w) (CS := CS.take (l * w)) l (by rw [List.length_take, hl, Nat.succ_mul]; omega) (fun i hi => by
      obtain ⟨x, hx⟩ := hG i (by omega)
      refine ⟨x, ?_⟩
      have h2 : i * w + w ≤ l * w := by rw [← Nat.succ_mul]; exact Nat.mul_le_mul_right w hi
      rw [List.drop_take, List.take_take, Nat.min_eq_left (by omega)]
      exact hx)
    obtain ⟨x, hx⟩ := hG l (by omega)
    refine ⟨L ++ [x], by simp [hL], ?_⟩
    rw [List.flatMap_append, ← he]
    simp only [List.flatMap_cons, List.flatMap_nil, List.append_nil]
    rw [← hx]
    rw [List.take_of_length_le (l := CS.drop (l * w)) (by rw [List.length_drop, hl, Nat.succ_mul]; omega), List.take_append_drop]

/-- A slice, its elements told by their encoding. -/
theorem Fine.slice {e : TypeId} {α : Type} {enc : α → List Value} {w : Nat} (hu : P.underlying t = some (.slice e)) (hw : P.cellsOf e = w) (hg : Fine P h N n t cs)
    (he : ∀ m cs, Fine P h N m e cs → ∃ x, cs = enc x) : ∃ a l c L, cs = [.slice a l c] ∧ c ≤ N ∧ SlT enc w h none a l c L := by
  cases n with
  | zero => exact hg.elim
  | succ n =>
    unfold Fine at hg
    rw [hu] at hg
    rcases hg with rfl | ⟨b, l, c, rfl, hlc, hc, hG⟩
    · exact ⟨none, 0, 0, [], rfl, Nat.zero_le _, SlT.nil h none⟩
    · by_cases hl : 0 < l
      · obtain ⟨CS, hb, hlen, hG⟩ := hG hl
        rw [hw] at hlen hG
        obtain ⟨L, hL, rfl⟩ := fine_rows (enc := enc) l hlen fun i hi => he _ _ (hG i hi)
        refine ⟨_, l, c, L, rfl, by omega, ⟨hlc, hlen, .inl rfl, fun _ => ⟨_, hb, by omega, ?_⟩⟩, hL⟩
        rw [List.drop_zero, List.take_of_length_le (by omega)]
      · have : l = 0 := by omega
        subst this
        exact ⟨_, 0, c, [], rfl, hc, ⟨hlc, by simp, .inl rfl, fun h0 => by omega⟩, rfl⟩
end

theorem addO_keep {h : Hp} (wf : Wf h) (o : Option Ob) : Kept h (h.addO o) := by
  have hob := Hp.ob_addO h (wf.fresh _ (Nat.le_refl _)).1 o
  refine ⟨by rw [Hp.next_addO]; omega, fun b cs t hb => ?_, fun b cs t g hb _ => ?_, fun b o hb _ _ => by rw [hob, if_neg (by have := wf.lt hb; omega)]; exact hb⟩
  · rw [hob, if_neg (by have := wf.lt hb; omega)]; exact hb
  · rw [hob, if_neg (by have := wf.lt hb; omega), Hp.gs_addO]; exact ⟨hb, rfl⟩

variable {H : Type} {enc : TypeId × Value → H} {w : World} {B : DataW H → Nat}

/-- What the canonical side of some cells is. -/
def CanonOf (P : Program) (w : World) (N n : Nat) (σ : Sg) (h : Hp) (cs : List Value) (G : Hp → List Value → Prop) : Prop :=
  ∃ σ' h' cs', σ.le σ' ∧ HR w.heap.size σ' h' w ∧ Kept h h' ∧ LRel σ' cs' cs ∧ G h' cs'

theorem canonT {Q : TypeId → DataW H → Prop} (N : Nat) (M : MeasT P N Q) : ∀ (n m : Nat) (t : TypeId) (cs : List Value) (x : DataW H × List MemPlace), simpleT P m t = true → DataW.trod enc P w 0 (fun _ => true) true n t cs = some x → Q t x.1 →
    (∀ a l c, Value.slice (some a) l c ∈ cs → 0 < w.heap.size) → ∀ (σ : Sg) (h : Hp), HR w.heap.size σ h w → CanonOf P w N n σ h cs fun h' cs' => Fine P h' N n t cs'
  | 0, m, t, cs, x, _, hx, _, _, σ, h, hr => by simp [DataW.trod] at hx
  | n + 1, 0, t, cs, x, hs, _, _, _, σ, h, hr => by simp [simpleT] at hs
  | n + 1, m + 1, t, cs, x, hs, hx, hB, hz, σ, h, hr => by
    have wf := hr.wf
    have main : ∀ (gs : List Field) (ys : List (DataW H × List MemPlace)) (o : Nat) (cs : List Value) (σ : Sg) (h : Hp), tiled P gs o (o + cs.length) = true → gs.all (fun f => simpleT P m f.type) = true →
        ys.length = gs.length → (∀ (i : Nat) f, gs[i]? = some f → DataW.trod enc P w 0 (fun _ => true) true n f.type ((cs.drop (f.offset - o)).take (P.cellsOf f.type)) = ys[i]?) → (∀ (i : Nat) f y, gs[i]? = some f → ys[i]? = some y → Q f.type y.1) →
        (∀ a l c, Value.slice (some a) l c ∈ cs → 0 < w.heap.size) → HR w.heap.size σ h w → CanonOf P w N n σ h cs fun h' cs' => FineFs (Fine P h' N n) gs cs' := by
      intro gs
      induction gs with
      | nil =>
        intro ys o cs σ h ht _ _ _ _ _ hr
        simp [tiled] at ht
        subst ht
        exact ⟨σ, h, [], Sg.le_refl σ, hr, Keep.refl _ _, LRel.nil σ, rfl⟩
      | cons f gs ih =>
        intro ys o cs σ h ht hall hlen hget hBy hz hr
        simp only [tiled, Bool.and_eq_true, beq_iff_eq] at ht
        simp only [List.all_cons, Bool.and_eq_true] at hall
        obtain ⟨ho, ht⟩ := ht
        cases ys with
        | nil => simp at hlen
        | cons y ys =>
          have h0 := hget 0 f (by simp)
          simp only [List.getElem?_cons_zero] at h0
          rw [show f.offset - o = 0 by omega, List.drop_zero] at h0
          obtain ⟨σ1, h1, c1, l1, r1, k1, e1, g1⟩ := canonT N M n m f.type _ y hall.1 h0 (hBy 0 f y rfl rfl) (fun a l c hm => hz a l c (List.mem_of_mem_take hm)) σ h hr
          have hle : P.cellsOf f.type ≤ cs.length := by
            have : ∀ (gs : List Field) (a b : Nat), tiled P gs a b = true → a ≤ b := by
              intro gs
              induction gs with
              | nil => intro a b h; simp [tiled] at h; omega
              | cons g gs ih => intro a b h; simp only [tiled, Bool.and_eq_true] at h; have := ih _ _ h.2; omega
            have := this _ _ _ ht
            omega
          obtain ⟨σ2, h2, c2, l2, r2, k2, e2, g2⟩ := ih ys (o + P.cellsOf f.type) (cs.drop (P.cellsOf f.type)) σ1 h1 (by rw [List.length_drop, show o + P.cellsOf f.type + (cs.length - P.cellsOf f.type) = o + cs.length by omega]; exact ht) hall.2 (by simpa using hlen)
            (fun i g hg => by
              have := hget (i + 1) g (by simpa using hg)
              simp only [List.getElem?_cons_succ] at this
              rw [← this, List.drop_drop]
              have hoff : ∀ (gs : List Field) (a b : Nat), tiled P gs a b = true → ∀ (i : Nat) g, gs[i]? = some g → a ≤ g.offset := by
                intro gs
                induction gs with
                | nil => intro a b _ i g hg; simp at hg
                | cons g' gs ih =>
                  intro a b h i g hg
                  simp only [tiled, Bool.and_eq_true, beq_iff_eq] at h
                  cases i with
                  | zero => simp at hg; subst hg; omega
                  | succ i => have := ih _ _ h.2 i g (by simpa using hg); omega
              have := hoff _ _ _ ht i g hg
              rw [show P.cellsOf f.type + (g.offset - (o + P.cellsOf f.type)) = g.offset - o by omega])
            (fun i g y hg hy => hBy (i + 1) g y (by simpa using hg) (by simpa using hy)) (fun a l c hm => hz a l c (List.mem_of_mem_drop hm)) r1
          refine ⟨σ2, h2, c1 ++ c2, Sg.le_trans l1 l2, r2, k1.trans hr.wf k2 (fun _ _ hf => hf), ?_, c1, c2, rfl, g1.keep k2, g2⟩
          have := (e1.mono l2).append e2
          rwa [List.take_append_drop] at this
    unfold simpleT at hs
    split at hs
    · rename_i hu
      obtain ⟨b, rfl, rfl⟩ := DataW.trod_bool hu hx
      refine ⟨σ, h, [.bool b], Sg.le_refl σ, hr, Keep.refl _ _, LRel.cons (.bool b) (LRel.nil σ), ?_⟩
      unfold Fine; rw [hu]; exact ⟨b, rfl⟩
    · rename_i k hu
      obtain ⟨i, rfl, rfl, hw⟩ := DataW.trod_int hu hx
      refine ⟨σ, h, [.int k i], Sg.le_refl σ, hr, Keep.refl _ _, LRel.cons (.int k i) (LRel.nil σ), ?_⟩
      unfold Fine; rw [hu]; exact ⟨i, rfl, hw⟩
    · rename_i hu
      obtain ⟨s, rfl, rfl, hsz⟩ := DataW.trod_string hu hx
      refine ⟨σ, h, [.string s], Sg.le_refl σ, hr, Keep.refl _ _, LRel.cons (.string s) (LRel.nil σ), ?_⟩
      unfold Fine; rw [hu]
      refine ⟨s, rfl, ?_⟩
      have h1 := M.str t s.data.toList hu hB
      have h2 : s.data.toList.length = s.size := Array.length_toList
      omega
    · rename_i fs hu
      simp only [Bool.and_eq_true] at hs
      obtain ⟨xs, n', e, rfl, hl, hxl, hf⟩ := DataW.trod_struct hu hx
      cases e
      obtain ⟨σ', h', cs', h1, h2, h3, h4, h5⟩ := main fs.toList xs 0 cs σ h (by rw [Nat.zero_add, hl]; exact hs.1) hs.2 (by simpa using hxl) (fun i f hg => by simpa using hf i f (by simpa using hg))
        (fun i f y hf hy => M.struct t fs (xs.map (·.1)) hu hB i f y.1 hf (by rw [List.getElem?_map, hy]; rfl)) hz hr
      refine ⟨σ', h', cs', h1, h2, h3, h4, ?_⟩
      unfold Fine; rw [hu]; exact h5
    · rename_i e hu
      simp only [Bool.and_eq_true, decide_eq_true_eq] at hs
      obtain ⟨⟨_, hpos⟩, hs⟩ := hs
      rcases DataW.trod_slice hu hx with ⟨rfl, rfl⟩ | ⟨a, len, cap, elems, rest, n', e1, rfl, rfl, _, hlc, _, hel, hget, hsp, _⟩
      · refine ⟨σ, h, [.slice none 0 0], Sg.le_refl σ, hr, Keep.refl _ _, LRel.cons .snil (LRel.nil σ), ?_⟩
        unfold Fine; rw [hu]; exact .inl rfl
      · cases e1
        have hsz : 0 < w.heap.size := hz a len cap (by simp)
        obtain ⟨hrest, hrest'⟩ := hsp rfl
        have hcapN : cap ≤ N := by
          have := (M.slice t e (elems.map (·.1)) (rest.map (·.1)) hu hB).1
          simp only [List.length_map] at this
          omega
        have hspot : 0 < cap → a.spot = none ∧ a.block < w.heap.size := by
          intro hc
          have : ∃ i cs', i < cap ∧ w.cells? 0 (a.add (i * P.cellsOf e)) (P.cellsOf e) = some cs' ∧ i = 0 := by
            by_cases hl0 : 0 < len
            · have := hget 0 hl0
              rw [List.getElem?_eq_getElem (by omega)] at this
              obtain ⟨cs', h1, _⟩ := Option.bind_eq_some_iff.1 this
              exact ⟨0, cs', hc, h1, rfl⟩
            · have h0 : len = 0 := by omega
              have := hrest' 0 (by omega)
              rw [List.getElem?_eq_getElem (by omega)] at this
              obtain ⟨cs', h1, _⟩ := Option.bind_eq_some_iff.1 this
              exact ⟨0, cs', hc, by simpa [h0] using h1, rfl⟩
          obtain ⟨i, cs', _, h1, rfl⟩ := this
          obtain ⟨_, h2, h3⟩ := World.cells?_some h1
          have h4 := h3 0 hpos
          simp only [Nat.zero_mul] at h4
          have h5 : (a.add 0).add 0 = a := by simp [Addr.add]
          rw [h5, List.getElem?_eq_getElem (by omega)] at h4
          unfold World.cell? at h4
          split at h4
          · rename_i c el fr hh
            split at h4
            · simp at h4
            · rename_i hsp2
              exact ⟨by simpa using hsp2, (Array.getElem?_eq_some_iff.1 hh).1⟩
          · simp at h4
        by_cases hl0 : len = 0
        · -- no element
          subst hl0
          let en : En := if a.block < w.heap.size then ⟨a.block, a.off, 0⟩ else ⟨0, 0, 0⟩
          have hen : en.rb < w.heap.size := by simp only [en]; split <;> assumption
          refine ⟨σ.put h.next en, h.addO none, [.slice (some ⟨h.next, 0, none⟩) 0 cap], Sg.put_le (hr.none_next (Nat.le_refl _)), hr.addO hen hen (.inl rfl), addO_keep wf none, LRel.cons ?_ (LRel.nil _), ?_⟩
          · refine .sexact h.next 0 0 cap en a (by simp [Sg.put]) hlc ?_
            by_cases hc : cap = 0
            · exact .inl hc
            · obtain ⟨h1, h2⟩ := hspot (by omega)
              right
              simp only [en, if_pos h2, Nat.add_zero]
              cases a; simp at h1; subst h1; rfl
          · unfold Fine; rw [hu]
            exact .inr ⟨h.next, 0, cap, rfl, hlc, hcapN, fun h0 => by omega⟩
        · have hlen : 0 < len := by omega
          obtain ⟨hs0, hblk⟩ := hspot (by omega)
          obtain ⟨ab, ao, asp⟩ := a
          simp at hs0; subst hs0
          have steps : ∀ k, k ≤ len → ∃ (σ' : Sg) (h' : Hp) (CS R : List Value), σ.le σ' ∧ HR w.heap.size σ' h' w ∧ Kept h h' ∧ LRel σ' CS R ∧ R.length = k * P.cellsOf e ∧
              (∀ j, j < k * P.cellsOf e → w.cell? ⟨ab, ao + j, none⟩ = R[j]?) ∧ ∀ i, i < k → Fine P h' N n e ((CS.drop (i * P.cellsOf e)).take (P.cellsOf e)) := by
            intro k
            induction k with
            | zero => intro _; exact ⟨σ, h, [], [], Sg.le_refl σ, hr, Keep.refl _ _, LRel.nil σ, by simp, by simp, by simp⟩
            | succ k ih =>
              intro hk
              obtain ⟨σ1, h1, CS, R, l1, r1, k1, e1, hRl, hR, hG⟩ := ih (by omega)
              have hgk := hget k (by omega)
              rw [List.getElem?_eq_getElem (by omega)] at hgk
              obtain ⟨ck, hc1, hc2⟩ := Option.bind_eq_some_iff.1 hgk
              obtain ⟨_, hck, hcell⟩ := World.cells?_some hc1
              have hBk : Q e (elems[k]'(by omega)).1 := (M.slice t e (elems.map (·.1)) (rest.map (·.1)) hu hB).2 _ (List.mem_map_of_mem (List.getElem_mem (by omega : k < elems.length)))
              obtain ⟨σ2, h2, c2, l2, r2, k2, e2, g2⟩ := canonT N M n m e ck _ hs hc2 hBk (fun _ _ _ _ => hsz) σ1 h1 r1
              have hCSl : CS.length = k * P.cellsOf e := by rw [e1.1, hRl]
              have hc2l : c2.length = P.cellsOf e := by rw [e2.1, hck]
              refine ⟨σ2, h2, CS ++ c2, R ++ ck, Sg.le_trans l1 l2, r2, k1.trans wf k2 (fun _ _ hf => hf), (e1.mono l2).append e2, by rw [List.length_append, hRl, hck, Nat.succ_mul], ?_, ?_⟩
              · intro j hj
                rw [Nat.succ_mul] at hj
                by_cases hjk : j < k * P.cellsOf e
                · rw [List.getElem?_append_left (by omega)]; exact hR j hjk
                · rw [List.getElem?_append_right (by omega), hRl]
                  have := hcell (j - k * P.cellsOf e) (by omega)
                  rw [← this]
                  congr 1
                  simp only [Addr.add]
                  split <;> split <;> simp <;> omega
              · intro i hi
                by_cases hik : i < k
                · have h3 : i * P.cellsOf e + P.cellsOf e ≤ k * P.cellsOf e := by rw [← Nat.succ_mul]; exact Nat.mul_le_mul_right _ hik
                  rw [List.drop_append_of_le_length (by omega), List.take_append_of_le_length (by rw [List.length_drop]; omega)]
                  exact (hG i hik).keep k2
                · have : i = k := by omega
                  subst this
                  rw [List.drop_append, List.drop_eq_nil_of_le (by omega), show i * P.cellsOf e - CS.length = 0 by omega, List.drop_zero, List.nil_append, List.take_of_length_le (by omega)]
                  exact g2
          obtain ⟨σ1, h1, CS, R, l1, r1, k1, e1, hRl, hR, hG⟩ := steps len (Nat.le_refl _)
          have hCSl : CS.length = len * P.cellsOf e := by rw [e1.1, hRl]
          have hfirst : ∃ c el fr, w.heap[ab]? = some (.cells c el fr) := by
            have := hR 0 (Nat.mul_pos hlen hpos)
            rw [List.getElem?_eq_getElem (by rw [hRl]; exact Nat.mul_pos hlen hpos)] at this
            unfold World.cell? at this
            split at this
            · rename_i c el fr hh; exact ⟨c, el, fr, hh⟩
            · simp at this
          obtain ⟨c, el, fr, hh⟩ := hfirst
          have hcs : ∀ j, j < len * P.cellsOf e → c[ao + j]? = R[j]? := by
            intro j hj
            have := hR j hj
            rw [← this]
            simp [World.cell?, hh]
          have hlast : ao + len * P.cellsOf e ≤ c.size := by
            have hj : len * P.cellsOf e - 1 < len * P.cellsOf e := by have := Nat.mul_pos hlen hpos; omega
            have := hcs _ hj
            rw [List.getElem?_eq_getElem (by omega)] at this
            have := (Array.getElem?_eq_some_iff.1 this).1
            omega
          have wf1 := r1.wf
          have hle1 : σ1.le (σ1.put h1.next ⟨ab, ao, c.size⟩) := Sg.put_le (r1.none_next (Nat.le_refl _))
          have hlies : Lies w.heap.size (σ1.put h1.next ⟨ab, ao, c.size⟩) w ⟨ab, ao, c.size⟩ CS none := by
            refine ⟨⟨c, el, fr, hh, rfl, by simp only; omega, ?_, by simp⟩, hblk⟩
            intro i v hv
            have hi : i < CS.length := (List.getElem?_eq_some_iff.1 hv).1
            obtain ⟨v', h3, h4⟩ := e1.get hv
            exact ⟨v', by rw [hcs i (by omega)]; exact h3, h4.mono hle1⟩
          refine ⟨σ1.put h1.next ⟨ab, ao, c.size⟩, h1.addO (some (.cells CS e none)), [.slice (some ⟨h1.next, 0, none⟩) len cap], Sg.le_trans l1 hle1, r1.addO hblk hblk (.inr ⟨CS, e, rfl, hlies⟩), k1.trans wf (addO_keep wf1 _) (fun _ _ hf => hf), LRel.cons ?_ (LRel.nil _), ?_⟩
          · exact .sexact h1.next 0 len cap ⟨ab, ao, c.size⟩ ⟨ab, ao, none⟩ (by simp [Sg.put]) hlc (.inr rfl)
          · unfold Fine; rw [hu]
            refine .inr ⟨h1.next, len, cap, rfl, hlc, hcapN, fun _ => ⟨CS, ?_, hCSl, fun i hi => (hG i hi).keep (addO_keep wf1 _)⟩⟩
            refine ⟨e, ?_, rfl⟩
            rw [Hp.ob_addO _ (wf1.fresh _ (Nat.le_refl _)).1, if_pos rfl]
    · rename_i len e hu
      simp only [Bool.and_eq_true] at hs
      obtain ⟨xs, n', e1, rfl, hl, hxl, hf⟩ := DataW.trod_array hu hx
      cases e1
      obtain ⟨σ', h', cs', h1, h2, h3, h4, h5⟩ := main (arrF e (P.cellsOf e) len) xs 0 cs σ h (by rw [Nat.zero_add, hl]; exact hs.1) (arrF_all fun f hf => by rw [hf]; exact hs.2) (by rw [arrF_len]; exact hxl)
        (fun i f hg => by
          obtain ⟨g1, g2, g3⟩ := arrF_get hg
          rw [g2, g3, Nat.sub_zero]
          exact hf i g1)
        (fun i f y hf hy => by
          rw [(arrF_get hf).2.1]
          exact M.array t len e (xs.map (·.1)) hu hB y.1 (List.mem_map_of_mem (List.mem_of_getElem? hy))) hz hr
      refine ⟨σ', h', cs', h1, h2, h3, h4, ?_⟩
      unfold Fine; rw [hu]; exact h5
    · simp at hs
end
end Go.Cn
