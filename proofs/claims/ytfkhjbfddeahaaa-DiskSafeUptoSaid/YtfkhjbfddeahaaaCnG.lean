/- The canonical semantics: the relation between heaps; what a new block, a store and an append keep of it. -/
import Derived.Test.YtfkhjbfddeahaaaCnF
set_option linter.unusedVariables false
set_option linter.unusedSimpArgs false
namespace Go.Cn

/-! ### 1. The relation -/
def sideOf (base rb : Nat) : Option Nat → Prop
  | none => rb < base
  | some _ => base ≤ rb

/-- A block's cells lie in the model's heap. -/
structure Lies (base : Nat) (σ : Sg) (w : World) (e : En) (cs : List Value) (g : Option Nat) : Prop where
  ex : ∃ c el fr, w.heap[e.rb]? = some (.cells c el fr) ∧ c.size = e.rs ∧ e.ro + cs.length ≤ e.rs ∧
    (∀ (i : Nat) v, cs[i]? = some v → ∃ v', c[e.ro + i]? = some v' ∧ VRel σ v v') ∧ (g.isSome = true → ∀ j, j < e.rs → ¬ (fr.1 ≤ j ∧ j < fr.2))
  side : sideOf base e.rb g

structure HR (base : Nat) (σ : Sg) (h : Hp) (w : World) : Prop where
  base_le : base ≤ w.heap.size
  dom : ∀ b e, σ b = some e → b < h.next ∧ e.rb < w.heap.size
  fresh : ∀ b, h.next ≤ b → h.ob b = none ∧ h.gs.get b = none
  cell : ∀ b e cs t g, σ b = some e → h.ob b = some (.cells cs t g) → h.live b g = true → Lies base σ w e cs g
  grp : ∀ b cs t g, h.ob b = some (.cells cs t (some g)) → g < h.next
  gdom : ∀ b e cs t g, σ b = some e → h.ob b = some (.cells cs t (some g)) → ∃ e', σ g = some e'
  stack : ∀ g l, h.gs.get g = some l → ∀ b ∈ l, ∃ cs t, h.ob b = some (.cells cs t (some g))
  nest : ∀ g l, h.gs.get g = some l → l.Pairwise fun b1 b2 => ∀ e1 e2 cs1 cs2 t1 t2 g1 g2, σ b1 = some e1 → σ b2 = some e2 →
    h.ob b1 = some (.cells cs1 t1 g1) → h.ob b2 = some (.cells cs2 t2 g2) → e1.rb = e2.rb → e2.ro + cs2.length ≤ e1.ro + cs1.length
  apart : ∀ b1 b2 e1 e2 cs1 cs2 t1 t2 g1 g2, σ b1 = some e1 → σ b2 = some e2 → h.ob b1 = some (.cells cs1 t1 (some g1)) → h.ob b2 = some (.cells cs2 t2 (some g2)) →
    h.live b1 (some g1) = true → h.live b2 (some g2) = true → e1.rb = e2.rb → g1 = g2

/-- What a run leaves as it was. -/
structure Ext (base : Nat) (σ : Sg) (h : Hp) (w : World) (σ' : Sg) (h' : Hp) (w' : World) : Prop where
  le : σ.le σ'
  os : w'.os = w.os
  tape : w'.tape = w.tape
  output : w'.output = w.output
  size : w.heap.size ≤ w'.heap.size
  below : ∀ k, k < base → w'.heap[k]? = w.heap[k]?
  other : ∀ k, k < w.heap.size → (∀ b e, σ b = some e → e.rb ≠ k) → w'.heap[k]? = w.heap[k]?
  img : ∀ b e, σ b = none → σ' b = some e → (∃ b0 e0, σ b0 = some e0 ∧ e0.rb = e.rb) ∨ w.heap.size ≤ e.rb
  next : h.next ≤ h'.next
  untouched : ∀ b, b < h.next → σ b = none → h'.ob b = h.ob b ∧ h'.gs.get b = h.gs.get b ∧ σ' b = none

theorem Ext.refl (base : Nat) (σ : Sg) (h : Hp) (w : World) : Ext base σ h w σ h w :=
  ⟨Sg.le_refl σ, rfl, rfl, rfl, Nat.le_refl _, fun _ _ => rfl, fun _ _ _ => rfl, fun b e h1 h2 => by rw [h1] at h2; simp at h2, Nat.le_refl _, fun b _ hb => ⟨rfl, rfl, hb⟩⟩

theorem Ext.trans {base : Nat} {σ σ1 σ2 : Sg} {h h1 h2 : Hp} {w w1 w2 : World} (a : Ext base σ h w σ1 h1 w1) (b : Ext base σ1 h1 w1 σ2 h2 w2) : Ext base σ h w σ2 h2 w2 := by
  refine ⟨Sg.le_trans a.le b.le, b.os.trans a.os, b.tape.trans a.tape, b.output.trans a.output, Nat.le_trans a.size b.size, fun k hk => (b.below k hk).trans (a.below k hk), ?_, ?_, Nat.le_trans a.next b.next, ?_⟩
  · intro k hk hno
    rw [b.other k (Nat.lt_of_lt_of_le hk a.size) ?_]
    · exact a.other k hk hno
    · intro b' e' he'
      cases hs : σ b' with
      | some e0 => have := a.le _ _ hs; rw [this] at he'; cases he'; exact hno _ _ hs
      | none =>
        rcases a.img b' e' hs he' with ⟨b0, e0, h0, h0'⟩ | h0
        · rw [← h0']; exact hno _ _ h0
        · omega
  · intro b' e' hs he'
    cases h1 : σ1 b' with
    | some e1 =>
      have := b.le _ _ h1; rw [this] at he'; cases he'
      exact a.img b' _ hs h1
    | none =>
      rcases b.img b' e' h1 he' with ⟨b0, e0, h0, h0'⟩ | h0
      · cases hs0 : σ b0 with
        | some e00 => have := a.le _ _ hs0; rw [this] at h0; cases h0; exact .inl ⟨b0, e0, hs0, h0'⟩
        | none =>
          rcases a.img b0 e0 hs0 h0 with ⟨b1, e1, h1', h1''⟩ | h1'
          · exact .inl ⟨b1, e1, h1', h1''.trans h0'⟩
          · right; omega
      · right; have := a.size; omega
  · intro b' hb' hs
    obtain ⟨x1, x2, x3⟩ := a.untouched b' hb' hs
    obtain ⟨y1, y2, y3⟩ := b.untouched b' (Nat.lt_of_lt_of_le hb' a.next) x3
    exact ⟨y1.trans x1, y2.trans x2, y3⟩

/-- The world's draws do not matter. -/
theorem HR.drawn {base : Nat} {σ : Sg} {h : Hp} {w w' : World} (hr : HR base σ h w) (hh : w'.heap = w.heap) : HR base σ h w' := by
  refine ⟨by rw [hh]; exact hr.base_le, by rw [hh]; exact hr.dom, hr.fresh, ?_, hr.grp, hr.gdom, hr.stack, hr.nest, hr.apart⟩
  intro b e cs t g h1 h2 h3
  obtain ⟨⟨c, el, fr, h4, h5⟩, h6⟩ := hr.cell b e cs t g h1 h2 h3
  exact ⟨⟨c, el, fr, by rw [hh]; exact h4, h5⟩, h6⟩

/-! ### 2. Reading -/
theorem HR.cellsAt {base : Nat} {σ : Sg} {h : Hp} {w : World} (hr : HR base σ h w) {b o n : Nat} {cs : List Value} {e : En} (hc : h.cellsAt b o n = some cs) (he : σ b = some e) :
    cs.length = n ∧ ∃ cs', cs'.length = n ∧ LRel σ cs cs' ∧ ∀ (j : Nat) v, cs'[j]? = some v → w.cell? ((⟨e.rb, e.ro + o, none⟩ : Addr).add j) = some v := by
  unfold Hp.cellsAt at hc
  split at hc
  · rename_i cs0 t g hob
    split at hc
    · rename_i hcond
      simp only [Bool.and_eq_true, decide_eq_true_eq] at hcond
      simp at hc; subst hc
      obtain ⟨⟨c, el, fr, h1, h2, h3, h4, h5⟩, _⟩ := hr.cell b e cs0 t g he hob hcond.1
      have hlen : ((cs0.drop o).take n).length = n := by simp; omega
      refine ⟨hlen, ((c.toList.drop (e.ro + o)).take n), by simp; omega, ⟨by rw [hlen]; simp; omega, ?_⟩, ?_⟩
      · intro i x y hx hy
        rw [List.getElem?_take] at hx hy
        split at hx
        · rename_i hi
          rw [if_pos hi, List.getElem?_drop] at hy
          rw [List.getElem?_drop] at hx
          obtain ⟨v', hv1, hv2⟩ := h4 _ _ hx
          rw [show e.ro + o + i = e.ro + (o + i) by omega] at hy
          simp at hy
          rw [hv1] at hy; cases hy; exact hv2
        · simp at hx
      · intro j v hv
        rw [List.getElem?_take] at hv
        split at hv
        · rw [List.getElem?_drop] at hv
          rw [add_plain]
          simp at hv
          simp only [World.cell?, h1]
          simpa using hv
        · simp at hv
    · simp at hc
  · simp at hc

/-! ### 3. A new block -/
/-- The world w' is w with one block more (and perhaps some answers of the tape used up). -/
structure WNew (w w' : World) (o : Obj) : Prop where
  heap : w'.heap = w.heap.push o
  os : w'.os = w.os
  tape : w'.tape = w.tape
  output : w'.output = w.output

def Sg.put (σ : Sg) (b : Nat) (e : En) : Sg := fun b' => if b' = b then some e else σ b'
theorem Sg.put_le {σ : Sg} {b : Nat} {e : En} (hb : σ b = none) : σ.le (σ.put b e) := by
  intro b' e' h'
  unfold Sg.put
  split
  · rename_i hh; subst hh; rw [hb] at h'; simp at h'
  · exact h'

theorem HR.none_next {base : Nat} {σ : Sg} {h : Hp} {w : World} (hr : HR base σ h w) {b : Nat} (hb : h.next ≤ b) : σ b = none := by
  cases hs : σ b with
  | none => rfl
  | some e => have := (hr.dom _ _ hs).1; omega

theorem Hp.live_congr {h h' : Hp} {b : Nat} {g : Option Nat} (hg : ∀ x, g = some x → h'.gs.get x = h.gs.get x) : h'.live b g = h.live b g := by
  cases g with
  | none => rfl
  | some x => simp only [Hp.live, hg x rfl]

theorem HR.alloc {base : Nat} {σ : Sg} {h : Hp} {w w' : World} (hr : HR base σ h w) {cs : List Value} {t : TypeId} {c : Array Value} {el : TypeId} {fr : Nat × Nat}
    (hw : WNew w w' (.cells c el fr)) (hlen : cs.length ≤ c.size) (hrel : ∀ (i : Nat) v, cs[i]? = some v → ∃ v', c[i]? = some v' ∧ VRel σ v v') (hfr : ∀ j, j < c.size → ¬ (fr.1 ≤ j ∧ j < fr.2)) :
    HR base (σ.put h.next ⟨w.heap.size, 0, c.size⟩) (h.alloc cs t) w' ∧ Ext base σ h w (σ.put h.next ⟨w.heap.size, 0, c.size⟩) (h.alloc cs t) w' ∧
      (σ.put h.next ⟨w.heap.size, 0, c.size⟩) h.next = some ⟨w.heap.size, 0, c.size⟩ := by
  have hσ : σ h.next = none := hr.none_next (Nat.le_refl _)
  have hle : σ.le (σ.put h.next ⟨w.heap.size, 0, c.size⟩) := Sg.put_le hσ
  have hold : ∀ k, k < w.heap.size → w'.heap[k]? = w.heap[k]? := by
    intro k hk; rw [hw.heap, Array.getElem?_push, if_neg (by omega)]
  have hput : ∀ b e, (σ.put h.next ⟨w.heap.size, 0, c.size⟩) b = some e → (b = h.next ∧ e = ⟨w.heap.size, 0, c.size⟩) ∨ (b ≠ h.next ∧ σ b = some e) := by
    intro b e hb
    unfold Sg.put at hb
    split at hb
    · rename_i hh; left; exact ⟨hh, by simpa using hb.symm⟩
    · rename_i hh; right; exact ⟨hh, hb⟩
  have hobn : h.ob h.next = none := (hr.fresh _ (Nat.le_refl _)).1
  have hgsn : h.gs.get h.next = none := (hr.fresh _ (Nat.le_refl _)).2
  refine ⟨⟨?_, ?_, ?_, ?_, ?_, ?_, ?_, ?_, ?_⟩, ⟨hle, hw.os, hw.tape, hw.output, ?_, ?_, ?_, ?_, ?_, ?_⟩, by simp [Sg.put]⟩
  · rw [hw.heap]; simp; have := hr.base_le; omega
  · intro b e hb
    rw [hw.heap, Hp.next_alloc]; simp
    rcases hput b e hb with ⟨rfl, rfl⟩ | ⟨_, h2⟩
    · simp
    · have := hr.dom _ _ h2; omega
  · intro b hb
    rw [Hp.next_alloc] at hb
    rw [Hp.ob_alloc, Hp.gs_alloc, if_neg (by omega)]
    exact hr.fresh b (by omega)
  · intro b e cs' t' g hb hob hl
    rw [Hp.ob_alloc] at hob
    rw [show (h.alloc cs t).live b g = h.live b g from Hp.live_congr fun _ _ => rfl] at hl
    rcases hput b e hb with ⟨rfl, rfl⟩ | ⟨h1, h2⟩
    · rw [if_pos rfl] at hob
      cases hob
      refine ⟨⟨c, el, fr, by rw [hw.heap]; simp, rfl, by simpa using hlen, ?_, fun _ => hfr⟩, hr.base_le⟩
      intro i v hv
      obtain ⟨v', h3, h4⟩ := hrel i v hv
      exact ⟨v', by simpa using h3, h4.mono hle⟩
    · rw [if_neg h1] at hob
      obtain ⟨⟨c0, el0, fr0, h3, h4, h5, h6, h7⟩, h8⟩ := hr.cell b e cs' t' g h2 hob hl
      refine ⟨⟨c0, el0, fr0, by rw [hold _ (hr.dom _ _ h2).2]; exact h3, h4, h5, ?_, h7⟩, h8⟩
      intro i v hv
      obtain ⟨v', h9, h10⟩ := h6 i v hv
      exact ⟨v', h9, h10.mono hle⟩
  · intro b cs' t' g hob
    rw [Hp.ob_alloc] at hob
    rw [Hp.next_alloc]
    split at hob
    · cases hob; omega
    · have := hr.grp b cs' t' g hob; omega
  · intro b e cs' t' g hb hob
    rw [Hp.ob_alloc] at hob
    rcases hput b e hb with ⟨rfl, rfl⟩ | ⟨h1, h2⟩
    · rw [if_pos rfl] at hob; cases hob; exact ⟨_, hb⟩
    · rw [if_neg h1] at hob
      obtain ⟨e', he'⟩ := hr.gdom b e cs' t' g h2 hob
      exact ⟨e', hle _ _ he'⟩
  · intro g l hg b hb
    rw [Hp.gs_alloc] at hg
    obtain ⟨cs', t', hob⟩ := hr.stack g l hg b hb
    refine ⟨cs', t', ?_⟩
    rw [Hp.ob_alloc, if_neg ?_]
    · exact hob
    · rintro rfl; rw [hobn] at hob; simp at hob
  · intro g l hg
    rw [Hp.gs_alloc] at hg
    refine (hr.nest g l hg).imp_of_mem fun {b1 b2} m1 m2 hp => ?_
    intro e1 e2 cs1 cs2 t1 t2 g1 g2 s1 s2 o1 o2
    have n1 : b1 ≠ h.next := by rintro rfl; obtain ⟨_, _, hx⟩ := hr.stack g l hg _ m1; rw [hobn] at hx; simp at hx
    have n2 : b2 ≠ h.next := by rintro rfl; obtain ⟨_, _, hx⟩ := hr.stack g l hg _ m2; rw [hobn] at hx; simp at hx
    rcases hput b1 e1 s1 with ⟨e, _⟩ | ⟨_, s1'⟩
    · exact absurd e n1
    · rcases hput b2 e2 s2 with ⟨e, _⟩ | ⟨_, s2'⟩
      · exact absurd e n2
      · rw [Hp.ob_alloc, if_neg n1] at o1
        rw [Hp.ob_alloc, if_neg n2] at o2
        exact hp e1 e2 cs1 cs2 t1 t2 g1 g2 s1' s2' o1 o2
  · intro b1 b2 e1 e2 cs1 cs2 t1 t2 g1 g2 s1 s2 o1 o2 l1 l2 hrb
    rw [show (h.alloc cs t).live b1 (some g1) = h.live b1 (some g1) from Hp.live_congr fun _ _ => rfl] at l1
    rw [show (h.alloc cs t).live b2 (some g2) = h.live b2 (some g2) from Hp.live_congr fun _ _ => rfl] at l2
    rw [Hp.ob_alloc] at o1 o2
    rcases hput b1 e1 s1 with ⟨rfl, rfl⟩ | ⟨n1, s1'⟩
    · rcases hput b2 e2 s2 with ⟨rfl, rfl⟩ | ⟨n2, s2'⟩
      · rw [if_pos rfl] at o1 o2; cases o1; cases o2; rfl
      · have := (hr.dom _ _ s2').2; simp at hrb; omega
    · rcases hput b2 e2 s2 with ⟨rfl, rfl⟩ | ⟨n2, s2'⟩
      · have := (hr.dom _ _ s1').2; simp at hrb; omega
      · rw [if_neg n1] at o1
        rw [if_neg n2] at o2
        exact hr.apart b1 b2 e1 e2 cs1 cs2 t1 t2 g1 g2 s1' s2' o1 o2 l1 l2 hrb
  · rw [hw.heap]; simp
  · intro k hk; exact hold k (by have := hr.base_le; omega)
  · intro k hk _; exact hold k hk
  · intro b e hs hb
    rcases hput b e hb with ⟨rfl, rfl⟩ | ⟨_, h2⟩
    · right; simp
    · rw [hs] at h2; simp at h2
  · rw [Hp.next_alloc]; omega
  · intro b hb hs
    refine ⟨?_, rfl, ?_⟩
    · rw [Hp.ob_alloc, if_neg (by omega)]
    · unfold Sg.put; rw [if_neg (by omega)]; exact hs

/-! ### 4. A store -/
/-- The world w' is w with one block's cells written. -/
structure WSet (w w' : World) (rb : Nat) (c' : Array Value) (el : TypeId) (fr : Nat × Nat) : Prop where
  at_ : w'.heap[rb]? = some (.cells c' el fr)
  ne : ∀ k, k ≠ rb → w'.heap[k]? = w.heap[k]?
  size : w'.heap.size = w.heap.size
  os : w'.os = w.os
  tape : w'.tape = w.tape
  output : w'.output = w.output

theorem WSet.setCells (b : Nat) : ∀ (vs : List Value) (o : Nat) (w : World) (c : Array Value) (el : TypeId) (fr : Nat × Nat), w.heap[b]? = some (.cells c el fr) → o + vs.length ≤ c.size →
    ∃ c', WSet w (w.setCells b o vs) b c' el fr ∧ c'.toList = splice c.toList o vs
  | [], o, w, c, el, fr, h, hl => ⟨c, ⟨h, fun _ _ => rfl, rfl, rfl, rfl, rfl⟩, by simp [splice]⟩
  | v :: vs, o, w, c, el, fr, h, hl => by
    simp only [List.length_cons] at hl
    have h1 : (w.setCell ⟨b, o, none⟩ v).heap[b]? = some (.cells (c.setIfInBounds o v) el fr) := by
      simp [World.setCell, Array.getElem?_modify, h]
    obtain ⟨c', hs, hc⟩ := WSet.setCells b vs (o + 1) (w.setCell ⟨b, o, none⟩ v) _ el fr h1 (by simp; omega)
    refine ⟨c', ⟨hs.at_, fun k hk => ?_, ?_, hs.os, hs.tape, hs.output⟩, ?_⟩
    · rw [World.setCells, hs.ne k hk]
      simp only [World.setCell, Array.getElem?_modify]
      rw [if_neg (fun e => hk e.symm)]
    · rw [World.setCells, hs.size]; simp [World.setCell]
    · rw [hc]
      apply List.ext_getElem?
      intro i
      rw [splice_get (by simp; omega), splice_get (by simp; omega)]
      simp only [List.length_cons]
      by_cases h2 : i = o
      · subst h2
        rw [if_neg (by omega), if_pos (by omega)]
        simp [show i < c.size by omega]
      · by_cases h3 : o ≤ i ∧ i < o + (vs.length + 1)
        · rw [if_pos (by omega), if_pos h3, show i - o = (i - (o + 1)) + 1 by omega, List.getElem?_cons_succ]
        · rw [if_neg (by omega), if_neg h3]
          simp [Array.toList_setIfInBounds, List.getElem?_set_ne (Ne.symm h2)]

theorem Hp.ob_only (h : Hp) (b g : Nat) : (h.only b g).ob = h.ob := by unfold Hp.only; split <;> rfl
theorem Hp.next_only (h : Hp) (b g : Nat) : (h.only b g).next = h.next := by unfold Hp.only; split <;> rfl
theorem Hp.gs_only (h : Hp) (b g g' : Nat) : (h.only b g).gs.get g' = if g' = g then (h.gs.get g).map fun _ => [b] else h.gs.get g' := by
  unfold Hp.only
  split
  · rename_i hg; split
    · rename_i e; subst e; rw [hg]; rfl
    · rfl
  · rename_i l hg
    rw [Hp.gs_setGs]
    split
    · rw [hg]; rfl
    · rfl

/-- What is alive behind a store was alive before it; of the group, the block alone. -/
theorem Hp.live_only {h : Hp} {b g b' : Nat} {g' : Option Nat} (hl : (h.only b g).live b' g' = true) (hb : h.live b (some g) = true) : h.live b' g' = true ∧ (g' = some g → b' = b) := by
  cases g' with
  | none => exact ⟨rfl, by simp⟩
  | some x =>
    simp only [Hp.live, Hp.gs_only] at hl ⊢
    by_cases hx : x = g
    · subst hx
      simp only [if_true] at hl
      simp only [Hp.live] at hb
      cases hg : h.gs.get x with
      | none =>
        simp [hg] at hl hb ⊢
        exact ⟨hl, by omega⟩
      | some l =>
        simp [hg] at hl hb ⊢
        exact ⟨by rw [hl]; exact hb, hl⟩
    · simp only [hx, if_false] at hl
      exact ⟨hl, fun e => absurd (by simpa using e) hx⟩

/-- A block's cells are written: in the canonical heap, and in the model's at the same places. -/
theorem HR.store {base : Nat} {σ : Sg} {h h' : Hp} {w : World} (hr : HR base σ h w) {b o : Nat} {vs vs' : List Value} (hs : h.store b o vs = some h') {e : En} (he : σ b = some e) (hv : LRel σ vs vs') :
    HR base σ h' (w.setCells e.rb (e.ro + o) vs') ∧ Ext base σ h w σ h' (w.setCells e.rb (e.ro + o) vs') ∧
    (∀ j, j < vs'.length → (w.cell? ⟨e.rb, e.ro + o + j, none⟩).isSome = true) ∧ (∀ j, j < vs'.length → w.frozen? ⟨e.rb, e.ro + o + j, none⟩ = false) ∧ vs.all isCell = true := by
  unfold Hp.store at hs
  split at hs
  · rename_i cs t g hob
    split at hs
    · rename_i hcond
      simp only [Bool.and_eq_true, decide_eq_true_eq] at hcond
      obtain ⟨⟨hl, hlen⟩, hcell⟩ := hcond
      simp at hs; subst hs
      obtain ⟨⟨c, el, fr, h1, h2, h3, h4, h5⟩, h6⟩ := hr.cell b e cs t (some g) he hob hl
      have h6 : base ≤ e.rb := h6
      have h5 := h5 rfl
      have hrb : e.rb < w.heap.size := (hr.dom _ _ he).2
      obtain ⟨c', hset, hc'⟩ := WSet.setCells e.rb vs' (e.ro + o) w c el fr h1 (by rw [← hv.1]; omega)
      have hcs : c'.size = c.size := by
        have := congrArg List.length hc'
        rw [splice_length (by simp; rw [← hv.1]; omega)] at this
        simpa using this
      have hget : ∀ i, c'[i]? = if e.ro + o ≤ i ∧ i < e.ro + o + vs'.length then vs'[i - (e.ro + o)]? else c[i]? := by
        intro i
        have : c'.toList[i]? = (splice c.toList (e.ro + o) vs')[i]? := by rw [hc']
        rw [splice_get (by simp; rw [← hv.1]; omega)] at this
        simpa using this
      refine ⟨⟨?_, ?_, ?_, ?_, ?_, ?_, ?_, ?_, ?_⟩, ⟨Sg.le_refl σ, hset.os, hset.tape, hset.output, by rw [hset.size]; exact Nat.le_refl _, ?_, ?_, fun b e s1 s2 => by rw [s1] at s2; simp at s2, ?_, ?_⟩, ?_, ?_, hcell⟩
      · rw [hset.size]; exact hr.base_le
      · intro b' e' hb'
        rw [Hp.next_setOb, Hp.next_only, hset.size]; exact hr.dom _ _ hb'
      · intro b' hb'
        rw [Hp.next_setOb, Hp.next_only] at hb'
        have hf := hr.fresh b' hb'
        have hne : b' ≠ b := by rintro rfl; rw [hf.1] at hob; simp at hob
        rw [Hp.ob_setOb, if_neg hne, Hp.ob_only, Hp.gs_setOb, Hp.gs_only]
        refine ⟨hf.1, ?_⟩
        have := hr.grp b cs t g hob
        rw [if_neg (by omega)]; exact hf.2
      · intro b' e' cs' t' g' hb' hob' hl'
        rw [show ((h.only b g).setOb b (.cells (splice cs o vs) t (some g))).live b' g' = (h.only b g).live b' g' from Hp.live_congr fun _ _ => rfl] at hl'
        obtain ⟨hl0, hl1⟩ := Hp.live_only hl' hl
        rw [Hp.ob_setOb] at hob'
        by_cases hbb : b' = b
        · subst hbb
          rw [if_pos rfl] at hob'
          rw [he] at hb'; cases hb'
          cases hob'
          refine ⟨⟨c', el, fr, hset.at_, by rw [hcs, h2], by rw [splice_length hlen]; exact h3, ?_, fun _ => h5⟩, h6⟩
          intro i v hiv
          rw [splice_get hlen] at hiv
          rw [hget]
          by_cases hin : o ≤ i ∧ i < o + vs.length
          · rw [if_pos hin] at hiv
            rw [if_pos (by rw [← hv.1]; omega), show e.ro + i - (e.ro + o) = i - o by omega]
            exact hv.get hiv
          · rw [if_neg hin] at hiv
            rw [if_neg (by rw [← hv.1]; omega)]
            exact h4 i v hiv
        · rw [if_neg hbb, Hp.ob_only] at hob'
          have hold := hr.cell b' e' cs' t' g' hb' hob' hl0
          have hne : e'.rb ≠ e.rb := by
            intro hrbe
            cases g' with
            | none => have : e'.rb < base := hold.side; omega
            | some g' =>
              have := hr.apart b' b e' e cs' cs t' t g' g hb' he hob' hob hl0 hl hrbe
              subst this
              exact hbb (hl1 rfl)
          obtain ⟨⟨c0, el0, fr0, k1, k2⟩, k3⟩ := hold
          exact ⟨⟨c0, el0, fr0, by rw [hset.ne _ hne]; exact k1, k2⟩, k3⟩
      · intro b' cs' t' g' hob'
        rw [Hp.ob_setOb] at hob'
        rw [Hp.next_setOb, Hp.next_only]
        split at hob'
        · cases hob'; exact hr.grp b cs t _ hob
        · rw [Hp.ob_only] at hob'; exact hr.grp b' cs' t' g' hob'
      · intro b' e' cs' t' g' hb' hob'
        rw [Hp.ob_setOb] at hob'
        split at hob'
        · rename_i e2; subst e2; cases hob'; exact hr.gdom _ _ cs t _ hb' hob
        · rw [Hp.ob_only] at hob'; exact hr.gdom _ _ _ _ _ hb' hob'
      · intro g' l hg b' hb'
        rw [Hp.gs_setOb, Hp.gs_only] at hg
        have key : ∃ cs0 t0, h.ob b' = some (.cells cs0 t0 (some g')) := by
          split at hg
          · rename_i e'; subst e'
            simp only [Option.map_eq_some_iff] at hg
            obtain ⟨l0, hl0, rfl⟩ := hg
            simp at hb'; subst hb'
            exact ⟨cs, t, hob⟩
          · exact hr.stack g' l hg b' hb'
        obtain ⟨cs0, t0, hob0⟩ := key
        rw [Hp.ob_setOb, Hp.ob_only]
        split
        · rename_i e'; subst e'
          rw [hob] at hob0; cases hob0
          exact ⟨_, _, rfl⟩
        · exact ⟨cs0, t0, hob0⟩
      · intro g' l hg
        rw [Hp.gs_setOb, Hp.gs_only] at hg
        split at hg
        · simp only [Option.map_eq_some_iff] at hg
          obtain ⟨l0, hl0, rfl⟩ := hg
          simp
        · rename_i hgne
          refine (hr.nest g' l hg).imp_of_mem fun {b1 b2} m1 m2 hp => ?_
          intro e1 e2 cs1 cs2 t1 t2 g1 g2 s1 s2 o1 o2
          have n1 : b1 ≠ b := by rintro rfl; obtain ⟨_, _, hx⟩ := hr.stack g' l hg _ m1; rw [hob] at hx; cases hx; exact hgne rfl
          have n2 : b2 ≠ b := by rintro rfl; obtain ⟨_, _, hx⟩ := hr.stack g' l hg _ m2; rw [hob] at hx; cases hx; exact hgne rfl
          rw [Hp.ob_setOb, if_neg n1, Hp.ob_only] at o1
          rw [Hp.ob_setOb, if_neg n2, Hp.ob_only] at o2
          exact hp e1 e2 cs1 cs2 t1 t2 g1 g2 s1 s2 o1 o2
      · intro b1 b2 e1 e2 cs1 cs2 t1 t2 g1 g2 s1 s2 o1 o2 l1 l2 hrbe
        rw [show ((h.only b g).setOb b (.cells (splice cs o vs) t (some g))).live b1 (some g1) = (h.only b g).live b1 (some g1) from Hp.live_congr fun _ _ => rfl] at l1
        rw [show ((h.only b g).setOb b (.cells (splice cs o vs) t (some g))).live b2 (some g2) = (h.only b g).live b2 (some g2) from Hp.live_congr fun _ _ => rfl] at l2
        have q1 := (Hp.live_only l1 hl).1
        have q2 := (Hp.live_only l2 hl).1
        have p1 : ∃ cs0 t0, h.ob b1 = some (.cells cs0 t0 (some g1)) := by
          rw [Hp.ob_setOb] at o1
          split at o1
          · rename_i e'; subst e'; cases o1; exact ⟨cs, t, hob⟩
          · rw [Hp.ob_only] at o1; exact ⟨_, _, o1⟩
        have p2 : ∃ cs0 t0, h.ob b2 = some (.cells cs0 t0 (some g2)) := by
          rw [Hp.ob_setOb] at o2
          split at o2
          · rename_i e'; subst e'; cases o2; exact ⟨cs, t, hob⟩
          · rw [Hp.ob_only] at o2; exact ⟨_, _, o2⟩
        obtain ⟨_, _, p1⟩ := p1
        obtain ⟨_, _, p2⟩ := p2
        exact hr.apart b1 b2 e1 e2 _ _ _ _ g1 g2 s1 s2 p1 p2 q1 q2 hrbe
      · intro k hk; exact hset.ne k (by omega)
      · intro k _ hno; exact hset.ne k (fun e' => hno _ _ he e'.symm)
      · rw [Hp.next_setOb, Hp.next_only]; exact Nat.le_refl _
      · intro b' hb' hs'
        have hne : b' ≠ b := by rintro rfl; rw [he] at hs'; simp at hs'
        refine ⟨by rw [Hp.ob_setOb, if_neg hne, Hp.ob_only], ?_, hs'⟩
        rw [Hp.gs_setOb, Hp.gs_only]
        obtain ⟨e', he'⟩ := hr.gdom b e cs t g he hob
        rw [if_neg ?_]
        rintro rfl; rw [he'] at hs'; simp at hs'
      · intro j hj
        rw [← hv.1] at hj
        have : e.ro + o + j < c.size := by omega
        simp [World.cell?, h1, this]
      · intro j hj
        rw [← hv.1] at hj
        have := h5 (e.ro + o + j) (by omega)
        simp only [World.frozen?, h1]
        simpa using this
    · simp at hs
  · simp at hs
end Go.Cn
