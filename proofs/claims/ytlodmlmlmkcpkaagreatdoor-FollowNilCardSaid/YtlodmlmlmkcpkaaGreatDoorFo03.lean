/- Joined: CnHm, CnHn. -/
import Derived.Test.YtlodmlmlmkcpkaaGreatDoorFo02
/- The canonical semantics: objects that are no rows of cells; maps, and steps over them. -/
set_option linter.unusedVariables false
set_option linter.unusedSimpArgs false
namespace Go.Cn

/-! ### 1. A new object, and one that changes -/
theorem Hp.ob_newOb (h : Hp) (o : Ob) (b : Nat) : (h.newOb o).ob b = if b = h.next then some o else h.ob b := by
  unfold Hp.newOb Hp.ob; exact Tr.get_set _ _ _ _ _ (by omega)
theorem Hp.gs_newOb (h : Hp) (o : Ob) : (h.newOb o).gs = h.gs := rfl
theorem Hp.next_newOb (h : Hp) (o : Ob) : (h.newOb o).next = h.next + 1 := rfl

/-- An object more, in the canonical heap and in the model's. -/
theorem HR.newOth {base : Nat} {σ : Sg} {h : Hp} {w w' : World} (hr : HR base σ h w) {o : Ob} {r : Obj} (ho : o.isOth = true) (hw : WNew w w' r)
    (hrel : OthRel (σ.put h.next ⟨w.heap.size, 0, 0⟩) o r) :
    HR base (σ.put h.next ⟨w.heap.size, 0, 0⟩) (h.newOb o) w' ∧ Ext base σ h w (σ.put h.next ⟨w.heap.size, 0, 0⟩) (h.newOb o) w' ∧
      (σ.put h.next ⟨w.heap.size, 0, 0⟩) h.next = some ⟨w.heap.size, 0, 0⟩ := by
  have hσ : σ h.next = none := hr.none_next (Nat.le_refl _)
  have hle : σ.le (σ.put h.next ⟨w.heap.size, 0, 0⟩) := Sg.put_le hσ
  have hold : ∀ k, k < w.heap.size → w'.heap[k]? = w.heap[k]? := by
    intro k hk; rw [hw.heap, Array.getElem?_push, if_neg (by omega)]
  have hput : ∀ b e, (σ.put h.next ⟨w.heap.size, 0, 0⟩) b = some e → (b = h.next ∧ e = ⟨w.heap.size, 0, 0⟩) ∨ (b ≠ h.next ∧ σ b = some e) := by
    intro b e hb
    unfold Sg.put at hb
    split at hb
    · rename_i hh; left; exact ⟨hh, by simpa using hb.symm⟩
    · rename_i hh; right; exact ⟨hh, hb⟩
  have hobn : h.ob h.next = none := (hr.fresh _ (Nat.le_refl _)).1
  have hgsn : h.gs.get h.next = none := (hr.fresh _ (Nat.le_refl _)).2
  have hcell : ∀ b cs t g, (h.newOb o).ob b = some (.cells cs t g) → b ≠ h.next ∧ h.ob b = some (.cells cs t g) := by
    intro b cs t g hx
    rw [Hp.ob_newOb] at hx
    split at hx
    · cases hx; simp [Ob.isOth] at ho
    · rename_i hne; exact ⟨hne, hx⟩
  refine ⟨⟨?_, ?_, ?_, ?_, ?_, ?_, ?_, ?_, ?_, ?_⟩, ⟨hle, hw.os, hw.tape, hw.output, ?_, ?_, ?_, ?_, ?_, ?_⟩, by simp [Sg.put]⟩
  · rw [hw.heap]; simp; have := hr.base_le; omega
  · intro b e hb
    rw [hw.heap, Hp.next_newOb]; simp
    rcases hput b e hb with ⟨rfl, rfl⟩ | ⟨_, h2⟩
    · simp
    · have := hr.dom _ _ h2; omega
  · intro b hb
    rw [Hp.next_newOb] at hb
    rw [Hp.ob_newOb, Hp.gs_newOb, if_neg (by omega)]
    exact hr.fresh b (by omega)
  · intro b e cs' t' g hb hob hl
    rw [show (h.newOb o).live b g = h.live b g from Hp.live_congr fun _ _ => rfl] at hl
    obtain ⟨hne, hob⟩ := hcell _ _ _ _ hob
    rcases hput b e hb with ⟨h1, _⟩ | ⟨h1, h2⟩
    · exact absurd h1 hne
    · obtain ⟨⟨c0, el0, fr0, h3, h4, h5, h6, h7⟩, h8⟩ := hr.cell b e cs' t' g h2 hob hl
      refine ⟨⟨c0, el0, fr0, by rw [hold _ (hr.dom _ _ h2).2]; exact h3, h4, h5, ?_, h7⟩, h8⟩
      intro i v hv
      obtain ⟨v', h9, h10⟩ := h6 i v hv
      exact ⟨v', h9, h10.mono hle⟩
  · intro b cs' t' g hob
    obtain ⟨_, hob⟩ := hcell _ _ _ _ hob
    rw [Hp.next_newOb]
    have := hr.grp b cs' t' g hob; omega
  · intro b e cs' t' g hb hob
    obtain ⟨hne, hob⟩ := hcell _ _ _ _ hob
    rcases hput b e hb with ⟨h1, _⟩ | ⟨h1, h2⟩
    · exact absurd h1 hne
    · obtain ⟨e', he'⟩ := hr.gdom b e cs' t' g h2 hob
      exact ⟨e', hle _ _ he'⟩
  · intro g l hg b hb
    rw [Hp.gs_newOb] at hg
    obtain ⟨cs', t', hob⟩ := hr.stack g l hg b hb
    refine ⟨cs', t', ?_⟩
    rw [Hp.ob_newOb, if_neg ?_]
    · exact hob
    · rintro rfl; rw [hobn] at hob; simp at hob
  · intro g l hg
    rw [Hp.gs_newOb] at hg
    refine (hr.nest g l hg).imp_of_mem fun {b1 b2} m1 m2 hp => ?_
    intro e1 e2 cs1 cs2 t1 t2 g1 g2 s1 s2 o1 o2
    obtain ⟨n1, o1⟩ := hcell _ _ _ _ o1
    obtain ⟨n2, o2⟩ := hcell _ _ _ _ o2
    rcases hput b1 e1 s1 with ⟨e, _⟩ | ⟨_, s1'⟩
    · exact absurd e n1
    · rcases hput b2 e2 s2 with ⟨e, _⟩ | ⟨_, s2'⟩
      · exact absurd e n2
      · exact hp e1 e2 cs1 cs2 t1 t2 g1 g2 s1' s2' o1 o2
  · intro b1 b2 e1 e2 cs1 cs2 t1 t2 g1 g2 s1 s2 o1 o2 l1 l2 hrb
    rw [show (h.newOb o).live b1 (some g1) = h.live b1 (some g1) from Hp.live_congr fun _ _ => rfl] at l1
    rw [show (h.newOb o).live b2 (some g2) = h.live b2 (some g2) from Hp.live_congr fun _ _ => rfl] at l2
    obtain ⟨n1, o1⟩ := hcell _ _ _ _ o1
    obtain ⟨n2, o2⟩ := hcell _ _ _ _ o2
    rcases hput b1 e1 s1 with ⟨e, _⟩ | ⟨_, s1'⟩
    · exact absurd e n1
    · rcases hput b2 e2 s2 with ⟨e, _⟩ | ⟨_, s2'⟩
      · exact absurd e n2
      · exact hr.apart b1 b2 e1 e2 cs1 cs2 t1 t2 g1 g2 s1' s2' o1 o2 l1 l2 hrb
  · intro b e o' hb hob hoth
    rw [Hp.ob_newOb] at hob
    rcases hput b e hb with ⟨rfl, rfl⟩ | ⟨h1, h2⟩
    · rw [if_pos rfl] at hob; cases hob
      refine ⟨hr.base_le, rfl, ⟨r, by rw [hw.heap]; simp, hrel⟩, fun b' e' hb' hrb => ?_⟩
      rcases hput b' e' hb' with ⟨h3, _⟩ | ⟨_, h4⟩
      · exact h3
      · have := (hr.dom _ _ h4).2; simp at hrb; omega
    · rw [if_neg h1] at hob
      obtain ⟨q1, q2, ⟨r', q3, q4⟩, q5⟩ := hr.oth b e o' h2 hob hoth
      refine ⟨q1, q2, ⟨r', by rw [hold _ (hr.dom _ _ h2).2]; exact q3, q4.mono hle⟩, fun b' e' hb' hrb => ?_⟩
      rcases hput b' e' hb' with ⟨_, rfl⟩ | ⟨_, h4⟩
      · have := (hr.dom _ _ h2).2; simp at hrb; omega
      · exact q5 b' e' h4 hrb
  · rw [hw.heap]; simp
  · intro k hk; exact hold k (by have := hr.base_le; omega)
  · intro k hk _; exact hold k hk
  · intro b e hs hb
    rcases hput b e hb with ⟨rfl, rfl⟩ | ⟨_, h2⟩
    · right; simp
    · rw [hs] at h2; simp at h2
  · rw [Hp.next_newOb]; omega
  · intro b hb hs
    refine ⟨by rw [Hp.ob_newOb, if_neg (by omega)], rfl, ?_⟩
    unfold Sg.put; rw [if_neg (by omega)]; exact hs

/-- An object that is no row of cells becomes another. -/
theorem HR.setOth {base : Nat} {σ : Sg} {h : Hp} {w : World} (hr : HR base σ h w) {b : Nat} {e : En} {o o' : Ob} {r' : Obj} (he : σ b = some e) (hob : h.ob b = some o) (ho : o.isOth = true) (ho' : o'.isOth = true)
    (hrel : OthRel σ o' r') :
    HR base σ (h.setOb b o') { w with heap := w.heap.setIfInBounds e.rb r' } ∧ Ext base σ h w σ (h.setOb b o') { w with heap := w.heap.setIfInBounds e.rb r' } := by
  obtain ⟨p1, p2, ⟨r, p3, p4⟩, p5⟩ := hr.oth b e o he hob ho
  have hlt := (hr.dom _ _ he).2
  have hne : ∀ k, k ≠ e.rb → (w.heap.setIfInBounds e.rb r')[k]? = w.heap[k]? := fun k hk => by rw [Array.getElem?_setIfInBounds_ne (fun x => hk x.symm)]
  have hat : (w.heap.setIfInBounds e.rb r')[e.rb]? = some r' := by rw [Array.getElem?_setIfInBounds_self_of_lt hlt]
  have hcell : ∀ x cs t g, (h.setOb b o').ob x = some (.cells cs t g) → x ≠ b ∧ h.ob x = some (.cells cs t g) := by
    intro x cs t g hx
    rw [Hp.ob_setOb] at hx
    split at hx
    · cases hx; simp [Ob.isOth] at ho'
    · rename_i hn; exact ⟨hn, hx⟩
  refine ⟨⟨?_, ?_, ?_, ?_, ?_, ?_, ?_, ?_, ?_, ?_⟩, ⟨Sg.le_refl σ, rfl, rfl, rfl, ?_, ?_, ?_, fun b e s1 s2 => by rw [s1] at s2; simp at s2, ?_, ?_⟩⟩
  · simpa using hr.base_le
  · intro x ex hx; simpa [Hp.next_setOb] using hr.dom x ex hx
  · intro x hx
    rw [Hp.next_setOb] at hx
    have hf := hr.fresh x hx
    rw [Hp.ob_setOb, if_neg (by rintro rfl; rw [hf.1] at hob; simp at hob), Hp.gs_setOb]
    exact hf
  · intro x ex cs t g hx hox hl
    rw [show (h.setOb b o').live x g = h.live x g from Hp.live_congr fun _ _ => rfl] at hl
    obtain ⟨hn, hox⟩ := hcell _ _ _ _ hox
    obtain ⟨⟨c0, el0, fr0, k1, k2⟩, k3⟩ := hr.cell x ex cs t g hx hox hl
    refine ⟨⟨c0, el0, fr0, ?_, k2⟩, k3⟩
    show (w.heap.setIfInBounds e.rb r')[ex.rb]? = _
    rw [hne _ ?_]
    · exact k1
    · intro hh; rw [hh, p3] at k1; cases k1; exact p4.not_cells
  · intro x cs t g hox
    obtain ⟨_, hox⟩ := hcell _ _ _ _ hox
    exact hr.grp x cs t g hox
  · intro x ex cs t g hx hox
    obtain ⟨_, hox⟩ := hcell _ _ _ _ hox
    exact hr.gdom x ex cs t g hx hox
  · intro g l hg x hx
    rw [Hp.gs_setOb] at hg
    obtain ⟨cs, t, h1⟩ := hr.stack g l hg x hx
    refine ⟨cs, t, ?_⟩
    rw [Hp.ob_setOb, if_neg ?_]
    · exact h1
    · rintro rfl; rw [hob] at h1; cases h1; simp [Ob.isOth] at ho
  · intro g l hg
    rw [Hp.gs_setOb] at hg
    refine (hr.nest g l hg).imp_of_mem fun {b1 b2} m1 m2 hp => ?_
    intro e1 e2 cs1 cs2 t1 t2 g1 g2 s1 s2 o1 o2
    exact hp e1 e2 cs1 cs2 t1 t2 g1 g2 s1 s2 (hcell _ _ _ _ o1).2 (hcell _ _ _ _ o2).2
  · intro b1 b2 e1 e2 cs1 cs2 t1 t2 g1 g2 s1 s2 o1 o2 l1 l2 hrb
    rw [show (h.setOb b o').live b1 (some g1) = h.live b1 (some g1) from Hp.live_congr fun _ _ => rfl] at l1
    rw [show (h.setOb b o').live b2 (some g2) = h.live b2 (some g2) from Hp.live_congr fun _ _ => rfl] at l2
    exact hr.apart b1 b2 e1 e2 cs1 cs2 t1 t2 g1 g2 s1 s2 (hcell _ _ _ _ o1).2 (hcell _ _ _ _ o2).2 l1 l2 hrb
  · intro x ex ox hx hox hoth
    rw [Hp.ob_setOb] at hox
    by_cases hxb : x = b
    · subst hxb
      rw [if_pos rfl] at hox; cases hox
      rw [he] at hx; cases hx
      exact ⟨p1, p2, ⟨r', hat, hrel⟩, p5⟩
    · rw [if_neg hxb] at hox
      obtain ⟨q1, q2, ⟨r2, q3, q4⟩, q5⟩ := hr.oth x ex ox hx hox hoth
      refine ⟨q1, q2, ⟨r2, ?_, q4⟩, q5⟩
      show (w.heap.setIfInBounds e.rb r')[ex.rb]? = _
      rw [hne _ (fun hh => hxb (p5 x ex hx hh))]
      exact q3
  · simp
  · intro k hk; exact hne k (by omega)
  · intro k _ hno; exact hne k (fun hh => hno _ _ he hh.symm)
  · rw [Hp.next_setOb]; exact Nat.le_refl _
  · intro x hx hs
    have hn : x ≠ b := by rintro rfl; rw [he] at hs; simp at hs
    exact ⟨by rw [Hp.ob_setOb, if_neg hn], rfl, hs⟩

/-! ### 2. Entries -/
theorem ERel.length {σ : Sg} {l l' : List MapEntry} (e : ERel σ l l') : l.length = l'.length := by
  induction e with
  | nil => rfl
  | cons x y l l' _ _ _ _ ih => simp [ih]

theorem ERel.empty {σ : Sg} {l : List MapEntry} {a : Array MapEntry} (e : ERel σ l a.toList) : a.isEmpty = l.isEmpty := by
  obtain ⟨m⟩ := a
  cases e <;> rfl

theorem ERel.get {σ : Sg} {l l' : List MapEntry} (e : ERel σ l l') : ∀ {i : Nat} {x : MapEntry}, l[i]? = some x → ∃ y, l'[i]? = some y ∧ y.born = x.born ∧ VRel σ x.key y.key ∧ VRel σ x.val y.val := by
  induction e with
  | nil => intro i x h; simp at h
  | cons a b l l' h1 h2 h3 _ ih =>
    intro i x h
    cases i with
    | zero => simp at h; subst h; exact ⟨b, rfl, h1, h2, h3⟩
    | succ i => simp at h; obtain ⟨y, q1, q2⟩ := ih h; exact ⟨y, by simpa using q1, q2⟩

theorem ERel.append {σ : Sg} {l l' m m' : List MapEntry} (e : ERel σ l l') (f : ERel σ m m') : ERel σ (l ++ m) (l' ++ m') := by
  induction e with
  | nil => exact f
  | cons x y l l' h1 h2 h3 _ ih => exact .cons x y _ _ h1 h2 h3 ih

theorem ERel.modify {σ : Sg} {l l' : List MapEntry} (e : ERel σ l l') {f g : MapEntry → MapEntry} (hf : ∀ x y, y.born = x.born → VRel σ x.key y.key → VRel σ x.val y.val → (g y).born = (f x).born ∧ VRel σ (f x).key (g y).key ∧ VRel σ (f x).val (g y).val) :
    ∀ (i : Nat), ERel σ (l.modify i f) (l'.modify i g) := by
  induction e with
  | nil => intro i; cases i <;> exact .nil
  | cons x y l l' h1 h2 h3 h ih =>
    intro i
    cases i with
    | zero => obtain ⟨q1, q2, q3⟩ := hf x y h1 h2 h3; exact .cons _ _ _ _ q1 q2 q3 h
    | succ i => exact .cons x y _ _ h1 h2 h3 (ih i)

theorem ERel.eraseIdx {σ : Sg} {l l' : List MapEntry} (e : ERel σ l l') : ∀ (i : Nat), ERel σ (l.eraseIdx i) (l'.eraseIdx i) := by
  induction e with
  | nil => intro i; exact .nil
  | cons x y l l' h1 h2 h3 h ih =>
    intro i
    cases i with
    | zero => exact h
    | succ i => exact .cons x y _ _ h1 h2 h3 (ih i)

theorem ERel.filter {σ : Sg} {l l' : List MapEntry} (e : ERel σ l l') {p : Nat → Bool} : ERel σ (l.filter fun x => p x.born) (l'.filter fun x => p x.born) := by
  induction e with
  | nil => exact .nil
  | cons x y l l' h1 h2 h3 h ih =>
    rw [List.filter_cons, List.filter_cons, h1]
    split
    · exact .cons x y _ _ h1 h2 h3 ih
    · exact ih

theorem ERel.all {σ : Sg} {l l' : List MapEntry} (e : ERel σ l l') {p : Nat → Bool} : (l'.all fun x => p x.born) = (l.all fun x => p x.born) := by
  induction e with
  | nil => rfl
  | cons x y l l' h1 h2 h3 h ih => simp only [List.all_cons, ih, h1]

theorem ERel.findIdx {σ : Sg} {l l' : List MapEntry} (e : ERel σ l l') {p : Nat → Bool} : (l'.findIdx? fun x => p x.born) = (l.findIdx? fun x => p x.born) := by
  induction e with
  | nil => rfl
  | cons x y l l' h1 h2 h3 h ih => rw [List.findIdx?_cons, List.findIdx?_cons, ih, h1]

theorem ERel.find {σ : Sg} {l l' : List MapEntry} (e : ERel σ l l') {p : Nat → Bool} {x : MapEntry} (hx : (l.find? fun x => p x.born) = some x) :
    ∃ y, (l'.find? fun x => p x.born) = some y ∧ y.born = x.born ∧ VRel σ x.key y.key ∧ VRel σ x.val y.val := by
  induction e with
  | nil => simp at hx
  | cons a b l l' h1 h2 h3 h ih =>
    rw [List.find?_cons] at hx
    rw [List.find?_cons, h1]
    split at hx
    · rename_i hp; cases hx; exact ⟨b, by first | rfl | rw [hp], h1, h2, h3⟩
    · rename_i hp; obtain ⟨y, q1, q2⟩ := ih hx; exact ⟨y, by first | exact q1 | (rw [hp]; exact q1), q2⟩

/-! ### 3. Keys -/
section
variable {P : Program} {σ : Sg}

theorem sameNow_rel {d : TypeDesc} {a b a' b' : Value} {t : Bool} (h : Instr.sameNow d a b = some t) (ha : VRel σ a a') (hb : VRel σ b b') : Instr.sameNow d a' b' = some t := by
  unfold Instr.sameNow at h
  split at h
  · obtain rfl := ha.int_inv; obtain rfl := hb.int_inv
    split at h
    · rename_i hk; subst hk; simp at h; subst h; simp [Instr.sameNow]
    · simp at h
  · obtain rfl := ha.string_inv; obtain rfl := hb.string_inv
    exact h
  · obtain rfl := ha.bool_inv; obtain rfl := hb.bool_inv
    simp at h; subst h; simp [Instr.sameNow]
  · simp at h

/-- What was found. -/
def FRel (σ : Sg) : Option (Nat × Value) → Option (Nat × Value) → Prop
  | none, none => True
  | some (i, v), some (j, u) => i = j ∧ VRel σ v u
  | _, _ => False

theorem findNow_rel {d : TypeDesc} {k k' : Value} (hk : VRel σ k k') {es es' : List MapEntry} (he : ERel σ es es') : ∀ {i : Nat} {r : Option (Nat × Value)}, Instr.findNow d k es i = some r →
    ∃ r', Instr.findNow d k' es' i = some r' ∧ FRel σ r r' := by
  induction he with
  | nil => intro i r h; simp [Instr.findNow] at h; subst h; exact ⟨none, rfl, trivial⟩
  | cons x y l l' h1 h2 h3 h ih =>
    intro i r hr
    unfold Instr.findNow at hr
    unfold Instr.findNow
    split at hr
    · rename_i hs
      simp at hr; subst hr
      rw [sameNow_rel hs hk h2]
      exact ⟨_, rfl, rfl, h3⟩
    · rename_i hs
      rw [sameNow_rel hs hk h2]
      exact ih hr
    · simp at hr

theorem findEq_run (w : World) {t : TypeId} {k k' : Value} (hk : VRel σ k k') {es es' : List MapEntry} (he : ERel σ es es') : ∀ {i : Nat} {r : Option (Nat × Value)}, findEq P t k es i = some r →
    ∃ r', (Instr.findAsking t k' es' i).run P w = .ok r' w ∧ FRel σ r r' := by
  induction he with
  | nil => intro i r h; simp [findEq] at h; subst h; exact ⟨none, by simp [Instr.findAsking], trivial⟩
  | cons x y l l' h1 h2 h3 h ih =>
    intro i r hr
    unfold findEq at hr
    unfold Instr.findAsking
    split at hr
    · rename_i hs
      simp at hr; subst hr
      have he : (Op.equal t k' y.key).run P w = .ok true w := ceq_run w _ _ _ _ _ _ _ hs hk h2
      exact ⟨some (i, y.val), by simp [he], rfl, h3⟩
    · rename_i hs
      have he : (Op.equal t k' y.key).run P w = .ok false w := ceq_run w _ _ _ _ _ _ _ hs hk h2
      obtain ⟨r', q1, q2⟩ := ih hr
      exact ⟨r', by simp [he, q1], q2⟩
    · simp at hr

theorem findK_run (w : World) {t : TypeId} {k k' : Value} (hk : VRel σ k k') {es es' : List MapEntry} (he : ERel σ es es') {r : Option (Nat × Value)} (h : findK P t k es = some r) :
    ∃ r', (Instr.findKey t k' es').run P w = .ok r' w ∧ FRel σ r r' := by
  unfold findK at h
  split at h
  · rename_i n e hu
    split at h
    · obtain ⟨r', q1, q2⟩ := findEq_run w hk he h
      refine ⟨r', ?_, q2⟩
      cases es' with
      | nil => simp [Instr.findAsking] at q1; subst q1; simp [Instr.findKey, run_underlying hu, Instr.findNow]
      | cons y l => simpa [Instr.findKey, run_underlying hu, Instr.findNow, Instr.sameNow] using q1
    · simp at h
  · rename_i el hu
    obtain ⟨r', q1, q2⟩ := findEq_run w hk he h
    refine ⟨r', ?_, q2⟩
    cases es' with
    | nil => simp [Instr.findAsking] at q1; subst q1; simp [Instr.findKey, run_underlying hu, Instr.findNow]
    | cons y l => simpa [Instr.findKey, run_underlying hu, Instr.findNow, Instr.sameNow] using q1
  · rename_i d hd hd2 hu
    obtain ⟨r', q1, q2⟩ := findNow_rel hk he h
    exact ⟨r', by simp [Instr.findKey, run_underlying hu, q1], q2⟩
  · simp at h

theorem sameBits_rel : ∀ (n : Nat) {a b a' b' : Value}, Instr.sameBits n a b = true → VRel σ a a' → VRel σ b b' → Instr.sameBits n a' b' = true := by
  intro n
  induction n with
  | zero =>
    intro a b a' b' h ha hb
    unfold Instr.sameBits at h
    split at h <;> first | (simp at h; done) | skip
    · obtain rfl := ha.bool_inv; obtain rfl := hb.bool_inv; simpa [Instr.sameBits] using h
    · obtain rfl := ha.int_inv; obtain rfl := hb.int_inv; simpa [Instr.sameBits] using h
    · cases ha; cases hb; simpa [Instr.sameBits] using h
    · cases ha; cases hb; simpa [Instr.sameBits] using h
    · obtain rfl := ha.string_inv; obtain rfl := hb.string_inv; simpa [Instr.sameBits] using h
    · rename_i p q
      have e := eq_of_beq h; subst e
      cases p with
      | none => obtain rfl := ha.pnil_inv; obtain rfl := hb.pnil_inv; simp [Instr.sameBits]
      | some p =>
        obtain ⟨b0, o0, s0⟩ := p
        obtain ⟨_, e1, h1, rfl⟩ := ha.ptr_inv
        obtain ⟨_, e2, h2, rfl⟩ := hb.ptr_inv
        rw [h1] at h2; cases h2
        simp [Instr.sameBits]
    · cases ha
    · obtain rfl := ha.nilIface_inv; obtain rfl := hb.nilIface_inv; rfl
    all_goals exact absurd ‹0 = Nat.succ _› (by simp)
  | succ n ih =>
    intro a b a' b' h ha hb
    unfold Instr.sameBits at h
    split at h <;> first | (simp at h; done) | skip
    · obtain rfl := ha.bool_inv; obtain rfl := hb.bool_inv; simpa [Instr.sameBits] using h
    · obtain rfl := ha.int_inv; obtain rfl := hb.int_inv; simpa [Instr.sameBits] using h
    · cases ha; cases hb; simpa [Instr.sameBits] using h
    · cases ha; cases hb; simpa [Instr.sameBits] using h
    · obtain rfl := ha.string_inv; obtain rfl := hb.string_inv; simpa [Instr.sameBits] using h
    · rename_i p q
      have e := eq_of_beq h; subst e
      cases p with
      | none => obtain rfl := ha.pnil_inv; obtain rfl := hb.pnil_inv; simp [Instr.sameBits]
      | some p =>
        obtain ⟨b0, o0, s0⟩ := p
        obtain ⟨_, e1, h1, rfl⟩ := ha.ptr_inv
        obtain ⟨_, e2, h2, rfl⟩ := hb.ptr_inv
        rw [h1] at h2; cases h2
        simp [Instr.sameBits]
    · cases ha
    · obtain rfl := ha.nilIface_inv; obtain rfl := hb.nilIface_inv; rfl
    · obtain ⟨v', rfl, hv⟩ := ha.iface_inv
      obtain ⟨u', rfl, hu⟩ := hb.iface_inv
      rename_i m t v u u2 heq
      have : m = n := by have := heq; simp at this; exact this.symm
      subst this
      simp only [Bool.and_eq_true] at h
      simp only [Instr.sameBits, Bool.and_eq_true]
      exact ⟨h.1, ih h.2 hv hu⟩
    · obtain ⟨xs', rfl, hx⟩ := ha.agg_inv
      obtain ⟨ys', rfl, hy⟩ := hb.agg_inv
      rename_i m xs ys heq
      have : m = n := by have := heq; simp at this; exact this.symm
      subst this
      simp only [Bool.and_eq_true, beq_iff_eq, List.all_eq_true] at h
      simp only [Instr.sameBits, Bool.and_eq_true, beq_iff_eq, List.all_eq_true]
      refine ⟨by rw [← hx.1, ← hy.1]; exact h.1, ?_⟩
      rintro ⟨x', y'⟩ hm
      obtain ⟨i, hi⟩ := List.mem_iff_getElem?.1 hm
      rw [List.getElem?_zip_eq_some] at hi
      simp only [Array.getElem?_toList] at hi
      have hxi : i < xs.size := by rw [hx.1]; exact (Array.getElem?_eq_some_iff.1 hi.1).1
      have hyi : i < ys.size := by rw [hy.1]; exact (Array.getElem?_eq_some_iff.1 hi.2).1
      have hxe := Array.getElem?_eq_getElem hxi
      have hye := Array.getElem?_eq_getElem hyi
      have := h.2 (xs[i], ys[i]) (by
        rw [List.mem_iff_getElem?]
        exact ⟨i, by rw [List.getElem?_zip_eq_some]; simp only [Array.getElem?_toList]; exact ⟨hxe, hye⟩⟩)
      exact ih this (hx.2 i _ _ hxe hi.1) (hy.2 i _ _ hye hi.2)

theorem keyStays_run (w : World) {a b a' b' : Value} (h : Instr.sameBits 10000 a b = true) (ha : VRel σ a a') (hb : VRel σ b b') : (Instr.keyThatStays a' b').run P w = .ok b' w := by
  simp [Instr.keyThatStays, sameBits_rel 10000 h ha hb]

theorem checkKey_run (w : World) {t : TypeId} {k k' : Value} (h : keyOk P t k = true) (hk : VRel σ k k') (em : Bool) (n : Nat) : (Instr.checkKey em (n + 2) t k').run P w = .ok () w := by
  unfold keyOk at h
  split at h
  · rename_i hu; unfold Instr.checkKey; simp [run_underlying hu]
  · rename_i hu; unfold Instr.checkKey; simp [run_underlying hu]
  · rename_i hu; unfold Instr.checkKey; simp [run_underlying hu]
  · rename_i hu; unfold Instr.checkKey; simp [run_underlying hu]
  · rename_i len e hu
    split at h
    · rename_i kd cs hue hs
      obtain ⟨cs', rfl, hr⟩ := hk.agg_inv
      have hsz : cs'.size = len := by rw [← hr.1]; simpa using h
      have hag : agg? P e = some false := by simp [agg?, hue]
      unfold Instr.checkKey
      simp only [Sem.run_bind, run_underlying hu, Result.andThen_ok]
      simp only [Std.Legacy.Range.forIn_eq_forIn_range', Std.Legacy.Range.size, Nat.sub_zero, Nat.add_one_sub_one, Nat.div_one]
      have each : ∀ j ∈ List.range' 0 len, j < cs'.size := by
        intro j hj; rw [List.mem_range'] at hj; omega
      generalize List.range' 0 len = is at each
      induction is with
      | nil => simp
      | cons j is ih =>
        have hj := each j (by simp)
        have p1 : (part e cs' (j * 1)).run P w = .ok cs'[j] w := by simp [part, run_agg hag, hj]
        have p2 : (Instr.checkKey em (n + 1) e cs'[j]).run P w = .ok () w := by unfold Instr.checkKey; simp [run_underlying hue]
        simp only [List.forIn_cons, Sem.run_bind, run_size hs, Result.andThen_ok, p1, p2, Sem.run_pure]
        exact ih fun y hy => each y (by simp [hy])
    · simp at h
  · simp at h
end
end Go.Cn

/- The canonical semantics: the operations on maps: each answers in the model as here. -/
set_option linter.unusedVariables false
set_option linter.unusedSimpArgs false
namespace Go.Cn
section
variable {P : Program} {σ : Sg} {base : Nat} {h h' : Hp} {w : World}

theorem run_getObj_oth {r : Nat} {o : Obj} (hb : w.heap[r]? = some o) (ho : Obj.rowOf o = false) : (getObj r).run P w = .ok o w := by
  cases o <;> simp_all [getObj, Sem.run, Obj.rowOf]

theorem run_setObj_oth {r : Nat} {o : Obj} (o' : Obj) (hb : w.heap[r]? = some o) (ho : Obj.rowOf o = false) : (setObj r o').run P w = .ok () { w with heap := w.heap.setIfInBounds r o' } := by
  cases o <;> simp_all [setObj, Sem.run, Obj.rowOf]

/-- A map, in the canonical heap and in the model's. -/
theorem HR.mapAt (hr : HR base σ h w) {b : Nat} {e : En} {es : List MapEntry} {c : Nat} (he : σ b = some e) (hob : h.ob b = some (.map es c)) :
    ∃ es', w.heap[e.rb]? = some (.map es' c) ∧ ERel σ es es'.toList := by
  obtain ⟨_, _, ⟨r, h1, h2⟩, _⟩ := hr.oth b e _ he hob rfl
  unfold OthRel at h2
  split at h2 <;> first | (exact h2.elim) | skip
  · rename_i o r es0 c0 es' c' e1
    cases e1
    obtain ⟨rfl, h3⟩ := h2
    exact ⟨es', h1, h3⟩
  · rename_i e1; cases e1
  · rename_i e1; cases e1

theorem mapOf_run (hr : HR base σ h w) {x x' : Value} {es : List MapEntry} (hm : mapOf h x = some es) (hx : VRel σ x x') :
    ∃ es' : Array MapEntry, ERel σ es es'.toList ∧ (x' = .map none ∧ es' = #[] ∨ ∃ r c, x' = .map (some r) ∧ w.heap[r]? = some (.map es' c)) := by
  unfold mapOf at hm
  split at hm
  · obtain rfl := hx.mnil_inv
    simp at hm; subst hm
    exact ⟨#[], .nil, .inl ⟨rfl, rfl⟩⟩
  · split at hm
    · rename_i b _ es0 c0 hob
      simp at hm; subst hm
      obtain ⟨e, he, rfl⟩ := hx.map_inv
      obtain ⟨es', h1, h2⟩ := hr.mapAt he hob
      exact ⟨es', h2, .inr ⟨_, _, rfl, h1⟩⟩
    · simp at hm
  · simp at hm

theorem VRel.pair {v v' : Value} {b : Bool} (hv : VRel σ v v') : VRel σ (.tuple #[v, .bool b]) (.tuple #[v', .bool b]) := by
  refine .tuple _ _ rfl (by simp) ?_
  intro i x y hx hy
  match i with
  | 0 => simp at hx hy; subst hx; subst hy; exact hv
  | 1 => simp at hx hy; subst hx; subst hy; exact .bool _
  | n + 2 => simp at hx

theorem clookup_run (hr : HR base σ h w) {t : TypeId} {x x' ix ix' v : Value} {ok : Bool} (hl : clookup P t x ix ok h = some v) (hx : VRel σ x x') (hi : VRel σ ix ix') :
    ∃ v', (Instr.lookup t x' ix' ok).run P w = .ok v' w ∧ VRel σ v v' := by
  unfold clookup at hl
  split at hl
  · rename_i kt et hu
    split at hl
    · simp at hl
    · rename_i hk
      simp only [Bool.not_eq_true', Bool.not_eq_false] at hk
      split at hl
      · simp at hl
      · rename_i es hm
        obtain ⟨es', he, hx'⟩ := mapOf_run hr hm hx
        have hck : (Instr.checkKey es'.isEmpty 10000 kt ix').run P w = .ok () w := checkKey_run (P := P) w hk hi es'.isEmpty 9998
        have hrun : ∀ r', (Instr.findKey kt ix' es'.toList).run P w = .ok r' w → (Instr.lookup t x' ix' ok).run P w = (do
            let (v, b) ← match r' with
              | some (_, v) => pure (v, true)
              | none => pure (← zeroValue et, false)
            pure (if ok then .tuple #[v, .bool b] else v) : Sem Value).run P w := by
          intro r' q1
          rcases hx' with ⟨rfl, rfl⟩ | ⟨r, c, rfl, h1⟩
          · unfold Instr.lookup
            simp only [Sem.run_bind, run_underlying hu, Result.andThen_ok, Sem.run_pure, hck, q1]
            cases r' <;> rfl
          · unfold Instr.lookup
            simp only [Sem.run_bind, run_underlying hu, Result.andThen_ok, Sem.run_pure, run_getObj_oth h1 rfl, hck, q1]
            cases r' <;> rfl
        split at hl
        · rename_i r i u hf
          simp at hl; subst hl
          obtain ⟨r', q1, q2⟩ := findK_run w hi he hf
          cases r' with
          | none => exact q2.elim
          | some ju =>
            obtain ⟨j, u'⟩ := ju
            obtain ⟨rfl, hv⟩ := q2
            cases ok with
            | true => exact ⟨.tuple #[u', .bool true], by rw [hrun _ q1]; simp, hv.pair⟩
            | false => exact ⟨u', by rw [hrun _ q1]; simp, hv⟩
        · rename_i hf
          obtain ⟨r', q1, q2⟩ := findK_run w hi he hf
          cases r' with
          | some ju => exact q2.elim
          | none =>
            split at hl
            · rename_i z hz
              split at hl
              · rename_i hp
                simp at hl; subst hl
                have hv := plainV_rel σ 100 z hp
                cases ok with
                | true => exact ⟨.tuple #[z, .bool false], by rw [hrun _ q1]; simp [run_zero hz], hv.pair⟩
                | false => exact ⟨z, by rw [hrun _ q1]; simp [run_zero hz], hv⟩
              · simp at hl
            · simp at hl
        · simp at hl
  · simp at hl

theorem clenMap_run (hr : HR base σ h w) {ts : Array TypeId} {t ty : TypeId} {x x' : Value} {xs : Array Value} {es : List MapEntry} (ht : ts[0]? = some t) (hx0 : xs[0]? = some x') (hl : lenOfMap P ts = true) (hm : mapOf h x = some es) (hx : VRel σ x x') :
    (Builtin.len_ ts ty xs).run P w = .ok (.int .i64 es.length) w := by
  have hu : ∃ k e, P.underlying t = some (.map k e) := by
    unfold lenOfMap at hl
    split at hl
    · rename_i t' l he
      have : t' = t := by rw [← Array.getElem?_toList, he] at ht; simpa using ht
      subst this
      split at hl
      · rename_i k e hu; exact ⟨k, e, hu⟩
      · simp at hl
    · simp at hl
  obtain ⟨k, e, hu⟩ := hu
  obtain ⟨es', he, hx'⟩ := mapOf_run hr hm hx
  have hlen := he.length
  rcases hx' with ⟨rfl, rfl⟩ | ⟨r, c, rfl, h1⟩
  · simp at hlen; simp [Builtin.len_, ht, hx0, run_underlying hu, goInt, hlen]
  · simp [Builtin.len_, ht, hx0, run_underlying hu, run_getObj_oth h1 rfl, goInt, hlen]

theorem HR.iterAt (hr : HR base σ h w) {b : Nat} {e : En} {m : Option Nat} {since st : Nat} {seen : List Nat} (he : σ b = some e) (hob : h.ob b = some (.iter m since seen st)) :
    ∃ m' seen', w.heap[e.rb]? = some (.mapIter m' since seen' st) ∧ e.ro = 0 ∧ seen'.toList = seen ∧ (match (generalizing := false) m with
      | none => m' = none
      | some b => ∃ e, σ b = some e ∧ m' = some e.rb) := by
  obtain ⟨_, h0, ⟨r, h1, h2⟩, _⟩ := hr.oth b e _ he hob rfl
  unfold OthRel at h2
  split at h2 <;> first | (exact h2.elim) | skip
  · rename_i e1; cases e1
  · rename_i o r m0 s0 n0 t0 m' s' n' t' e1
    cases e1
    obtain ⟨rfl, rfl, h3, h4⟩ := h2
    exact ⟨m', n', h1, h0, h3, h4⟩
  · rename_i e1; cases e1

theorem HR.loopAt (hr : HR base σ h w) {b : Nat} {e : En} {r : Lp} (he : σ b = some e) (hob : h.ob b = some (.loop r)) :
    ∃ r', w.heap[e.rb]? = some (.loop r') ∧ e.ro = 0 ∧ r'.state = r.state ∧ r'.pending = r.pending ∧ TRel σ r.tm r'.tmps ∧ r'.params.toList = r.params ∧ r'.assign = r.assign ∧ r'.body = r.body := by
  obtain ⟨_, h0, ⟨r2, h1, h2⟩, _⟩ := hr.oth b e _ he hob rfl
  unfold OthRel at h2
  split at h2 <;> first | (exact h2.elim) | skip
  · rename_i e1; cases e1
  · rename_i e1; cases e1
  · rename_i o r r0 r' e1
    cases e1
    exact ⟨r', h1, h0, h2⟩

theorem VRel.two {v v' u u' : Value} (hv : VRel σ v v') (hu : VRel σ u u') : VRel σ (.tuple #[v, u]) (.tuple #[v', u']) := by
  refine .tuple _ _ rfl (by simp) ?_
  intro i x y hx hy
  match i with
  | 0 => simp at hx hy; subst hx; subst hy; exact hv
  | 1 => simp at hx hy; subst hx; subst hy; exact hu
  | n + 2 => simp at hx

theorem VRel.three {v v' u u' t t' : Value} (hv : VRel σ v v') (hu : VRel σ u u') (ht : VRel σ t t') : VRel σ (.tuple #[v, u, t]) (.tuple #[v', u', t']) := by
  refine .tuple _ _ rfl (by simp) ?_
  intro i x y hx hy
  match i with
  | 0 => simp at hx hy; subst hx; subst hy; exact hv
  | 1 => simp at hx hy; subst hx; subst hy; exact hu
  | 2 => simp at hx hy; subst hx; subst hy; exact ht
  | n + 3 => simp at hx

theorem centry_run (hr : HR base σ h w) {x x' v : Value} (hl : centry x h = some v) (hx : VRel σ x x') : ∃ v', (Instr.entry x').run P w = .ok v' w ∧ VRel σ v v' := by
  unfold centry at hl
  split at hl
  · split at hl
    · rename_i b m s0 seen st hob
      obtain ⟨_, e, he, rfl⟩ := hx.ptr_inv
      obtain ⟨m', seen', h1, h2, h3, h4⟩ := hr.iterAt he hob
      obtain ⟨em, hem, rfl⟩ := h4
      split at hl
      · rename_i stamp es clock hs hm
        obtain ⟨es', h5, h6⟩ := hr.mapAt hem hm
        split at hl
        · simp at hl
        · rename_i hc
          simp only [ne_eq, Decidable.not_not] at hc
          simp only [Option.map_eq_some_iff] at hl
          obtain ⟨x, hx, rfl⟩ := hl
          obtain ⟨y, k1, k2, k3, k4⟩ := h6.find (p := fun n => n == stamp) hx
          have hback : seen'.back? = some stamp := by rw [Array.back?_eq_getElem?, ← Array.getElem?_toList, ← Array.length_toList, h3, ← List.getLast?_eq_getElem?, hs]
          refine ⟨.tuple #[y.key, y.val], ?_, k3.two k4⟩
          have hk1 : es'.find? (fun e => e.born == stamp) = some y := by rw [← Array.find?_toList]; exact k1
          simp [Instr.entry, h2, run_getObj_oth h1 rfl, run_getObj_oth h5 rfl, hback, hc, hk1]
      · simp at hl
    · simp at hl
  · simp at hl

/-! ### Changes -/
/-- A map's entries become others. -/
theorem HR.setMap (hr : HR base σ h w) {b : Nat} {e : En} {es fs : List MapEntry} {c d : Nat} {fs' : Array MapEntry} (he : σ b = some e) (hob : h.ob b = some (.map es c)) (hf : ERel σ fs fs'.toList) :
    HR base σ (h.setOb b (.map fs d)) { w with heap := w.heap.setIfInBounds e.rb (.map fs' d) } ∧ Ext base σ h w σ (h.setOb b (.map fs d)) { w with heap := w.heap.setIfInBounds e.rb (.map fs' d) } :=
  hr.setOth he hob rfl rfl ⟨rfl, hf⟩

theorem keyStays_at {es : List MapEntry} {es' : List MapEntry} (he : ERel σ es es') {i : Nat} {k k' : Value} (hs : keyStays es i k = true) (hk : VRel σ k k') :
    ∃ x y, es[i]? = some x ∧ es'[i]? = some y ∧ y.born = x.born ∧ (∀ w, (Instr.keyThatStays y.key k').run P w = .ok k' w) := by
  unfold keyStays at hs
  split at hs
  · rename_i x hx
    obtain ⟨y, h1, h2, h3, _⟩ := he.get hx
    exact ⟨x, y, hx, h1, h2, fun w => keyStays_run w hs h3 hk⟩
  · simp at hs

theorem cmapUpdate_run (hr : HR base σ h w) {t : TypeId} {m m' k k' x x' : Value} (hc : cmapUpdate P t m k x h = some h') (hm : VRel σ m m') (hk : VRel σ k k') (hx : VRel σ x x') :
    ∃ w', (Instr.mapUpdate t m' k' x').run P w = .ok () w' ∧ HR base σ h' w' ∧ Ext base σ h w σ h' w' := by
  unfold cmapUpdate at hc
  split at hc
  · rename_i kt et b hu
    split at hc
    · simp at hc
    · rename_i hko
      simp only [Bool.not_eq_true', Bool.not_eq_false] at hko
      split at hc
      · rename_i es clock hob
        obtain ⟨e, he, rfl⟩ := hm.map_inv
        obtain ⟨es', h1, h2⟩ := hr.mapAt he hob
        have hck : (Instr.checkKey false 10000 kt k').run P w = .ok () w := checkKey_run (P := P) w hko hk false 9998
        split at hc
        · rename_i i u hf
          split at hc
          · rename_i hs
            simp at hc; subst hc
            obtain ⟨r', q1, q2⟩ := findK_run w hk h2 hf
            cases r' with
            | none => exact q2.elim
            | some ju =>
              obtain ⟨j, u'⟩ := ju
              obtain ⟨rfl, _⟩ := q2
              obtain ⟨a, y, ha, hy, hb, hst⟩ := keyStays_at (P := P) h2 hs hk
              have hy' : es'[i]? = some y := by rw [← Array.getElem?_toList]; exact hy
              have hrel : ERel σ (setVal es i k x) (es'.modify i fun e => { e with key := k', val := x' }).toList := by
                rw [Array.toList_modify]
                exact ERel.modify (f := fun e => { e with key := k, val := x }) (g := fun e => { e with key := k', val := x' }) h2 (fun a b h3 _ _ => ⟨h3, hk, hx⟩) i
              obtain ⟨g1, g2⟩ := hr.setMap (d := clock) he hob hrel
              refine ⟨_, ?_, g1, g2⟩
              simp [Instr.mapUpdate, run_underlying hu, run_getObj_oth h1 rfl, hck, q1, hy', hst, run_setObj_oth _ h1 rfl]
          · simp at hc
        · rename_i hf
          simp at hc; subst hc
          obtain ⟨r', q1, q2⟩ := findK_run w hk h2 hf
          cases r' with
          | some ju => exact q2.elim
          | none =>
            have hrel : ERel σ (es ++ [⟨k, x, clock⟩]) (es'.push ⟨k', x', clock⟩).toList := by
              rw [Array.toList_push]
              exact h2.append (.cons _ _ _ _ rfl hk hx .nil)
            obtain ⟨g1, g2⟩ := hr.setMap (d := clock + 1) he hob hrel
            refine ⟨_, ?_, g1, g2⟩
            simp [Instr.mapUpdate, run_underlying hu, run_getObj_oth h1 rfl, hck, q1, run_setObj_oth _ h1 rfl]
        · simp at hc
      · simp at hc
  · simp at hc

theorem cmapEntry_run (hr : HR base σ h w) {t : TypeId} {m m' k k' v : Value} (hc : cmapEntry P t m k h = some (v, h')) (hm : VRel σ m m') (hk : VRel σ k k') :
    ∃ v' w', (Instr.mapEntry t m' k').run P w = .ok v' w' ∧ VRel σ v v' ∧ HR base σ h' w' ∧ Ext base σ h w σ h' w' := by
  unfold cmapEntry at hc
  split at hc
  · rename_i kt et b hu
    split at hc
    · simp at hc
    · rename_i hko
      simp only [Bool.not_eq_true', Bool.not_eq_false] at hko
      split at hc
      · rename_i es clock hob
        obtain ⟨e, he, rfl⟩ := hm.map_inv
        obtain ⟨es', h1, h2⟩ := hr.mapAt he hob
        have hck : (Instr.checkKey false 10000 kt k').run P w = .ok () w := checkKey_run (P := P) w hko hk false 9998
        split at hc
        · rename_i i u hf
          split at hc
          · simp at hc
          · rename_i hs
            simp only [Bool.not_eq_true', Bool.not_eq_false] at hs
            split at hc
            · rename_i a0 ha0
              simp at hc; obtain ⟨rfl, rfl⟩ := hc
              obtain ⟨r', q1, q2⟩ := findK_run w hk h2 hf
              cases r' with
              | none => exact q2.elim
              | some ju =>
                obtain ⟨j, u'⟩ := ju
                obtain ⟨rfl, hv⟩ := q2
                obtain ⟨a, y, ha, hy, hb, hst⟩ := keyStays_at (P := P) h2 hs hk
                rw [ha] at ha0; cases ha0
                have hy' : es'[i]? = some y := by rw [← Array.getElem?_toList]; exact hy
                have hrel : ERel σ (setKey es i k) (es'.modify i fun e => { e with key := k' }).toList := by
                  rw [Array.toList_modify]
                  exact ERel.modify (f := fun e => { e with key := k }) (g := fun e => { e with key := k' }) h2 (fun a b h3 _ h4 => ⟨h3, hk, h4⟩) i
                obtain ⟨g1, g2⟩ := hr.setMap (d := clock) he hob hrel
                refine ⟨.tuple #[u', goInt y.born], _, ?_, ?_, g1, g2⟩
                · simp [Instr.mapEntry, run_underlying hu, run_getObj_oth h1 rfl, hck, q1, hy', hst, run_setObj_oth _ h1 rfl]
                · rw [hb]; exact hv.two (.int _ _)
            · simp at hc
        · rename_i hf
          split at hc
          · rename_i z hz
            split at hc
            · rename_i hp
              simp at hc; obtain ⟨rfl, rfl⟩ := hc
              obtain ⟨r', q1, q2⟩ := findK_run w hk h2 hf
              cases r' with
              | some ju => exact q2.elim
              | none =>
                have hv := plainV_rel σ 100 z hp
                have hrel : ERel σ (es ++ [⟨k, z, clock⟩]) (es'.push ⟨k', z, clock⟩).toList := by
                  rw [Array.toList_push]
                  exact h2.append (.cons _ _ _ _ rfl hk hv .nil)
                obtain ⟨g1, g2⟩ := hr.setMap (d := clock + 1) he hob hrel
                refine ⟨.tuple #[z, goInt clock], _, ?_, hv.two (.int _ _), g1, g2⟩
                simp [Instr.mapEntry, run_underlying hu, run_getObj_oth h1 rfl, hck, q1, run_zero hz, run_setObj_oth _ h1 rfl]
            · simp at hc
          · simp at hc
        · simp at hc
      · simp at hc
  · simp at hc

theorem centryStore_run (hr : HR base σ h w) {t : TypeId} {m m' s s' x x' : Value} (hc : centryStore m s x h = some h') (hm : VRel σ m m') (hs : VRel σ s s') (hx : VRel σ x x') :
    ∃ w', (Instr.entryStore t m' s' x').run P w = .ok () w' ∧ HR base σ h' w' ∧ Ext base σ h w σ h' w' := by
  unfold centryStore at hc
  split at hc
  · rename_i b k born
    split at hc
    · rename_i es clock hob
      obtain ⟨e, he, rfl⟩ := hm.map_inv
      obtain rfl := hs.int_inv
      obtain ⟨es', h1, h2⟩ := hr.mapAt he hob
      simp only [Option.map_eq_some_iff] at hc
      obtain ⟨i, hi, rfl⟩ := hc
      have hi' : es'.findIdx? (fun e => (e.born : Int) == born) = some i := by
        rw [← hi, ← h2.findIdx (p := fun n => (n : Int) == born), ← List.findIdx?_toArray, Array.toArray_toList]
      have hrel : ERel σ (es.modify i fun e => { e with val := x }) (es'.modify i fun e => { e with val := x' }).toList := by
        rw [Array.toList_modify]
        exact ERel.modify (f := fun e => { e with val := x }) (g := fun e => { e with val := x' }) h2 (fun a b h3 h4 _ => ⟨h3, h4, hx⟩) i
      obtain ⟨g1, g2⟩ := hr.setMap (d := clock) he hob hrel
      refine ⟨_, ?_, g1, g2⟩
      simp [Instr.entryStore, run_getObj_oth h1 rfl, asInt, asIntOf, hi', run_setObj_oth _ h1 rfl]
    · simp at hc
  · simp at hc

theorem setSame {r : Nat} {o : Obj} (h : w.heap[r]? = some o) : ({ w with heap := w.heap.setIfInBounds r o } : World) = w := by
  have : w.heap.setIfInBounds r o = w.heap := by
    apply Array.ext_getElem?
    intro i
    by_cases hi : r = i
    · subst hi
      have hlt := (Array.getElem?_eq_some_iff.1 h).1
      rw [Array.getElem?_setIfInBounds_self_of_lt hlt, h]
    · rw [Array.getElem?_setIfInBounds_ne hi]
  rw [this]

theorem cdelete_run (hr : HR base σ h w) {ts : Array TypeId} {t ty : TypeId} {m m' k k' v : Value} {xs : Array Value} (ht : ts[0]? = some t) (hx0 : xs[0]? = some m') (hx1 : xs[1]? = some k') (hc : cdelete P t m k h = some (v, h')) (hm : VRel σ m m') (hk : VRel σ k k') :
    ∃ v' w', (Builtin.delete_ ts ty xs).run P w = .ok v' w' ∧ VRel σ v v' ∧ HR base σ h' w' ∧ Ext base σ h w σ h' w' := by
  unfold cdelete at hc
  split at hc
  · rename_i kt et hu
    split at hc
    · rename_i hko
      simp at hc; obtain ⟨rfl, rfl⟩ := hc
      obtain rfl := hm.mnil_inv
      have hck : (Instr.checkKey true 10000 kt k').run P w = .ok () w := checkKey_run (P := P) w hko hk true 9998
      exact ⟨undef, w, by simp [Builtin.delete_, ht, hx0, hx1, run_underlying hu, hck, undef], VRel.undef σ, hr, Ext.refl _ _ _ _⟩
    · simp at hc
  · rename_i kt et b hu
    split at hc
    · simp at hc
    · rename_i hko
      simp only [Bool.not_eq_true', Bool.not_eq_false] at hko
      split at hc
      · rename_i es clock hob
        obtain ⟨e, he, rfl⟩ := hm.map_inv
        obtain ⟨es', h1, h2⟩ := hr.mapAt he hob
        have hck : (Instr.checkKey es'.isEmpty 10000 kt k').run P w = .ok () w := checkKey_run (P := P) w hko hk es'.isEmpty 9998
        split at hc
        · rename_i i u hf
          simp at hc; obtain ⟨rfl, rfl⟩ := hc
          obtain ⟨r', q1, q2⟩ := findK_run w hk h2 hf
          cases r' with
          | none => exact q2.elim
          | some ju =>
            obtain ⟨j, u'⟩ := ju
            obtain ⟨rfl, _⟩ := q2
            have hrel : ERel σ (es.eraseIdx i) (es'.eraseIdxIfInBounds i).toList := by
              rw [Array.toList_eraseIdxIfInBounds]
              exact h2.eraseIdx i
            obtain ⟨g1, g2⟩ := hr.setMap (d := clock) he hob hrel
            refine ⟨undef, _, ?_, VRel.undef σ, g1, g2⟩
            simp [Builtin.delete_, ht, hx0, hx1, run_underlying hu, run_getObj_oth h1 rfl, hck, q1, run_setObj_oth _ h1 rfl, undef]
        · rename_i hf
          simp at hc; obtain ⟨rfl, rfl⟩ := hc
          obtain ⟨r', q1, q2⟩ := findK_run w hk h2 hf
          cases r' with
          | some ju => exact q2.elim
          | none =>
            refine ⟨undef, w, ?_, VRel.undef σ, hr, Ext.refl _ _ _ _⟩
            simp [Builtin.delete_, ht, hx0, hx1, run_underlying hu, run_getObj_oth h1 rfl, hck, q1, run_setObj_oth _ h1 rfl, setSame h1, undef]
        · simp at hc
      · simp at hc
  · simp at hc

theorem WNew.push (w : World) (o : Obj) : WNew w (w.alloc o) o := ⟨rfl, rfl, rfl, rfl⟩

theorem crange_run (hr : HR base σ h w) {t : TypeId} {x x' v : Value} (hc : crange P t x h = some (v, h')) (hx : VRel σ x x') :
    ∃ σ' v' w', (Instr.range t x').run P w = .ok v' w' ∧ VRel σ' v v' ∧ HR base σ' h' w' ∧ Ext base σ h w σ' h' w' := by
  unfold crange at hc
  split at hc
  · rename_i kt et hu
    simp at hc; obtain ⟨rfl, rfl⟩ := hc
    obtain rfl := hx.mnil_inv
    obtain ⟨g1, g2, g3⟩ := hr.newOth (o := .iter none 0 [] 0) (r := .mapIter none 0 #[] 0) rfl (WNew.push w _) ⟨rfl, rfl, rfl, rfl⟩
    refine ⟨_, .pointer (some ⟨w.heap.size, 0, none⟩), _, ?_, ?_, g1, g2⟩
    · simp [Instr.range, run_underlying hu]
    · exact .ptr _ 0 _ g3
  · rename_i kt et b hu
    split at hc
    · rename_i es clock hob
      simp at hc; obtain ⟨rfl, rfl⟩ := hc
      obtain ⟨e, he, rfl⟩ := hx.map_inv
      obtain ⟨es', h1, h2⟩ := hr.mapAt he hob
      have hle : σ.le (σ.put h.next ⟨w.heap.size, 0, 0⟩) := Sg.put_le (hr.none_next (Nat.le_refl _))
      obtain ⟨g1, g2, g3⟩ := hr.newOth (o := .iter (some b) clock [] clock) (r := .mapIter (some e.rb) clock #[] clock) rfl (WNew.push w _) ⟨rfl, rfl, rfl, e, hle _ _ he, rfl⟩
      refine ⟨_, .pointer (some ⟨w.heap.size, 0, none⟩), _, ?_, ?_, g1, g2⟩
      · simp [Instr.range, run_underlying hu, run_getObj_oth h1 rfl]
      · exact .ptr _ 0 _ g3
    · simp at hc
  · simp at hc

theorem makeMap_run (hr : HR base σ h w) (t : TypeId) {r : Option Value} (hrr : r = none ∨ (∃ k n, r = some (.int k n)) ∧ ∃ a b, P.underlying t = some (.map a b)) :
    ∃ σ' v' w', (Instr.makeMap t r).run P w = .ok v' w' ∧ VRel σ' (.map (some h.next)) v' ∧ HR base σ' (h.newOb (.map [] 0)) w' ∧ Ext base σ h w σ' (h.newOb (.map [] 0)) w' := by
  obtain ⟨g1, g2, g3⟩ := hr.newOth (o := .map [] 0) (r := .map #[] 0) rfl (WNew.push w _) ⟨rfl, .nil⟩
  refine ⟨_, .map (some w.heap.size), _, ?_, .map _ _ g3, g1, g2⟩
  rcases hrr with rfl | ⟨⟨k, n, rfl⟩, a, b, hu⟩
  · simp [Instr.makeMap]
  · simp [Instr.makeMap, run_underlying hu, asInt, asIntOf]

theorem cnext_run (hr : HR base σ h w) {x x' : Value} {ty : TypeId} {alts : List (Value × Hp)} (hc : cnext x h = some alts) (hx : VRel σ x x') :
    ∃ v h' v' w', (v, h') ∈ alts ∧ (Instr.next x' false ty).run P w = .ok v' w' ∧ VRel σ v v' ∧ HR base σ h' w' ∧ Ext base σ h w σ h' w' := by
  unfold cnext at hc
  split at hc
  · split at hc
    · rename_i b s0 seen st hob
      simp at hc; subst hc
      obtain ⟨_, e, he, rfl⟩ := hx.ptr_inv
      obtain ⟨m', seen', h1, h0, h3, rfl⟩ := hr.iterAt he hob
      refine ⟨_, _, .tuple #[.bool false], w, by simp, ?_, .one false, hr, Ext.refl _ _ _ _⟩
      simp [Instr.next, h0, run_getObj_oth h1 rfl]
    · rename_i b m since seen last hob
      obtain ⟨_, e, he, rfl⟩ := hx.ptr_inv
      obtain ⟨m', seen', h1, h0, h3, h4⟩ := hr.iterAt he hob
      obtain ⟨em, hem, rfl⟩ := h4
      split at hc
      · rename_i es clock hm
        obtain ⟨es', h5, h6⟩ := hr.mapAt hem hm
        split at hc
        · simp at hc
        · rename_i hun
          simp only [Option.some.injEq] at hc
          -- the model's lists
          have hseen : seen'.isEmpty = seen.isEmpty := by rw [← h3]; simp
          have hes : es'.isEmpty = es.isEmpty := h6.empty
          have hall : es'.all (fun e => decide (e.born ≥ last)) = es.all (fun e => decide (e.born ≥ last)) := by
            rw [← Array.all_toList]; exact h6.all (p := fun n => decide (n ≥ last))
          have hun' : (!seen'.isEmpty && !es'.isEmpty && es'.all (fun e => decide (e.born ≥ last))) = false := by
            rw [hseen, hes, hall]; simpa using hun
          have hcon : ∀ n, seen'.contains n = seen.contains n := by intro n; rw [← h3]; simp
          have hL : ERel σ (es.filter fun e => !seen.contains e.born) ((es'.filter fun e => !seen'.contains e.born)).toList := by
            rw [Array.toList_filter]
            simp only [hcon]
            exact h6.filter (p := fun n => !seen.contains n)
          generalize hl : (es.filter fun e => !seen.contains e.born) = left at hc hL
          generalize hl' : (es'.filter fun e => !seen'.contains e.born) = left' at hL
          have hO : ERel σ (left.filter fun e => decide (e.born < since)) (left'.filter fun e => decide (e.born < since)).toList := by
            rw [Array.toList_filter]; exact hL.filter (p := fun n => decide (n < since))
          have hN : ERel σ (left.filter fun e => decide (e.born ≥ since)) (left'.filter fun e => decide (e.born ≥ since)).toList := by
            rw [Array.toList_filter]; exact hL.filter (p := fun n => decide (n ≥ since))
          generalize ho : (left.filter fun e => decide (e.born < since)) = old at hc hO
          generalize ho' : (left'.filter fun e => decide (e.born < since)) = old' at hO
          generalize hn : (left.filter fun e => decide (e.born ≥ since)) = new at hc hN
          generalize hn' : (left'.filter fun e => decide (e.born ≥ since)) = new' at hN
          have hoe : old'.isEmpty = old.isEmpty := hO.empty
          -- what is drawn
          let cand : Array (Option MapEntry) := (if old'.isEmpty then #[none] else #[]) ++ (old' ++ new').map some
          have hcand : cand.toList = (if old.isEmpty then [none] else []) ++ (old'.toList ++ new'.toList).map some := by
            simp only [cand, Array.toList_append, Array.toList_map, hoe]
            split <;> rfl
          have hpos : 0 < cand.size := by
            rw [← Array.length_toList, hcand]
            by_cases hh : old.isEmpty = true
            · simp [hh]
            · have := hO.length
              cases old with
              | nil => simp at hh
              | cons a l => simp at this; simp; omega
          obtain ⟨i, wd, hi, hch, hwh, hwo⟩ : ∃ i wd, i < cand.size ∧ (choose (.mapNext cand.size)).run P w = .ok i wd ∧ wd.heap = w.heap ∧ wd = { w with drawn := wd.drawn } := by
            rw [run_choose]
            split
            · exact ⟨0, w, hpos, rfl, rfl, rfl⟩
            · exact ⟨_, _, Nat.mod_lt _ hpos, rfl, rfl, rfl⟩
          have hrd : HR base σ h wd := hr.drawn hwh
          have hext : Ext base σ h w σ h wd := by
            rw [hwo]
            exact ⟨Sg.le_refl σ, rfl, rfl, rfl, Nat.le_refl _, fun _ _ => rfl, fun _ _ _ => rfl, fun b e s1 s2 => by rw [s1] at s2; simp at s2, Nat.le_refl _, fun b _ hb => ⟨rfl, rfl, hb⟩⟩
          have h1d : wd.heap[e.rb]? = some (.mapIter (some em.rb) since seen' last) := by rw [hwh]; exact h1
          have hci : cand[i]? = cand.toList[i]? := by simp
          have hrun : (Instr.next (.pointer (some ⟨e.rb, e.ro + 0, none⟩)) false ty).run P w = (match cand[i]? with
              | some (some x) => do
                setObj e.rb (.mapIter (some em.rb) since (seen'.push x.born) clock)
                pure (.tuple #[.bool true, x.key, x.val])
              | some none => pure (.tuple #[.bool false])
              | none => stuck "Next: no such candidate" : Sem Value).run P wd := by
            have hun2 : ¬ ((¬ seen' = #[] ∧ ¬ es' = #[]) ∧ ∀ (i : Nat) (hi : i < es'.size), last ≤ es'[i].born) := by
              intro hx
              have : (!seen'.isEmpty && !es'.isEmpty && es'.all (fun e => decide (e.born ≥ last))) = true := by
                simp only [Bool.and_eq_true, Bool.not_eq_true', Array.isEmpty_iff, Array.isEmpty_eq_false_iff, Array.all_eq_true, decide_eq_true_eq]
                exact hx
              rw [hun'] at this; simp at this
            simp only [Instr.next, Sem.run_bind, h0, Nat.add_zero, run_getObj_oth h1 rfl, Result.andThen_ok, run_getObj_oth h5 rfl, hun', Bool.false_eq_true, if_false, Sem.run_pure, hl', ho', hn']
            show ((choose (.mapNext cand.size)).run P w).andThen _ = _
            rw [hch]
            rfl
          have hseen2 : (seen'.push 0).size = seen'.size + 1 := by simp
          rw [hrun]
          by_cases hover : old.isEmpty = true ∧ i = 0
          · obtain ⟨hoe1, rfl⟩ := hover
            have hc0 : cand[0]? = some none := by rw [hci, hcand]; simp [hoe1]
            rw [hc0]
            exact ⟨_, _, .tuple #[.bool false], wd, by rw [← hc]; simp [hoe1], rfl, .one false, hrd, hext⟩
          · -- an entry
            have hent : ∃ x y, cand[i]? = some (some y) ∧ (x ∈ old ++ new) ∧ y.born = x.born ∧ VRel σ x.key y.key ∧ VRel σ x.val y.val := by
              have hon := hO.append hN
              have hlen := hon.length
              have hisz : i < cand.toList.length := by simpa using hi
              by_cases hoe1 : old.isEmpty = true
              · have hi1 : i ≠ 0 := fun hh => hover ⟨hoe1, hh⟩
                rw [hci, hcand, if_pos hoe1, List.getElem?_append_right (by simp; omega)]
                rw [hcand, if_pos hoe1] at hisz
                simp only [List.length_append, List.length_cons, List.length_nil, List.length_map] at hisz
                have hj : i - 1 < (old ++ new).length := by rw [hlen, List.length_append]; omega
                obtain ⟨y, q1, q2⟩ := hon.get (List.getElem?_eq_getElem hj)
                refine ⟨(old ++ new)[i - 1], y, ?_, List.getElem_mem hj, q2⟩
                simp only [List.length_cons, List.length_nil, List.getElem?_map, q1]; rfl
              · rw [hci, hcand, if_neg hoe1, List.nil_append]
                rw [hcand, if_neg hoe1] at hisz
                simp only [List.length_append, List.length_nil, List.length_map] at hisz
                have hj : i < (old ++ new).length := by rw [hlen, List.length_append]; omega
                obtain ⟨y, q1, q2⟩ := hon.get (List.getElem?_eq_getElem hj)
                refine ⟨(old ++ new)[i], y, ?_, List.getElem_mem hj, q2⟩
                simp only [List.getElem?_map, q1]; rfl
            obtain ⟨x, y, hy, hxm, k1, k2, k3⟩ := hent
            rw [hy]
            obtain ⟨g1, g2⟩ := hrd.setOth (o' := .iter (some m) since (seen ++ [x.born]) clock) (r' := .mapIter (some em.rb) since (seen'.push y.born) clock) he hob rfl rfl
              ⟨rfl, rfl, by rw [Array.toList_push, h3, k1], em, hem, rfl⟩
            refine ⟨.tuple #[.bool true, x.key, x.val], _, .tuple #[.bool true, y.key, y.val], _, ?_, ?_, .three (.bool _) k2 k3, g1, hext.trans g2⟩
            · rw [← hc]
              refine List.mem_append.2 (.inr (List.mem_map.2 ⟨x, hxm, rfl⟩))
            · simp [run_setObj_oth _ h1d rfl]
      · simp at hc
    · simp at hc
  · simp at hc
end
end Go.Cn
