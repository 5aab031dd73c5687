/- The canonical semantics: a region that draws its order. -/
import Derived.Test.YtfkhjbfddeahaaaCnL
set_option linter.unusedVariables false
set_option linter.unusedSimpArgs false
namespace Go.Cn
section
variable {P : Program}

/-! ### Places made ahead -/
/-- A canonical block more, of which the model knows nothing yet. -/
theorem HR.ghost {base : Nat} {σ : Sg} {h : Hp} {w : World} (hr : HR base σ h w) (cs : List Value) (t : TypeId) : HR base σ (h.alloc cs t) w := by
  have hobn : h.ob h.next = none := (hr.fresh _ (Nat.le_refl _)).1
  have hne : ∀ b e, σ b = some e → b ≠ h.next := fun b e hb => by have := (hr.dom b e hb).1; omega
  refine ⟨hr.base_le, fun b e hb => ⟨by have := (hr.dom b e hb).1; rw [Hp.next_alloc]; omega, (hr.dom b e hb).2⟩, ?_, ?_, ?_, ?_, ?_, ?_, ?_⟩
  · intro b hb
    rw [Hp.next_alloc] at hb
    rw [Hp.ob_alloc, Hp.gs_alloc, if_neg (by omega)]
    exact hr.fresh b (by omega)
  · intro b e cs' t' g hb hob hl
    rw [Hp.ob_alloc, if_neg (hne b e hb)] at hob
    exact hr.cell b e cs' t' g hb hob hl
  · intro b cs' t' g hob
    rw [Hp.ob_alloc] at hob
    rw [Hp.next_alloc]
    split at hob
    · cases hob; omega
    · have := hr.grp b cs' t' g hob; omega
  · intro b e cs' t' g hb hob
    rw [Hp.ob_alloc, if_neg (hne b e hb)] at hob
    exact hr.gdom b e cs' t' g hb hob
  · intro g l hg b hb
    rw [Hp.gs_alloc] at hg
    obtain ⟨cs', t', hob⟩ := hr.stack g l hg b hb
    refine ⟨cs', t', ?_⟩
    rw [Hp.ob_alloc, if_neg ?_]
    · exact hob
    · rintro rfl; rw [hobn] at hob; simp at hob
  · intro g l hg
    rw [Hp.gs_alloc] at hg
    refine (hr.nest g l hg).imp_of_mem fun {b1 b2} m1 m2 hp => ?_
    intro e1 e2 cs1 cs2 t1 t2 g1 g2 s1 s2 o1 o2
    rw [Hp.ob_alloc, if_neg (hne b1 e1 s1)] at o1
    rw [Hp.ob_alloc, if_neg (hne b2 e2 s2)] at o2
    exact hp e1 e2 cs1 cs2 t1 t2 g1 g2 s1 s2 o1 o2
  · intro b1 b2 e1 e2 cs1 cs2 t1 t2 g1 g2 s1 s2 o1 o2 l1 l2 hrb
    rw [Hp.ob_alloc, if_neg (hne b1 e1 s1)] at o1
    rw [Hp.ob_alloc, if_neg (hne b2 e2 s2)] at o2
    exact hr.apart b1 b2 e1 e2 cs1 cs2 t1 t2 g1 g2 s1 s2 o1 o2 l1 l2 hrb

/-- The model makes it now. -/
theorem HR.late {base : Nat} {σ : Sg} {h : Hp} {w w' : World} (hr : HR base σ h w) {b : Nat} {cs : List Value} {t : TypeId} {c : Array Value} {el : TypeId} {fr : Nat × Nat}
    (hb : σ b = none) (hbn : b < h.next) (hob : h.ob b = some (.cells cs t (some b))) (hgs : h.gs.get b = none)
    (hw : WNew w w' (.cells c el fr)) (hlen : cs.length ≤ c.size) (hrel : ∀ (i : Nat) v, cs[i]? = some v → ∃ v', c[i]? = some v' ∧ VRel σ v v') (hfr : ∀ j, j < c.size → ¬ (fr.1 ≤ j ∧ j < fr.2)) :
    HR base (σ.put b ⟨w.heap.size, 0, c.size⟩) h w' := by
  have hle : σ.le (σ.put b ⟨w.heap.size, 0, c.size⟩) := Sg.put_le hb
  have hold : ∀ k, k < w.heap.size → w'.heap[k]? = w.heap[k]? := by
    intro k hk; rw [hw.heap, Array.getElem?_push, if_neg (by omega)]
  have hput : ∀ x e, (σ.put b ⟨w.heap.size, 0, c.size⟩) x = some e → (x = b ∧ e = ⟨w.heap.size, 0, c.size⟩) ∨ (x ≠ b ∧ σ x = some e) := by
    intro x e hx
    unfold Sg.put at hx
    split at hx
    · rename_i hh; left; exact ⟨hh, by simpa using hx.symm⟩
    · rename_i hh; right; exact ⟨hh, hx⟩
  refine ⟨?_, ?_, hr.fresh, ?_, hr.grp, ?_, hr.stack, ?_, ?_⟩
  · rw [hw.heap]; simp; have := hr.base_le; omega
  · intro x e hx
    rw [hw.heap]; simp
    rcases hput x e hx with ⟨rfl, rfl⟩ | ⟨_, h2⟩
    · exact ⟨hbn, by simp⟩
    · have := hr.dom _ _ h2; omega
  · intro x e cs' t' g hx hob' hl
    rcases hput x e hx with ⟨rfl, rfl⟩ | ⟨h1, h2⟩
    · rw [hob] at hob'; cases hob'
      refine ⟨⟨c, el, fr, by rw [hw.heap]; simp, rfl, by simpa using hlen, ?_, fun _ => hfr⟩, hr.base_le⟩
      intro i v hv
      obtain ⟨v', h3, h4⟩ := hrel i v hv
      exact ⟨v', by simpa using h3, h4.mono hle⟩
    · obtain ⟨⟨c0, el0, fr0, h3, h4, h5, h6, h7⟩, h8⟩ := hr.cell x e cs' t' g h2 hob' hl
      refine ⟨⟨c0, el0, fr0, by rw [hold _ (hr.dom _ _ h2).2]; exact h3, h4, h5, ?_, h7⟩, h8⟩
      intro i v hv
      obtain ⟨v', h9, h10⟩ := h6 i v hv
      exact ⟨v', h9, h10.mono hle⟩
  · intro x e cs' t' g hx hob'
    rcases hput x e hx with ⟨rfl, rfl⟩ | ⟨h1, h2⟩
    · rw [hob] at hob'; cases hob'; exact ⟨_, hx⟩
    · obtain ⟨e', he'⟩ := hr.gdom x e cs' t' g h2 hob'
      exact ⟨e', hle _ _ he'⟩
  · intro g l hg
    refine (hr.nest g l hg).imp_of_mem fun {b1 b2} m1 m2 hp => ?_
    intro e1 e2 cs1 cs2 t1 t2 g1 g2 s1 s2 o1 o2
    have n1 : b1 ≠ b := by
      rintro rfl; obtain ⟨_, _, hx⟩ := hr.stack g l hg _ m1; rw [hob] at hx; cases hx; rw [hgs] at hg; simp at hg
    have n2 : b2 ≠ b := by
      rintro rfl; obtain ⟨_, _, hx⟩ := hr.stack g l hg _ m2; rw [hob] at hx; cases hx; rw [hgs] at hg; simp at hg
    rcases hput b1 e1 s1 with ⟨e, _⟩ | ⟨_, s1'⟩
    · exact absurd e n1
    · rcases hput b2 e2 s2 with ⟨e, _⟩ | ⟨_, s2'⟩
      · exact absurd e n2
      · exact hp e1 e2 cs1 cs2 t1 t2 g1 g2 s1' s2' o1 o2
  · intro b1 b2 e1 e2 cs1 cs2 t1 t2 g1 g2 s1 s2 o1 o2 l1 l2 hrb
    rcases hput b1 e1 s1 with ⟨rfl, rfl⟩ | ⟨n1, s1'⟩
    · rcases hput b2 e2 s2 with ⟨rfl, rfl⟩ | ⟨n2, s2'⟩
      · rw [o1] at o2; cases o2; rfl
      · have := (hr.dom _ _ s2').2; simp at hrb; omega
    · rcases hput b2 e2 s2 with ⟨rfl, rfl⟩ | ⟨n2, s2'⟩
      · have := (hr.dom _ _ s1').2; simp at hrb; omega
      · exact hr.apart b1 b2 e1 e2 cs1 cs2 t1 t2 g1 g2 s1' s2' o1 o2 l1 l2 hrb

/-- What the places made ahead are like, seen from the heap where they began. -/
structure PreOk (P : Program) (ops : List Oper) (h0 h : Hp) (pre : List (Option Value)) (off : Nat) : Prop where
  next : h0.next ≤ h.next
  old : ∀ b, b < h0.next → h.ob b = h0.ob b
  gs : h.gs = h0.gs
  is : ∀ i v, pre.getD i none = some v → ∃ o ty z id, ops[off + i]? = some o ∧ o.op = .alloc ty ∧ zero? P ty = some z ∧ plainV 100 z = true ∧ v = ptr id 0 ∧ h0.next ≤ id ∧ id < h.next ∧
    h.ob id = some (.cells z.cells.toList ty (some id))
  inj : ∀ i j v, pre.getD i none = some v → pre.getD j none = some v → i = j
  all : ∀ i o, ops[off + i]? = some o → isAlloc o.op = true → ∃ v, pre.getD i none = some v

theorem preAlloc_spec {ops : List Oper} : ∀ (rest : List Oper) (off : Nat) (h0 h : Hp) (pre : List (Option Value)), rest = ops.drop off → preAlloc P rest h0 = some (pre, h) →
    (∀ b, h0.next ≤ b → h0.ob b = none) → PreOk P ops h0 h pre off
  | [], off, h0, h, pre, hr, hp, hf => by
    simp [preAlloc] at hp
    obtain ⟨rfl, rfl⟩ := hp
    refine ⟨Nat.le_refl _, fun _ _ => rfl, rfl, by simp, by simp, ?_⟩
    intro i o hi
    have : ops.length ≤ off := by simpa using hr.symm
    rw [List.getElem?_eq_none (by omega)] at hi; simp at hi
  | o :: rest, off, h0, h, pre, hr, hp, hf => by
    have ho : ops[off]? = some o := by
      have := congrArg (fun l : List Oper => l[0]?) hr
      simp at this; exact this.symm
    have hrest : rest = ops.drop (off + 1) := by
      have := congrArg List.tail hr
      simpa using this
    simp only [preAlloc] at hp
    split at hp
    · rename_i ty hop
      split at hp
      · rename_i z hz
        split at hp
        · rename_i hpl
          split at hp
          · rename_i l h' hl
            simp at hp
            obtain ⟨rfl, rfl⟩ := hp
            have ih := preAlloc_spec rest (off + 1) _ _ _ hrest hl (fun b hb => by
              rw [Hp.next_alloc] at hb
              rw [Hp.ob_alloc, if_neg (by omega)]
              exact hf b (by omega))
            have hn := ih.next
            rw [Hp.next_alloc] at hn
            refine ⟨by omega, ?_, by rw [ih.gs]; rfl, ?_, ?_, ?_⟩
            · intro b hb
              rw [ih.old b (by rw [Hp.next_alloc]; omega), Hp.ob_alloc, if_neg (by omega)]
            · intro i v hv
              cases i with
              | zero =>
                simp at hv; subst hv
                refine ⟨o, ty, z, h0.next, by simpa using ho, hop, hz, hpl, rfl, Nat.le_refl _, by omega, ?_⟩
                rw [ih.old _ (by rw [Hp.next_alloc]; omega), Hp.ob_alloc, if_pos rfl]
              | succ i =>
                simp at hv
                obtain ⟨o', ty', z', id, h1, h2, h3, h4, h5, h6, h7, h8⟩ := ih.is i v (by simpa using hv)
                exact ⟨o', ty', z', id, by rw [show off + (i + 1) = off + 1 + i by omega]; exact h1, h2, h3, h4, h5, by rw [Hp.next_alloc] at h6; omega, h7, h8⟩
            · intro i j v hi hj
              cases i with
              | zero =>
                cases j with
                | zero => rfl
                | succ j =>
                  exfalso
                  simp at hi hj
                  obtain ⟨o', ty', z', id, h1, h2, h3, h4, h5, h6, h7, h8⟩ := ih.is j v (by simpa using hj)
                  rw [← hi] at h5
                  simp [ptr] at h5
                  rw [Hp.next_alloc] at h6; omega
              | succ i =>
                cases j with
                | zero =>
                  exfalso
                  simp at hi hj
                  obtain ⟨o', ty', z', id, h1, h2, h3, h4, h5, h6, h7, h8⟩ := ih.is i v (by simpa using hi)
                  rw [← hj] at h5
                  simp [ptr] at h5
                  rw [Hp.next_alloc] at h6; omega
                | succ j =>
                  simp at hi hj
                  have := ih.inj i j v (by simpa using hi) (by simpa using hj)
                  omega
            · intro i o' hi ha
              cases i with
              | zero => exact ⟨_, rfl⟩
              | succ i =>
                obtain ⟨v, hv⟩ := ih.all i o' (by rw [show off + 1 + i = off + (i + 1) by omega]; exact hi) ha
                exact ⟨v, by simpa using hv⟩
          · simp at hp
        · simp at hp
      · simp at hp
    · rename_i hop
      split at hp
      · rename_i l h' hl
        simp at hp
        obtain ⟨rfl, rfl⟩ := hp
        have ih := preAlloc_spec rest (off + 1) _ _ _ hrest hl hf
        refine ⟨ih.next, ih.old, ih.gs, ?_, ?_, ?_⟩
        · intro i v hv
          cases i with
          | zero => simp at hv
          | succ i =>
            simp at hv
            obtain ⟨o', ty', z', id, h1, h2⟩ := ih.is i v (by simpa using hv)
            exact ⟨o', ty', z', id, by rw [show off + (i + 1) = off + 1 + i by omega]; exact h1, h2⟩
        · intro i j v hi hj
          cases i with
          | zero => simp at hi
          | succ i =>
            cases j with
            | zero => simp at hj
            | succ j =>
              simp at hi hj
              have := ih.inj i j v (by simpa using hi) (by simpa using hj)
              omega
        · intro i o' hi ha
          cases i with
          | zero =>
            rw [Nat.add_zero, ho] at hi; cases hi
            exfalso
            cases hh : o.op <;> simp [hh, isAlloc] at ha
            exact hop _ hh
          | succ i =>
            obtain ⟨v, hv⟩ := ih.all i o' (by rw [show off + 1 + i = off + (i + 1) by omega]; exact hi) ha
            exact ⟨v, by simpa using hv⟩
      · simp at hp

theorem HR.preAlloc {base : Nat} {σ : Sg} {w : World} : ∀ (ops : List Oper) {h h' : Hp} {pre : List (Option Value)}, HR base σ h w → preAlloc P ops h = some (pre, h') → HR base σ h' w
  | [], h, h', pre, hr, hp => by simp [Cn.preAlloc] at hp; obtain ⟨rfl, rfl⟩ := hp; exact hr
  | o :: rest, h, h', pre, hr, hp => by
    simp only [Cn.preAlloc] at hp
    split at hp
    · split at hp
      · split at hp
        · split at hp
          · rename_i hl; simp at hp; obtain ⟨rfl, rfl⟩ := hp; exact HR.preAlloc rest (hr.ghost _ _) hl
          · simp at hp
        · simp at hp
      · simp at hp
    · split at hp
      · rename_i hl; simp at hp; obtain ⟨rfl, rfl⟩ := hp; exact HR.preAlloc rest hr hl
      · simp at hp
end
end Go.Cn
