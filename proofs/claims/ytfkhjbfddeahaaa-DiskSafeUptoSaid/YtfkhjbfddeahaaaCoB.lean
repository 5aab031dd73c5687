/- Reasoning over canonical heaps: blocks and groups, what a run keeps, slices, append. -/
import Derived.Test.YtfkhjbfddeahaaaCoA
set_option linter.unusedVariables false
set_option linter.unusedSimpArgs false
namespace Go.Cn

/-! ### 1. Well-formed heaps; contracts -/
structure Wf (h : Hp) : Prop where
  fresh : ∀ b, h.next ≤ b → h.ob b = none ∧ h.gs.get b = none
  grp : ∀ b cs t g, h.ob b = some (.cells cs t (some g)) → g < h.next
  stack : ∀ g l, h.gs.get g = some l → ∀ b ∈ l, ∃ cs t, h.ob b = some (.cells cs t (some g))

theorem HR.wf {base : Nat} {σ : Sg} {h : Hp} {w : World} (hr : HR base σ h w) : Wf h := ⟨hr.fresh, hr.grp, hr.stack⟩

theorem Wf.lt {h : Hp} (wf : Wf h) {b : Nat} {o : Ob} (hb : h.ob b = some o) : b < h.next := by
  apply Nat.lt_of_not_le
  intro hn
  rw [(wf.fresh b hn).1] at hb
  simp at hb

section
variable {P : Program}
theorem SCalls.wf {f : FuncId} {args : List Value} {h : Hp} {K K' : Value → Hp → Prop} (hc : SCalls P f args h K) (hk : ∀ v h', Wf h' → h.next ≤ h'.next → K v h' → K' v h') : SCalls P f args h K' :=
  ⟨hc.1, fun base σ w rargs hr hl => (hc.2 base σ w rargs hr hl).mono fun _ _ ⟨v, v', h', σ', h1, h2, h3, h4, h5⟩ => ⟨v, v', h', σ', h1, hk _ _ h4.wf h5.next h2, h3, h4, h5⟩⟩

theorem SCalls.of_wf {f : FuncId} {args : List Value} {h : Hp} {K : Value → Hp → Prop} (hx : ∃ fn, P.funcs[f]? = some fn ∧ fn.body.isSome = true ∧ mayCall fn = true) (hc : Wf h → SCalls P f args h K) : SCalls P f args h K :=
  ⟨hx, fun base σ w rargs hr hl => (hc hr.wf).2 base σ w rargs hr hl⟩

/-- A function's contract from the conditions of its symbolic run. -/
theorem SCalls_of_vw (hm : P.follows .mixedOrders = true) {pf : FuncId → Bool} {f : FuncId} {fn : Func} {c : Code} {shp : Nat → List (Tmp × TypeId)} {args : List Value} {h : Hp} {K : Value → Hp → Prop}
    (hf : P.funcs[f]? = some fn) (hb : fn.body = some c) (hc : mayCall fn = true) (hx : Wf h → vBody P (SCalls P) pf shp fn c args h K) : SCalls P f args h K :=
  SCalls.of_wf ⟨fn, hf, by rw [hb]; rfl, hc⟩ fun wf => SCalls_of_v hm hf hb hc (hx wf)
end

/-! ### 2. Blocks -/
/-- Block b, of group g (none: not to be written), is alive and has these cells. -/
def Blk (h : Hp) (b : Nat) (g : Option Nat) (cs : List Value) : Prop := ∃ t, h.ob b = some (.cells cs t g) ∧ h.live b g = true

theorem Blk.lt {h : Hp} (wf : Wf h) {b : Nat} {g : Option Nat} {cs : List Value} (hb : Blk h b g cs) : b < h.next := by
  obtain ⟨t, h1, _⟩ := hb; exact wf.lt h1

theorem Blk.glt {h : Hp} (wf : Wf h) {b g : Nat} {cs : List Value} (hb : Blk h b (some g) cs) : g < h.next := by
  obtain ⟨t, h1, _⟩ := hb; exact wf.grp _ _ _ _ h1

theorem Blk.cells {h : Hp} {b : Nat} {g : Option Nat} {cs : List Value} (hb : Blk h b g cs) {o n : Nat} (ho : o + n ≤ cs.length) : h.cellsAt b o n = some ((cs.drop o).take n) := by
  obtain ⟨t, h1, h2⟩ := hb
  simp [Hp.cellsAt, h1, h2, ho]

/-- What a run keeps: all blocks whose groups are not in S. -/
structure Keep (S : Nat → Prop) (h h' : Hp) : Prop where
  next : h.next ≤ h'.next
  ro : ∀ b cs t, h.ob b = some (.cells cs t none) → h'.ob b = some (.cells cs t none)
  rw : ∀ b cs t g, h.ob b = some (.cells cs t (some g)) → ¬ S g → h'.ob b = some (.cells cs t (some g)) ∧ h'.gs.get g = h.gs.get g

abbrev Kept (h h' : Hp) : Prop := Keep (fun _ => False) h h'

theorem Keep.refl (S : Nat → Prop) (h : Hp) : Keep S h h := ⟨Nat.le_refl _, fun _ _ _ h => h, fun _ _ _ _ h _ => ⟨h, rfl⟩⟩

theorem Keep.trans {S S' : Nat → Prop} {h h1 h2 : Hp} (wf : Wf h) (a : Keep S h h1) (b : Keep S' h1 h2) (hs : ∀ g, g < h.next → S' g → S g) : Keep S h h2 := by
  refine ⟨Nat.le_trans a.next b.next, fun x cs t hx => b.ro _ _ _ (a.ro _ _ _ hx), fun x cs t g hx hn => ?_⟩
  obtain ⟨h3, h4⟩ := a.rw _ _ _ _ hx hn
  obtain ⟨h5, h6⟩ := b.rw _ _ _ _ h3 (fun hg => hn (hs g (wf.grp _ _ _ _ hx) hg))
  exact ⟨h5, h6.trans h4⟩

theorem Keep.mono {S S' : Nat → Prop} {h h' : Hp} (wf : Wf h) (a : Keep S h h') (hs : ∀ g, g < h.next → S g → S' g) : Keep S' h h' :=
  ⟨a.next, a.ro, fun x cs t g hx hn => a.rw _ _ _ _ hx fun hg => hn (hs g (wf.grp _ _ _ _ hx) hg)⟩

theorem Keep.blk {S : Nat → Prop} {h h' : Hp} (k : Keep S h h') {b : Nat} {g : Option Nat} {cs : List Value} (hb : Blk h b g cs) (hn : ∀ x, g = some x → ¬ S x) : Blk h' b g cs := by
  obtain ⟨t, h1, h2⟩ := hb
  cases g with
  | none => exact ⟨t, k.ro _ _ _ h1, rfl⟩
  | some x =>
    obtain ⟨h3, h4⟩ := k.rw _ _ _ _ h1 (hn x rfl)
    refine ⟨t, h3, ?_⟩
    simpa [Hp.live, h4] using h2

theorem Kept.blk {h h' : Hp} (k : Kept h h') {b : Nat} {g : Option Nat} {cs : List Value} (hb : Blk h b g cs) : Blk h' b g cs := Keep.blk k hb fun _ _ hf => hf

/-! ### 3. A new block -/
section
variable {h : Hp} (wf : Wf h) (cs : List Value) (e : TypeId)
include wf
theorem alloc_blk : Blk (h.alloc cs e) h.next (some h.next) cs := by
  refine ⟨e, by rw [Hp.ob_alloc]; simp, ?_⟩
  have : (h.alloc cs e).gs.get h.next = none := (wf.fresh _ (Nat.le_refl _)).2
  simp [Hp.live, this]

theorem alloc_keep : Kept h (h.alloc cs e) := by
  refine ⟨Nat.le_succ _, fun b c t hb => ?_, fun b c t g hb _ => ⟨?_, rfl⟩⟩
  · rw [Hp.ob_alloc, if_neg (by have := wf.lt hb; omega)]; exact hb
  · rw [Hp.ob_alloc, if_neg (by have := wf.lt hb; omega)]; exact hb

theorem alloc_wf : Wf (h.alloc cs e) := by
  refine ⟨fun b hb => ?_, fun b c t g hb => ?_, fun g l hg b hb => ?_⟩
  · have hb' : h.next + 1 ≤ b := hb
    exact ⟨by rw [Hp.ob_alloc, if_neg (by omega)]; exact (wf.fresh b (by omega)).1, (wf.fresh b (by omega)).2⟩
  · rw [Hp.ob_alloc] at hb
    show g < h.next + 1
    split at hb
    · simp at hb; omega
    · have := wf.grp _ _ _ _ hb; omega
  · obtain ⟨c, t, h1⟩ := wf.stack g l hg b hb
    exact ⟨c, t, by rw [Hp.ob_alloc, if_neg (by have := wf.lt h1; omega)]; exact h1⟩
end

theorem alloc_next (h : Hp) (cs : List Value) (e : TypeId) : (h.alloc cs e).next = h.next + 1 := rfl

/-! ### 4. A store -/
theorem Blk.store {h : Hp} {b g o : Nat} {cs vs : List Value} (hb : Blk h b (some g) cs) (ho : o + vs.length ≤ cs.length) (hv : vs.all isCell = true) :
    ∃ h', h.store b o vs = some h' ∧ Blk h' b (some g) (splice cs o vs) ∧ Keep (· = g) h h' ∧ h'.next = h.next ∧ (Wf h → Wf h') := by
  obtain ⟨t, h1, h2⟩ := hb
  refine ⟨(h.only b g).setOb b (.cells (splice cs o vs) t (some g)), by simp [Hp.store, h1, h2, ho, hv], ?_, ?_, ?_, ?_⟩
  · refine ⟨t, by rw [Hp.ob_setOb]; simp, ?_⟩
    have hg := Hp.gs_only h b g g
    simp only [if_true] at hg
    simp only [Hp.live, Hp.gs_setOb, hg]
    simp only [Hp.live] at h2
    cases hx : h.gs.get g with
    | none => simp [hx] at h2 ⊢; exact h2
    | some l => simp
  · refine ⟨by rw [Hp.next_setOb, Hp.next_only]; exact Nat.le_refl _, fun x c u hx => ?_, fun x c u k hx hn => ?_⟩
    · rw [Hp.ob_setOb, Hp.ob_only]
      split
      · rename_i e; subst e; rw [h1] at hx; simp at hx
      · exact hx
    · rw [Hp.ob_setOb, Hp.ob_only, Hp.gs_setOb, Hp.gs_only, if_neg hn]
      split
      · rename_i e; subst e; rw [h1] at hx; simp at hx; exact absurd hx.2.2.symm hn
      · exact ⟨hx, rfl⟩
  · rw [Hp.next_setOb, Hp.next_only]
  · intro wf
    refine ⟨fun x hx => ?_, fun x c u k hx => ?_, fun k l hk x hx => ?_⟩
    · rw [Hp.next_setOb, Hp.next_only] at hx
      have hne : x ≠ b := by have := wf.lt h1; omega
      have hng : x ≠ g := by have := wf.grp _ _ _ _ h1; omega
      rw [Hp.ob_setOb, Hp.ob_only, if_neg hne, Hp.gs_setOb, Hp.gs_only, if_neg hng]
      exact wf.fresh x hx
    · rw [Hp.next_setOb, Hp.next_only]
      rw [Hp.ob_setOb, Hp.ob_only] at hx
      split at hx
      · simp at hx; rw [← hx.2.2]; exact wf.grp _ _ _ _ h1
      · exact wf.grp _ _ _ _ hx
    · rw [Hp.gs_setOb, Hp.gs_only] at hk
      simp only [Hp.ob_setOb, Hp.ob_only]
      by_cases hxb : x = b
      · subst hxb
        simp only [if_true]
        split at hk
        · rename_i e; subst e; exact ⟨_, _, rfl⟩
        · rename_i hne
          obtain ⟨c, u, h3⟩ := wf.stack k l hk _ hx
          rw [h1] at h3; simp at h3; exact absurd h3.2.2.symm hne
      · simp only [hxb, if_false]
        split at hk
        · rename_i e; subst e
          cases hy : h.gs.get k with
          | none => simp [hy] at hk
          | some l' => simp [hy] at hk; subst hk; simp at hx; exact absurd hx hxb
        · exact wf.stack k l hk x hx

/-! ### 5. append's new block -/
theorem Hp.below_mem {h : Hp} {b g x : Nat} (hx : x ∈ h.below b g) : x = b ∨ ∃ l, h.gs.get g = some l ∧ x ∈ l := by
  unfold Hp.below at hx
  cases hg : h.gs.get g with
  | none => simp [hg] at hx; exact .inl hx
  | some l => simp [hg] at hx; exact .inr ⟨l, rfl, (List.dropWhile_suffix _).subset hx⟩

theorem Hp.below_self {h : Hp} {b g : Nat} (hl : h.live b (some g) = true) : b ∈ h.below b g := by
  unfold Hp.below
  simp only [Hp.live] at hl
  cases hg : h.gs.get g with
  | none => simp
  | some l =>
    simp [hg] at hl ⊢
    obtain ⟨r, hr⟩ := dropWhile_head b l hl
    rw [hr]; simp

theorem Blk.extend {h : Hp} (wf : Wf h) {b g o e : Nat} {cs new : List Value} (hb : Blk h b (some g) cs) (ho : o ≤ e) (he : e ≤ cs.length) (hv : new.all isCell = true) :
    ∃ h', h.extend b o e new = some h' ∧ Blk h' h.next (some g) ((cs.drop o).take (e - o) ++ new) ∧ Blk h' b (some g) (cs.take e) ∧ Keep (· = g) h h' ∧ h'.next = h.next + 1 ∧ Wf h' := by
  have hlt := hb.lt wf
  have hglt := hb.glt wf
  obtain ⟨t, h1, h2⟩ := hb
  have hx : ∃ h', h.extend b o e new = some h' := by simp [Hp.extend, h1, h2, ho, he, hv]
  obtain ⟨h', hx⟩ := hx
  obtain ⟨cs0, t0, g0, rest, hE⟩ := Hp.extend_spec hx (by omega)
  have e1 := hE.old
  rw [h1] at e1
  simp at e1
  obtain ⟨rfl, rfl, rfl⟩ := e1
  have hbr : b ∈ rest := by
    rcases hE.rest with ⟨_, e2⟩ | e2
    · rw [e2]; exact Hp.below_self h2
    · rw [e2]; simp
  have hrm : ∀ x ∈ rest, x = b ∨ ∃ l, h.gs.get g = some l ∧ x ∈ l := by
    intro x hxr
    rcases hE.rest with ⟨_, e2⟩ | e2
    · rw [e2] at hxr; exact Hp.below_mem hxr
    · rw [e2] at hxr; simp at hxr; exact .inl hxr
  refine ⟨h', hx, ⟨t, by rw [hE.ob]; simp, ?_⟩, ⟨t, ?_, ?_⟩, ⟨by rw [hE.next]; omega, ?_, ?_⟩, hE.next, ⟨?_, ?_, ?_⟩⟩
  · simp [Hp.live, hE.gs]
  · rw [hE.ob, if_neg (by omega), if_pos rfl]
  · simp [Hp.live, hE.gs, hbr]
  · intro x c u hxo
    rw [hE.ob, if_neg (by have := wf.lt hxo; omega), if_neg]
    · exact hxo
    · intro e; subst e; rw [h1] at hxo; simp at hxo
  · intro x c u k hxo hn
    rw [hE.ob, if_neg (by have := wf.lt hxo; omega), if_neg, hE.gs, if_neg hn]
    · exact ⟨hxo, rfl⟩
    · intro e; subst e; rw [h1] at hxo; simp at hxo; exact hn hxo.2.2.symm
  · intro x hxn
    rw [hE.next] at hxn
    rw [hE.ob, if_neg (by omega), if_neg (by omega), hE.gs, if_neg (by omega)]
    exact wf.fresh x (by omega)
  · intro x c u k hxo
    rw [hE.next]
    rw [hE.ob] at hxo
    split at hxo
    · simp at hxo; omega
    · split at hxo
      · simp at hxo; omega
      · have := wf.grp _ _ _ _ hxo; omega
  · intro k l hk x hxl
    rw [hE.gs] at hk
    rw [hE.ob]
    by_cases hxn : x = h.next
    · subst hxn
      simp only [if_true]
      split at hk
      · rename_i e2; subst e2; exact ⟨_, _, rfl⟩
      · obtain ⟨c, u, h3⟩ := wf.stack k l hk _ hxl
        have := wf.lt h3; omega
    · simp only [hxn, if_false]
      split at hk
      · rename_i e2; subst e2
        simp at hk; subst hk
        simp [hxn] at hxl
        by_cases hxb : x = b
        · subst hxb; simp
        · simp only [hxb, if_false]
          rcases hrm x hxl with e3 | ⟨l', h3, h4⟩
          · exact absurd e3 hxb
          · exact wf.stack _ _ h3 x h4
      · rename_i hne
        obtain ⟨c, u, h3⟩ := wf.stack k l hk x hxl
        by_cases hxb : x = b
        · subst hxb; rw [h1] at h3; simp at h3; exact absurd h3.2.2.symm hne
        · simp only [hxb, if_false]; exact ⟨c, u, h3⟩
end Go.Cn
