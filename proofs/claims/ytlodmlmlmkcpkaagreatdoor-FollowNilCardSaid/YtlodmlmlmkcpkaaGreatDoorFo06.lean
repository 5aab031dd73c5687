/- Joined: CnR, CnRg. -/
import Derived.Test.YtlodmlmlmkcpkaaGreatDoorFo05
import Derived.LoopN
/- The canonical semantics: THE LAW: what the canonical run comes to, the model's run comes to. -/
set_option linter.unusedVariables false
set_option linter.unusedSimpArgs false
namespace Go.Cn
section
variable {P : Program}

/-! ### 1. Slots that are not written -/
/-- Two states agree outside some slots. -/
def Same (ws : List Tmp) (tm tm' : List Value) : Prop := tm'.length = tm.length ∧ ∀ t, t ∉ ws → tm'.getD t undef = tm.getD t undef

theorem Same.refl (ws : List Tmp) (tm : List Value) : Same ws tm tm := ⟨rfl, fun _ _ => rfl⟩
theorem Same.trans {ws : List Tmp} {a b c : List Value} (h : Same ws a b) (k : Same ws b c) : Same ws a c := ⟨k.1.trans h.1, fun t ht => (k.2 t ht).trans (h.2 t ht)⟩
theorem Same.mono {ws ws' : List Tmp} {a b : List Value} (h : Same ws a b) (hs : ∀ t ∈ ws, t ∈ ws') : Same ws' a b := ⟨h.1, fun t ht => h.2 t fun hh => ht (hs t hh)⟩
theorem Same.put {ws : List Tmp} {tm : List Value} {d : Option Tmp} {v : Value} (h : ∀ t, d = some t → t ∈ ws) : Same ws tm (put tm d v) :=
  ⟨put_length tm d v, fun t ht => by rw [put_get, if_neg (fun hh => ht (h t hh.1))]⟩

theorem stepX_mono {ops : List Oper} {o : Oper} {tm : List Value} {h : Hp} {k k' : Value → Hp → Prop} (hs : stepX P alP (SCalls P) ops o tm h k) (hk : ∀ v h, k v h → k' v h) : stepX P alP (SCalls P) ops o tm h k' := by
  unfold stepX at hs ⊢
  have ho : ∀ {α : Type} {x : Option α} {f g : α → Prop}, opt alP.bot x f → (∀ a, f a → g a) → opt alP.bot x g := by
    intro α x f g hx hfg
    cases x with
    | none => exact hx
    | some a => exact hfg a hx
  split at hs
  · exact hs
  · split at hs
    · exact ho hs fun v => hk v _
    · exact ho hs fun v => hk v _
    · exact ho hs fun r => hk _ _
    · rename_i w _ _ _
      cases w with
      | true => simp only [if_true] at hs ⊢; exact ho hs fun fa hc => hc.mono hk
      | false => simp only [Bool.false_eq_true, if_false] at hs ⊢; exact hk _ _ hs
    · rename_i w _ _ _
      cases w with
      | true =>
        simp only [if_true] at hs ⊢
        refine ho hs fun l hc => ?_
        intro r hr
        obtain ⟨x, hx, rfl⟩ := List.mem_map.1 hr
        exact hk _ _ (hc _ (List.mem_map.2 ⟨x, hx, rfl⟩))
      | false => simp only [Bool.false_eq_true, if_false] at hs ⊢; exact hk _ _ hs
    · exact ho hs fun r => hk _ _

theorem xOps_same {ops : List Oper} {ws : List Tmp} : ∀ {rest : List Oper} {tm : List Value} {h : Hp} {K : List Value → Hp → Prop}, (∀ o ∈ rest, ∀ t, o.dst = some t → t ∈ ws) → xOps P alP (SCalls P) ops rest tm h K →
    xOps P alP (SCalls P) ops rest tm h fun tm' h' => K tm' h' ∧ Same ws tm tm'
  | [], tm, h, K, _, hx => ⟨hx, Same.refl _ _⟩
  | o :: rest, tm, h, K, hw, hx => by
    simp only [xOps] at hx ⊢
    refine stepX_mono hx fun v h' hk => ?_
    have := xOps_same (ws := ws) (fun o' ho' => hw o' (by simp [ho'])) hk
    have mono : ∀ {rest : List Oper} {tm : List Value} {h : Hp} {K K' : List Value → Hp → Prop}, (∀ tm h, K tm h → K' tm h) → xOps P alP (SCalls P) ops rest tm h K → xOps P alP (SCalls P) ops rest tm h K' := by
      intro rest
      induction rest with
      | nil => intro tm h K K' hk hx; exact hk _ _ hx
      | cons o rest ih => intro tm h K K' hk hx; simp only [xOps] at hx ⊢; exact stepX_mono hx fun v h' => ih hk
    exact mono (fun tm' h' ⟨h1, h2⟩ => ⟨h1, (Same.put (fun t ht => hw o (by simp) t ht)).trans h2⟩) this

/-! ### 2. Regions that draw -/
theorem xDraw_mono {L : List Oper} {fs : List Inf} {pre : List (Option Value)} : ∀ {rest : List Nat} {tm : List Value} {owed : List Owed} {h : Hp} {K K' : List Value → Hp → Prop}, (∀ tm h, K tm h → K' tm h) →
    xDraw P alP (SCalls P) L fs pre rest tm owed h K → xDraw P alP (SCalls P) L fs pre rest tm owed h K'
  | [], tm, owed, h, K, K', hk, hx => hk _ _ hx
  | i :: rest, tm, owed, h, K, K', hk, hx => by
    have ho : ∀ {α : Type} {x : Option α} {f g : α → Prop}, opt alP.bot x f → (∀ a, f a → g a) → opt alP.bot x g := by
      intro α x f g hx hfg
      cases x with
      | none => exact hx
      | some a => exact hfg a hx
    have hp : ∀ {am : Nat} {h : Hp} {owed : List Owed} {r r' : Prop}, payAll P alP am h owed r → (r → r') → payAll P alP am h owed r' := by
      intro am h owed r r' hpp hrr
      induction owed with
      | nil => exact hrr hpp
      | cons d owed ih =>
        unfold payAll at hpp ⊢
        simp only [List.foldr_cons] at hpp ⊢
        split
        · rename_i hb; rw [if_pos hb] at hpp; exact ih hpp
        · rename_i hb; rw [if_neg hb] at hpp; exact ⟨hpp.1, ih hpp.2⟩
    have ih := fun {tm} {owed} {h} => xDraw_mono (L := L) (fs := fs) (pre := pre) (rest := rest) (tm := tm) (owed := owed) (h := h) hk
    simp only [xDraw] at hx ⊢
    split at hx
    · rename_i o f e1 e2
      split at hx
      · exact hx
      · split at hx
        · exact ih hx
        · split at hx
          · exact ho hx fun v => ih
          · exact ho hx fun v => ih
          · exact ho hx fun r hr => hp hr ih
          · split at hx
            · rename_i hw; try rw [if_pos hw]
              exact ho hx fun fa hc => hc.mono fun v h' hr => hp hr ih
            · rename_i hw; try rw [if_neg hw]
              exact hp hx ih
          · split at hx
            · rename_i hw; try rw [if_pos hw]
              refine ho hx fun l hl r hr => ?_
              obtain ⟨x, hx, rfl⟩ := List.mem_map.1 hr
              exact hp (hl _ (List.mem_map.2 ⟨x, hx, rfl⟩)) ih
            · rename_i hw; try rw [if_neg hw]
              exact hp hx ih
          · exact ho hx fun r => ih
    · exact hx

theorem xDraw_same {L : List Oper} {fs : List Inf} {pre : List (Option Value)} {ws : List Tmp} (hw : ∀ o ∈ L, ∀ t, o.dst = some t → t ∈ ws) : ∀ {rest : List Nat} {tm : List Value} {owed : List Owed} {h : Hp} {K : List Value → Hp → Prop},
    xDraw P alP (SCalls P) L fs pre rest tm owed h K → xDraw P alP (SCalls P) L fs pre rest tm owed h fun tm' h' => K tm' h' ∧ Same ws tm tm'
  | [], tm, owed, h, K, hx => ⟨hx, Same.refl _ _⟩
  | i :: rest, tm, owed, h, K, hx => by
    have ho : ∀ {α : Type} {x : Option α} {f g : α → Prop}, opt alP.bot x f → (∀ a, f a → g a) → opt alP.bot x g := by
      intro α x f g hx hfg
      cases x with
      | none => exact hx
      | some a => exact hfg a hx
    have hp : ∀ {am : Nat} {h : Hp} {owed : List Owed} {r r' : Prop}, payAll P alP am h owed r → (r → r') → payAll P alP am h owed r' := by
      intro am h owed r r' hpp hrr
      induction owed with
      | nil => exact hrr hpp
      | cons d owed ih =>
        unfold payAll at hpp ⊢
        simp only [List.foldr_cons] at hpp ⊢
        split
        · rename_i hb; rw [if_pos hb] at hpp; exact ih hpp
        · rename_i hb; rw [if_neg hb] at hpp; exact ⟨hpp.1, ih hpp.2⟩
    simp only [xDraw] at hx ⊢
    split at hx
    · rename_i o f e1 e2
      have hwo : ∀ t, o.dst = some t → t ∈ ws := hw o (List.mem_of_getElem? e1)
      have ih : ∀ {v : Value} {owed : List Owed} {h : Hp}, xDraw P alP (SCalls P) L fs pre rest (put tm o.dst v) owed h K → xDraw P alP (SCalls P) L fs pre rest (put tm o.dst v) owed h fun tm' h' => K tm' h' ∧ Same ws tm tm' := by
        intro v owed h hxx
        exact xDraw_mono (fun tm' h' ⟨h1, h2⟩ => ⟨h1, (Same.put hwo).trans h2⟩) (xDraw_same hw hxx)
      split at hx
      · exact hx
      · split at hx
        · exact ih hx
        · split at hx
          · exact ho hx fun v => ih
          · exact ho hx fun v => ih
          · exact ho hx fun r hr => hp hr ih
          · split at hx
            · rename_i hw; try rw [if_pos hw]
              exact ho hx fun fa hc => hc.mono fun v h' hr => hp hr ih
            · rename_i hw; try rw [if_neg hw]
              exact hp hx ih
          · split at hx
            · rename_i hw; try rw [if_pos hw]
              refine ho hx fun l hl r hr => ?_
              obtain ⟨x, hx, rfl⟩ := List.mem_map.1 hr
              exact hp (hl _ (List.mem_map.2 ⟨x, hx, rfl⟩)) ih
            · rename_i hw; try rw [if_neg hw]
              exact hp hx ih
          · exact ho hx fun r => ih
    · exact hx

theorem xRegion_sound (hm : P.follows .mixedOrders = true) {id : Nat} {ops : Array Oper} {base : Nat} {σ : Sg} {h : Hp} {w : World} {tm : List Value} {a : Act} {K : List Value → Hp → Prop} {Q : Exit → Act → World → Prop}
    (hr : HR base σ h w) (ht : TRel σ tm a.tmps) (hx : xRegion P alP (SCalls P) ops.toList tm h K)
    (hQ : ∀ σ' tm' h' a' w', Ext base σ h w σ' h' w' → HR base σ' h' w' → TRel σ' tm' a'.tmps → a'.defers = a.defers → K tm' h' → Q .normal a' w') (ro : Option Nat) : (Code.region id ops true).wpIn (freeF ro) 0 P Q a w := by
  unfold xRegion at hx
  split at hx
  · rename_i hord
    cases hp : preAlloc P ops.toList h with
    | none => simp [hp, opt, alP] at hx
    | some r =>
      obtain ⟨pre, h'⟩ := r
      simp only [hp, opt] at hx
      refine wpIn_region_any hm ?_
      have hpo := preAlloc_spec (P := P) (ops := ops.toList) ops.toList 0 h h' pre (by simp) hp (fun b hb => (hr.fresh b hb).1)
      have hr1 : HR base σ h' { w with drawn := w.drawn + 1 } := (hr.preAlloc (P := P) _ hp).drawn rfl
      have hext : Ext base σ h w σ h' { w with drawn := w.drawn + 1 } := by
        refine ⟨Sg.le_refl σ, rfl, rfl, rfl, Nat.le_refl _, fun _ _ => rfl, fun _ _ _ => rfl, fun b e h1 h2 => by rw [h1] at h2; simp at h2, hpo.next, fun b hb hs => ⟨hpo.old b hb, by rw [hpo.gs], hs⟩⟩
      have hnone : ∀ i, (Array.replicate ops.size false).getD i false = false := by
        intro i
        rw [Array.getD_eq_getD_getElem?, Array.getElem?_replicate]
        split <;> rfl
      have d : DI P ops.toList pre base σ h w tm K (fun i => (Array.replicate ops.size false).getD i false) σ h' { w with drawn := w.drawn + 1 } a.tmps [] (greedy (infos P ops.toList) ops.toList.length (List.range ops.toList.length) 0) 0 0 [] [] := by
        refine ⟨?_, hr1, hext, ⟨hord, by simp, by simp⟩, trivial, by simp, fun i _ => hnone i, trivial, by intro g hg; simp at hg, ⟨by simp, by simp, by simp, fun i v hv => by obtain ⟨_, _, _, id, _, _, _, _, h5, _, h7, _⟩ := hpo.is i v hv; exact ⟨id, h5, h7⟩, by simp⟩, ?_, hpo.inj, ?_, ht.1, fun t => ht.2 t, hx⟩
        · intro i o ho hi
          have hi' := hnone i
          simp only at hi
          rw [hi'] at hi; simp at hi
        · intro i v hv _
          obtain ⟨o, ty, z, id, h1, h2, h3, h4, h5, h6, h7, h8⟩ := hpo.is i v hv
          refine ⟨o, ty, z, id, by simpa using h1, h2, h3, h4, h5, h6, h7, hr.none_next h6, h8, ?_⟩
          rw [hpo.gs]; exact (hr.fresh id h6).2
        · intro i o ho ha
          exact hpo.all i o (by simpa using ho) ha
      obtain ⟨hist', rest', dM, ef, ow, gh, h2, d', hst⟩ := d.advance
      refine draw_any (d0 := a.defers) hQ ro ops.size _ a _ σ h2 hist' rest' dM ef ow gh (by simp) ?_ d' hst rfl
      unfold left
      rw [List.filter_eq_self.2 (fun i _ => by simp only [hnone i]; rfl)]
      simp
  · exact hx.elim

theorem xRegion_same {L : List Oper} {ws : List Tmp} (hw : ∀ o ∈ L, ∀ t, o.dst = some t → t ∈ ws) {tm : List Value} {h : Hp} {K : List Value → Hp → Prop} (hx : xRegion P alP (SCalls P) L tm h K) :
    xRegion P alP (SCalls P) L tm h fun tm' h' => K tm' h' ∧ Same ws tm tm' := by
  unfold xRegion at hx ⊢
  split
  · rename_i hord
    rw [if_pos hord] at hx
    cases hp : preAlloc P L h with
    | none => simp [hp, opt, alP] at hx
    | some r =>
      simp only [hp, opt] at hx ⊢
      exact xDraw_same hw hx
  · rename_i hord; rw [if_neg hord] at hx; exact hx

/-! ### 3. Loops -/
theorem TRel.set {σ : Sg} {tm : List Value} {tmps : Array Value} (h : TRel σ tm tmps) {t : Tmp} {v : Value} (hv : VRel σ v (tmps.getD t undef)) : TRel σ (tm.set t v) tmps := by
  refine ⟨by simpa using h.1, fun i => ?_⟩
  have := put_get tm (some t) v i
  simp only [Cn.put] at this
  rw [this]
  split
  · rename_i hh; have e := hh.1; simp at e; subst e; exact hv
  · exact h.2 i

theorem forget_rel {σ : Sg} {tmps : Array Value} {kp : List Tmp} : ∀ (ws : List Tmp) {tm : List Value}, TRel σ tm tmps → TRel σ (forget ws kp tm) tmps
  | [], tm, h => h
  | t :: ws, tm, h => by
    unfold forget
    simp only [List.foldl_cons]
    split
    · exact forget_rel ws h
    · exact forget_rel ws (h.set (.unk _))

theorem forget_length {kp : List Tmp} : ∀ (ws : List Tmp) (tm : List Value), (forget ws kp tm).length = tm.length
  | [], tm => rfl
  | t :: ws, tm => by
    unfold forget
    simp only [List.foldl_cons]
    split
    · exact forget_length ws tm
    · have := forget_length (kp := kp) ws (tm.set t unk)
      simpa [forget] using this

/-- What a forgotten state says of a slot. -/
theorem forget_get {kp : List Tmp} (t : Tmp) : ∀ (ws : List Tmp) (tm : List Value), (forget ws kp tm).getD t undef = (if t ∈ ws ∧ t ∉ kp ∧ t < tm.length then unk else tm.getD t undef)
  | [], tm => by simp [forget]
  | s :: ws, tm => by
    unfold forget
    simp only [List.foldl_cons]
    by_cases hs : kp.contains s = true
    · rw [if_pos hs]
      have ih := forget_get (kp := kp) t ws tm
      unfold forget at ih
      rw [ih]
      have hsk : s ∈ kp := by simpa using hs
      by_cases hts : t = s
      · subst hts; simp [hsk]
      · simp [hts]
    · rw [if_neg hs]
      have ih := forget_get (kp := kp) t ws (tm.set s unk)
      unfold forget at ih
      rw [ih]
      have hsk : s ∉ kp := by simpa using hs
      have hg := put_get tm (some s) unk t
      simp only [Cn.put] at hg
      rw [hg]
      by_cases hts : t = s
      · subst hts
        by_cases hl : t < tm.length
        · simp [hsk, hl]
        · simp [hl]
      · have : ¬ s = t := fun e => hts e.symm
        simp [hts, this]

theorem setKeep_rel {σ : Sg} {tmps : Array Value} : ∀ (kp : List Tmp) (vals : List Value) (i : Nat) {tm : List Value}, TRel σ tm tmps → (∀ j t, kp[j]? = some t → VRel σ (vals.getD (i + j) undef) (tmps.getD t undef)) → TRel σ (setKeep kp vals i tm) tmps
  | [], vals, i, tm, h, _ => h
  | t :: kp, vals, i, tm, h, hv => by
    unfold setKeep
    refine setKeep_rel kp vals (i + 1) (h.set ?_) fun j s hj => ?_
    · simpa using hv 0 t rfl
    · have := hv (j + 1) s (by simpa using hj)
      rw [show i + 1 + j = i + (j + 1) by omega]; exact this

theorem setKeep_same : ∀ (kp : List Tmp) (vals : List Value) (i : Nat) (tm : List Value), Same kp tm (setKeep kp vals i tm)
  | [], vals, i, tm => Same.refl _ _
  | t :: kp, vals, i, tm => by
    unfold setKeep
    have h1 : Same (t :: kp) tm (tm.set t (vals.getD i undef)) := Same.put (d := some t) (fun s hs => by simp at hs; simp [hs])
    exact h1.trans ((setKeep_same kp vals (i + 1) _).mono fun s hs => by simp [hs])

/-- What a kept slot holds. -/
theorem setKeep_get {t : Tmp} {tm' : List Value} : ∀ (l : List Tmp) (vals : List Value) (i : Nat) (tm0 : List Value), tm0.length = tm'.length → (∀ j s, l[j]? = some s → vals.getD (i + j) undef = tm'.getD s undef) → t ∈ l ∨ tm0.getD t undef = tm'.getD t undef →
    (setKeep l vals i tm0).getD t undef = tm'.getD t undef := by
  intro l
  induction l with
  | nil => intro vals i tm0 _ _ h; rcases h with h | h; simp at h; exact h
  | cons s l ih =>
    intro vals i tm0 hlen0 hv h
    unfold setKeep
    have h0 : vals.getD i undef = tm'.getD s undef := by simpa using hv 0 s rfl
    refine ih vals (i + 1) _ (by simpa using hlen0) (fun j s' hj => by
      have := hv (j + 1) s' (by simpa using hj)
      rw [show i + 1 + j = i + (j + 1) by omega]; exact this) ?_
    have hg := put_get tm0 (some s) (vals.getD i undef) t
    simp only [Cn.put] at hg
    by_cases hts : s = t
    · right
      rw [hg]
      subst hts
      by_cases hlt : s < tm0.length
      · rw [if_pos ⟨rfl, hlt⟩]; exact h0
      · rw [if_neg (fun hh => hlt hh.2), List.getD_eq_getElem?_getD, List.getElem?_eq_none (Nat.le_of_not_lt hlt), List.getD_eq_getElem?_getD, List.getElem?_eq_none (by rw [← hlen0]; exact Nat.le_of_not_lt hlt)]
    · rcases h with h | h
      · left; simp at h; rcases h with h | h; exact absurd h.symm hts; exact h
      · right; rw [hg, if_neg (fun hh => hts (by simpa using hh.1))]; exact h

theorem setKeep_kept {kp ws : List Tmp} {tm tm' : List Value} (hl : tm'.length = tm.length) {t : Tmp} (hk : t ∈ kp) :
    (setKeep kp (kp.map fun t => tm'.getD t undef) 0 (forget ws kp tm)).getD t undef = tm'.getD t undef :=
  setKeep_get kp _ 0 _ (by rw [forget_length, hl]) (fun j s hj => by rw [Nat.zero_add, List.getD_eq_getElem?_getD, List.getElem?_map, hj]; rfl) (.inl hk)

theorem head_same {ws kp : List Tmp} {tm tm' : List Value} (hs : Same ws tm tm') : Same ws tm (setKeep kp (kp.map fun t => tm'.getD t undef) 0 (forget ws kp tm)) := by
  refine ⟨by rw [(setKeep_same kp _ 0 _).1, forget_length], fun t ht => ?_⟩
  by_cases hk : t ∈ kp
  · rw [setKeep_kept hs.1 hk]; exact hs.2 t ht
  · rw [(setKeep_same kp _ 0 _).2 t hk, forget_get, if_neg (fun hh => ht hh.1)]

/-- The state at a round's head. -/
theorem head_rel {σ : Sg} {ws kp : List Tmp} {tm tm' : List Value} {tmps' : Array Value} (ht : TRel σ tm' tmps') (hs : ∀ t, t ∉ ws → t ∉ kp → tm'.getD t undef = tm.getD t undef) (hl : tm'.length = tm.length) :
    TRel σ (setKeep kp (kp.map fun t => tm'.getD t undef) 0 (forget ws kp tm)) tmps' := by
  have hlen : (setKeep kp (kp.map fun t => tm'.getD t undef) 0 (forget ws kp tm)).length = tmps'.size := by
    rw [(setKeep_same kp _ 0 _).1, forget_length, ← hl, ht.1]
  refine ⟨hlen, fun t => ?_⟩
  by_cases hk : t ∈ kp
  · rw [setKeep_kept hl hk]
    exact ht.2 t
  · rw [(setKeep_same kp _ 0 _).2 t hk, forget_get]
    split
    · exact .unk _
    · rename_i hc
      by_cases hw : t ∈ ws
      · have hge : ¬ t < tm.length := fun hlt => hc ⟨hw, hk, hlt⟩
        have := ht.2 t
        rw [List.getD_eq_getElem?_getD, List.getElem?_eq_none (by rw [hl]; exact Nat.le_of_not_lt hge)] at this
        rw [List.getD_eq_getElem?_getD, List.getElem?_eq_none (Nat.le_of_not_lt hge)]
        exact this
      · rw [← hs t hw hk]; exact ht.2 t

end
end Go.Cn

/- The canonical semantics: a world that has grown. -/
set_option linter.unusedVariables false
namespace Go.Cn
theorem Lies.grown {base : Nat} {σ : Sg} {w w' : World} {e : En} {cs : List Value} {g : Option Nat} (h : Lies base σ w e cs g) (hh : w'.heap[e.rb]? = w.heap[e.rb]?) : Lies base σ w' e cs g := by
  obtain ⟨⟨c, el, fr, h1, h2⟩, h3⟩ := h
  exact ⟨⟨c, el, fr, by rw [hh]; exact h1, h2⟩, h3⟩

theorem HR.grown {base : Nat} {σ : Sg} {h : Hp} {w w' : World} (hr : HR base σ h w) (hs : w.heap.size ≤ w'.heap.size) (hh : ∀ k, k < w.heap.size → w'.heap[k]? = w.heap[k]?) : HR base σ h w' :=
  ⟨Nat.le_trans hr.base_le hs, fun b e hb => ⟨(hr.dom b e hb).1, Nat.lt_of_lt_of_le (hr.dom b e hb).2 hs⟩, hr.fresh,
    fun b e cs t g h1 h2 h3 => (hr.cell b e cs t g h1 h2 h3).grown (hh _ (hr.dom b e h1).2), hr.grp, hr.gdom, hr.stack, hr.nest, hr.apart,
    hr.oth.step (Sg.le_refl σ) (fun b e o h1 h2 _ => ⟨h2, h1⟩) (fun k o h1 _ => by rw [hh k (Array.getElem?_eq_some_iff.1 h1).1]; exact h1) (fun b e h1 h2 => by rw [h1] at h2; simp at h2)⟩

end Go.Cn
