/- Joined: CnS. -/
import Derived.Test.YtlodmlmlmkcpkaaGreatDoorFo06
import Derived.Scope
/- The canonical semantics: THE LAW: what the canonical run comes to, the model's run comes to. -/
set_option linter.unusedVariables false
set_option linter.unusedSimpArgs false
namespace Go.Cn
section
variable {P : Program}

/-! ### Scopes that nothing jumps in -/
theorem stepR_scope {P : Program} {b : Frame} {a : Act} {k : List Item} {cs : List Frame} {w : World} {c : Code} : step P (lone (b.atR a (.code (.scope c) :: k)) cs w) = .next (lone (b.atR a (.code c :: .inScope c :: k)) cs w) :=
  step_lone_go (by simp [stepG, stepG.exec, Frame.atR])
theorem stepR_inScope {P : Program} {b : Frame} {a : Act} {k : List Item} {cs : List Frame} {w : World} {c : Code} : step P (lone (b.atR a (.inScope c :: k)) cs w) = .next (lone (b.atR a k) cs w) :=
  step_lone_go (by simp [stepG, stepG.exec, Frame.atR])

theorem wpIn_scope_straight {P : Program} {F : Fence} {n : Nat} {Q : Exit → Act → World → Prop} {a : Act} {w : World} {c : Code} (h : c.wpIn F n P (Exit.noGoto Q) a w) : (Code.scope c).wpIn F n P Q a w := by
  intro b k cs hro hb hr
  have h0 : (lone (b.atR a (.code (.scope c) :: k)) cs w).fenced P F := fenced_calm hb hr rfl
  obtain ⟨e, a₁, w₁, hq, harr⟩ := h b (.inScope c :: k) cs hro hb hr
  cases e with
  | normal => exact ⟨.normal, a₁, w₁, hq, .head h0 stepR_scope (StepsIn.trans harr (.one (fenced_calm hb hr rfl) stepR_inScope))⟩
  | exit id =>
    refine ⟨.exit id, a₁, w₁, hq, fun k' hk => .head h0 stepR_scope (harr.1 k' (by simp [exitTo, hk])), fun h1 h2 => ?_⟩
    obtain ⟨k1, hk1, hs⟩ := harr.2 h1 (by simp [exitTo, h2])
    exact ⟨k1, hk1, .head h0 stepR_scope hs⟩
  | goto l => exact hq.elim
  | ret =>
    refine ⟨.ret, a₁, w₁, hq, fun hn => ?_, fun hs => ?_⟩
    · obtain ⟨t, s⟩ := harr.1 hn; exact ⟨t, .head h0 stepR_scope s⟩
    · obtain ⟨t, s⟩ := harr.2 hs; exact ⟨t, .head h0 stepR_scope s⟩
  | panic ch =>
    obtain ⟨t, s⟩ := harr
    exact ⟨.panic ch, a₁, w₁, hq, t, .head h0 stepR_scope s⟩
  | outgrown => exact ⟨.outgrown, a₁, w₁, hq, harr.imp id (Outgrown.of_steps (.one stepR_scope))⟩

/-! ### Ranges over functions: the marks among the deferred calls -/
def mk (r : Nat) : Deferred := { target := .collected r, args := #[] }

/-- Marks alone have come to the deferred calls; their blocks are out of the canonical heap's sight. -/
def Marks (w0 : World) (σ : Sg) (w : World) (a a' : Act) : Prop :=
  ∃ ms : List Nat, a'.defers = ms.map mk ++ a.defers ∧ ms.Nodup ∧ ∀ r ∈ ms, w0.heap.size ≤ r ∧ w.heap[r]? = some (.deferred (some [])) ∧ ∀ b e, σ b = some e → e.rb ≠ r

theorem Marks.of_eq {w0 w : World} {σ : Sg} {a a' : Act} (h : a'.defers = a.defers) : Marks w0 σ w a a' := ⟨[], by simp [h], by simp, by simp⟩

theorem Marks.keep {base : Nat} {w0 w1 w2 : World} {σ1 σ2 : Sg} {h1 h2 : Hp} {a a' : Act} (m : Marks w0 σ1 w1 a a') (he : Ext base σ1 h1 w1 σ2 h2 w2) : Marks w0 σ2 w2 a a' := by
  obtain ⟨ms, h3, h4, h5⟩ := m
  refine ⟨ms, h3, h4, fun r hr => ?_⟩
  obtain ⟨q1, q2, q3⟩ := h5 r hr
  have hlt := (Array.getElem?_eq_some_iff.1 q2).1
  refine ⟨q1, by rw [he.other r hlt q3]; exact q2, fun b e hb hrb => ?_⟩
  cases hs : σ1 b with
  | some e1 => have := he.le _ _ hs; rw [this] at hb; cases hb; exact q3 _ _ hs hrb
  | none =>
    rcases he.img b e hs hb with ⟨b0, e0, k1, k2⟩ | k
    · exact q3 _ _ k1 (k2.trans hrb)
    · omega

theorem Marks.trans {base : Nat} {w0 w1 w2 : World} {σ1 σ2 : Sg} {h1 h2 : Hp} {a a1 a2 : Act} (m1 : Marks w0 σ1 w1 a a1) (m2 : Marks w1 σ2 w2 a1 a2) (hs : w0.heap.size ≤ w1.heap.size) (he : Ext base σ1 h1 w1 σ2 h2 w2) : Marks w0 σ2 w2 a a2 := by
  obtain ⟨ms2, k1, k2, k3⟩ := m2
  have hlt : ∀ ms : List Nat, (∀ r ∈ ms, w1.heap[r]? = some (Obj.deferred (some []))) → ∀ r ∈ ms, r < w1.heap.size := fun ms hh r hr => (Array.getElem?_eq_some_iff.1 (hh r hr)).1
  obtain ⟨ms1, h3, h4, h5⟩ := m1
  have m1' : Marks w0 σ2 w2 a a1 := Marks.keep ⟨ms1, h3, h4, h5⟩ he
  have hl1 := hlt ms1 fun r hr => (h5 r hr).2.1
  refine ⟨ms2 ++ ms1, by rw [k1, h3]; simp, ?_, ?_⟩
  · rw [List.nodup_append]
    refine ⟨k2, h4, fun r hr r' hr' heq => ?_⟩
    subst heq
    have := (k3 r hr).1
    have := hl1 r hr'
    omega
  · intro r hr
    rcases List.mem_append.1 hr with hr | hr
    · exact ⟨Nat.le_trans hs (k3 r hr).1, (k3 r hr).2⟩
    · obtain ⟨q1, q2, q3⟩ := h5 r hr
      have hltr := (Array.getElem?_eq_some_iff.1 q2).1
      refine ⟨q1, by rw [he.other r hltr q3]; exact q2, fun b e hb hrb => ?_⟩
      cases hs : σ1 b with
      | some e1 => have := he.le _ _ hs; rw [this] at hb; cases hb; exact q3 _ _ hs hrb
      | none =>
        rcases he.img b e hs hb with ⟨b0, e0, k1, k2⟩ | k
        · exact q3 _ _ k1 (k2.trans hrb)
        · omega

/-- Whose round it is. -/
def CxRel (cx : Cx) (σ : Sg) (ro : Option Nat) : Prop :=
  match cx.ro with
  | none => ro = none
  | some l => ∃ e, σ l = some e ∧ ro = some e.rb

theorem CxRel.mono {cx : Cx} {σ σ' : Sg} {ro : Option Nat} (h : CxRel cx σ ro) (hs : σ.le σ') : CxRel cx σ' ro := by
  unfold CxRel at h ⊢
  split at h
  · exact h
  · obtain ⟨e, h1, h2⟩ := h; exact ⟨e, hs _ _ h1, h2⟩

theorem loopAt_ob {h : Hp} {l : Nat} {r : Lp} (hl : loopAt h l = some r) : h.ob l = some (.loop r) := by
  unfold loopAt at hl
  split at hl
  · rename_i r' ho; simp at hl; subst hl; exact ho
  · simp at hl

/-- What stands behind code. -/
def AfterC (base : Nat) (σ : Sg) (h : Hp) (w : World) (ws : List Tmp) (tm : List Value) (a : Act) (K : Exit → List Value → Hp → Prop) (Q : Exit → Act → World → Prop) : Prop :=
  ∀ e σ' tm' h' a' w', Ext base σ h w σ' h' w' → HR base σ' h' w' → TRel σ' tm' a'.tmps → Marks w σ' w' a a' → Same ws tm tm' → K e tm' h' → Q e a' w'

theorem range_sound {cx : Cx} {ro : Option Nat} {g : Operand} {ps : Array Tmp} {asg body : Code} {K : Exit → List Value → Hp → Prop} {base : Nat} {σ : Sg} {h : Hp} {w : World} {tm : List Value} {a : Act} {Q : Exit → Act → World → Prop} {ann : Nat → List Tmp}
    (hx : xC P alP (SCalls P) cx ann (.rangeFunc g ps asg body) K tm h) (hcx : CxRel cx σ ro) (hr : HR base σ h w) (ht : TRel σ tm a.tmps) (hQ : AfterC base σ h w (wr (.rangeFunc g ps asg body)) tm a K Q) : (Code.rangeFunc g ps asg body).wpIn (freeF ro) 0 P Q a w := by
  unfold xC at hx
  split at hx
  rotate_left; · exact hx.elim
  rename_i hok
  split at hx
  rotate_left; · exact hx.elim
  rename_i f first captured hg
  split at hx
  rotate_left; · exact hx.elim
  rename_i hflt
  have hgr := ev_rel ht g
  rw [hg] at hgr
  obtain ⟨first', captured', hge, hf1, hf2⟩ := hgr.func_inv rfl
  obtain ⟨⟨fn0, hfn, hbody, hmay⟩, hcall⟩ := hx.func hflt
  refine wpIn_rangeFunc fun fn _ => ?_
  -- the record is laid
  obtain ⟨l, mark, w0, w1, dn, hent, hw0s, hw0h, hw0o, hw1, hmark, hro0⟩ : ∃ (l : Nat) (mark : List Deferred) (w0 w1 : World) (dn : Nat),
      (Instr.enterLoop fn a.tmps ps asg body (freeF ro).round).run P w = .ok (l, mark) w1 ∧ w.heap.size ≤ w0.heap.size ∧ (∀ k, k < w.heap.size → w0.heap[k]? = w.heap[k]?) ∧ (w0.os = w.os ∧ w0.tape = w.tape ∧ w0.output = w.output) ∧
      (w1 = w0.alloc (.loop { state := .ready, pending := none, fn, tmps := a.tmps, params := ps, assign := asg, body, defers := dn }) ∧ l = w0.heap.size) ∧
      (mark = [] ∨ (mark = [mk w.heap.size] ∧ w0 = w.alloc (.deferred (some [])))) ∧ True := by
    cases hro : cx.ro with
    | none =>
      have : ro = none := by simpa [CxRel, hro] using hcx
      subst this
      refine ⟨w.heap.size + 1, [mk w.heap.size], w.alloc (.deferred (some [])), _, w.heap.size, run_enterLoop_outer fn a.tmps ps asg body, ?_, ?_, ⟨rfl, rfl, rfl⟩, ⟨rfl, by simp⟩, .inr ⟨rfl, rfl⟩, trivial⟩
      · simp
      · intro k hk
        show (w.heap.push _)[k]? = _
        rw [Array.getElem?_push, if_neg (by omega)]
    | some l0 =>
      obtain ⟨e0, he0, rfl⟩ : ∃ e, σ l0 = some e ∧ ro = some e.rb := by simpa [CxRel, hro] using hcx
      have hl0 : ∃ r0, loopAt h l0 = some r0 := by
        simp only [Cx.ok, hro] at hok
        exact Option.isSome_iff_exists.1 hok
      obtain ⟨r0, hl0⟩ := hl0
      obtain ⟨r1, hr1, _⟩ := hr.loopAt he0 (loopAt_ob hl0)
      refine ⟨w.heap.size, [], w, _, r1.defers, ?_, Nat.le_refl _, fun _ _ => rfl, ⟨rfl, rfl, rfl⟩, ⟨rfl, rfl⟩, .inl rfl, trivial⟩
      unfold Instr.enterLoop
      simp only [freeF_round, Sem.run_bind, run_getLoop hr1, run_newObj_alloc, Result.andThen, Sem.run_pure]
  obtain ⟨rfl, rfl⟩ := hw1
  have hr0 : HR base σ h w0 := hr.grown hw0s hw0h
  have hext0 : Ext base σ h w σ h w0 := ⟨Sg.le_refl σ, hw0o.1, hw0o.2.1, hw0o.2.2, hw0s, fun k hk => hw0h k (Nat.lt_of_lt_of_le hk hr.base_le), fun k hk _ => hw0h k hk,
    fun b e h1 h2 => by rw [h1] at h2; simp at h2, Nat.le_refl _, fun b _ hb => ⟨rfl, rfl, hb⟩⟩
  have hle : σ.le (σ.put h.next ⟨w0.heap.size, 0, 0⟩) := Sg.put_le (hr0.none_next (Nat.le_refl _))
  obtain ⟨g1, g2, g3⟩ := hr0.newOth (o := .loop ⟨.ready, none, cx.me, tm, ps.toList, asg, body⟩) (r := .loop { state := .ready, pending := none, fn, tmps := a.tmps, params := ps, assign := asg, body, defers := dn }) rfl
    (WNew.alloc w0 _) ⟨rfl, rfl, ht.mono hle, rfl, rfl, rfl⟩
  -- the call
  have hrargs : LRel (σ.put h.next ⟨w0.heap.size, 0, 0⟩) (first.toList ++ [Value.func (.yield h.next) #[] #[]] ++ captured.toList) (first' ++ #[Value.func (.yield w0.heap.size) #[] #[]] ++ captured').toList := by
    have l1 : LRel σ first.toList first'.toList := LRel.of_agg hf1.1 hf1.2
    have l3 : LRel σ captured.toList captured'.toList := LRel.of_agg hf2.1 hf2.2
    have l2 : LRel (σ.put h.next ⟨w0.heap.size, 0, 0⟩) [Value.func (.yield h.next) #[] #[]] [Value.func (.yield w0.heap.size) #[] #[]] := LRel.cons (.yield _ _ g3) (LRel.nil _)
    have := ((l1.mono hle).append l2).append (l3.mono hle)
    simpa using this
  have hc := hcall base _ _ _ g1 hrargs
  refine ⟨w0.heap.size, mark, w0.alloc (.loop { state := .ready, pending := none, fn, tmps := a.tmps, params := ps, assign := asg, body, defers := dn }), { target := .fn (.func f) captured', args := first' ++ #[Value.func (.yield w0.heap.size) #[] #[]] }, w0.alloc (.loop { state := .ready, pending := none, fn, tmps := a.tmps, params := ps, assign := asg, body, defers := dn }), f, first' ++ #[Value.func (.yield w0.heap.size) #[] #[]] ++ captured', w0.alloc (.loop { state := .ready, pending := none, fn, tmps := a.tmps, params := ps, assign := asg, body, defers := dn }), hent, ?_, fun _ _ => trivial, ?_, freeF_depth ro, callsIn_free (hc.mono ?_)⟩
  · have hm : (#[Operand.const (.func (.yield w0.heap.size) #[] #[])]).map a.eval = #[Value.func (.yield w0.heap.size) #[] #[]] := by simp [Act.eval]
    unfold resolve
    simp only [rangeCall, hm, hge]
    rfl
  · show (callFunc f _).run P _ = _
    exact enter_run hfn hbody hmay _ _
  · rintro e w3 ⟨v, v', h3, σ3, rfl, hk, hv, hr3, hext3⟩
    have hσ3 := hext3.le _ _ g3
    unfold leaveX at hk
    split at hk
    rotate_left; · exact hk.elim
    rename_i r hlr
    split at hk
    · exact hk.elim
    rename_i hbusy
    obtain ⟨r', q1, q2, q3, q4, q5, q6, q7, q8⟩ := hr3.loopAt hσ3 (loopAt_ob hlr)
    have hend := run_endLoop (P := P) q1 (by rw [q3]; exact hbusy)
    obtain ⟨k1, k2⟩ := hr3.setOth (o' := .loop { r with state := .exhausted }) (r' := .loop { r' with state := .exhausted }) hσ3 (loopAt_ob hlr) rfl rfl ⟨rfl, q4, q5, q6, q7, q8⟩
    have hextall : Ext base σ h w σ3 (h3.setOb h.next (.loop { r with state := .exhausted })) (w3.putObj w0.heap.size (.loop { r' with state := .exhausted })) := (hext0.trans g2).trans (hext3.trans k2)
    have htm : TRel σ3 tm ({ a with defers := mark ++ a.defers } : Act).tmps := (ht.mono hle).mono hext3.le
    have hmarks : Marks w σ3 (w3.putObj w0.heap.size (.loop { r' with state := .exhausted })) a { a with defers := mark ++ a.defers } := by
      rcases hmark with rfl | ⟨rfl, rfl⟩
      · exact Marks.of_eq rfl
      · have hsz : w.heap.size < (w.alloc (.deferred (some []))).heap.size := by simp
        have hno1 : ∀ b e, (σ.put h.next ⟨(w.alloc (.deferred (some []))).heap.size, 0, 0⟩) b = some e → e.rb ≠ w.heap.size := by
          intro b e hb
          unfold Sg.put at hb
          split at hb
          · simp at hb; subst hb; simp
          · have := (hr.dom _ _ hb).2; omega
        have m0 : Marks w (σ.put h.next ⟨(w.alloc (.deferred (some []))).heap.size, 0, 0⟩) ((w.alloc (.deferred (some []))).alloc (.loop { state := .ready, pending := none, fn, tmps := a.tmps, params := ps, assign := asg, body, defers := dn })) a { a with defers := [mk w.heap.size] ++ a.defers } := by
          refine ⟨[w.heap.size], rfl, by simp, fun r hr => ?_⟩
          simp at hr; subst hr
          refine ⟨Nat.le_refl _, ?_, hno1⟩
          show ((w.heap.push _).push _)[w.heap.size]? = _
          rw [Array.getElem?_push, if_neg (by simp), Array.getElem?_push, if_pos rfl]
        exact m0.keep (hext3.trans k2)
    obtain ⟨j, hj⟩ : ∃ j, j = r'.pending := ⟨_, rfl⟩
    refine ⟨j, _, by rw [hj]; exact hend, ?_⟩
    have hj' : j = r.pending := hj.trans q4
    clear hj
    split at hk
    · rename_i hp; rw [hp] at hj'; subst hj'
      exact hQ .normal σ3 tm _ _ _ hextall k1 htm hmarks (Same.refl _ _) hk
    · rename_i hp; rw [hp] at hj'; subst hj'
      exact wpIn_ret (hQ .ret σ3 tm _ _ _ hextall k1 htm hmarks (Same.refl _ _) hk)
    · rename_i id hp; rw [hp] at hj'; subst hj'
      exact wpIn_exit (hQ (.exit id) σ3 tm _ _ _ hextall k1 htm hmarks (Same.refl _ _) hk)
    · exact hk.elim

theorem xC_sound (hm : P.follows .mixedOrders = true) {cx : Cx} {ro : Option Nat} {ann : Nat → List Tmp} : ∀ (c : Code) {K : Exit → List Value → Hp → Prop} {base : Nat} {σ : Sg} {h : Hp} {w : World} {tm : List Value} {a : Act} {Q : Exit → Act → World → Prop},
    xC P alP (SCalls P) cx ann c K tm h → CxRel cx σ ro → HR base σ h w → TRel σ tm a.tmps → AfterC base σ h w (wr c) tm a K Q → c.wpIn (freeF ro) 0 P Q a w
  | .skip, K, base, σ, h, w, tm, a, Q, hx, hcx, hr, ht, hQ => wpIn_skip (hQ .normal σ tm h a w (Ext.refl _ _ _ _) hr ht (Marks.of_eq rfl) (Same.refl _ _) hx)
  | .exit id, K, base, σ, h, w, tm, a, Q, hx, hcx, hr, ht, hQ => wpIn_exit (hQ (.exit id) σ tm h a w (Ext.refl _ _ _ _) hr ht (Marks.of_eq rfl) (Same.refl _ _) hx)
  | .ret, K, base, σ, h, w, tm, a, Q, hx, hcx, hr, ht, hQ => wpIn_ret (hQ .ret σ tm h a w (Ext.refl _ _ _ _) hr ht (Marks.of_eq rfl) (Same.refl _ _) hx)
  | .label l, K, base, σ, h, w, tm, a, Q, hx, hcx, hr, ht, hQ => wpIn_label (hQ .normal σ tm h a w (Ext.refl _ _ _ _) hr ht (Marks.of_eq rfl) (Same.refl _ _) hx)
  | .region id ops false, K, base, σ, h, w, tm, a, Q, hx, hcx, hr, ht, hQ => by
    refine wpIn_region ?_
    rw [List.range_eq_range']
    have hx' := xOps_same (ws := wr (.region id ops false)) (fun o ho t hd => List.mem_filterMap.2 ⟨o, ho, hd⟩) hx
    have := xOps_sound (Q := Q) ro ops.toList 0 (by simp) hr ht hx' fun σ' tm' h' a' w' he hr' ht' hd hk => hQ .normal σ' tm' h' a' w' he hr' ht' (Marks.of_eq hd) hk.2 hk.1
    simpa using this
  | .region id ops true, K, base, σ, h, w, tm, a, Q, hx, hcx, hr, ht, hQ => by
    have hx' := xRegion_same (ws := wr (.region id ops true)) (fun o ho t hd => List.mem_filterMap.2 ⟨o, ho, hd⟩) hx
    exact xRegion_sound hm hr ht hx' (fun σ' tm' h' a' w' he hr' ht' hd hk => hQ .normal σ' tm' h' a' w' he hr' ht' (Marks.of_eq hd) hk.2 hk.1) ro
  | .seq x y, K, base, σ, h, w, tm, a, Q, hx, hcx, hr, ht, hQ => by
    refine wpIn_seq (xC_sound hm x hx hcx hr ht ?_)
    intro e σ' tm' h' a' w' he hr' ht' hd hsame hk
    have s1 : Same (wr (.seq x y)) tm tm' := hsame.mono fun t h => List.mem_append.2 (.inl h)
    cases e with
    | normal =>
      have hj : TRel σ' (joinT (ann (joinId y)) x tm tm') a'.tmps ∧ Same (wr x) tm (joinT (ann (joinId y)) x tm tm') := by
        unfold joinT
        split
        · exact ⟨ht', hsame⟩
        · exact ⟨head_rel ht' (fun t ht _ => hsame.2 t ht) hsame.1, head_same hsame⟩
      refine xC_sound hm y hk (hcx.mono he.le) hr' hj.1 ?_
      intro e2 σ2 tm2 h2 a2 w2 he2 hr2 ht2 hd2 hs2 hk2
      exact hQ e2 σ2 tm2 h2 a2 w2 (he.trans he2) hr2 ht2 (hd.trans hd2 he.size he2) ((hj.2.mono fun t h => List.mem_append.2 (.inl h)).trans (hs2.mono fun t h => List.mem_append.2 (.inr h))) hk2
    | exit id => exact hQ _ σ' tm' h' a' w' he hr' ht' hd s1 hk
    | goto l => exact hQ _ σ' tm' h' a' w' he hr' ht' hd s1 hk
    | ret => exact hQ _ σ' tm' h' a' w' he hr' ht' hd s1 hk
    | panic c => exact hQ _ σ' tm' h' a' w' he hr' ht' hd s1 hk
    | outgrown => exact hQ _ σ' tm' h' a' w' he hr' ht' hd s1 hk
  | .cond c x y, K, base, σ, h, w, tm, a, Q, hx, hcx, hr, ht, hQ => by
    simp only [xC] at hx
    have hc := ev_rel ht c
    split at hx
    · rename_i t he
      rw [he] at hc
      cases t with
      | true =>
        simp only [if_true] at hx
        refine wpIn_cond_true hc.bool_inv (xC_sound hm x hx hcx hr ht ?_)
        exact fun e σ' tm' h' a' w' h1 h2 h3 h4 h5 h6 => hQ e σ' tm' h' a' w' h1 h2 h3 h4 (h5.mono fun t h => List.mem_append.2 (.inl h)) h6
      | false =>
        simp only [Bool.false_eq_true, if_false] at hx
        refine wpIn_cond_false hc.bool_inv (xC_sound hm y hx hcx hr ht ?_)
        exact fun e σ' tm' h' a' w' h1 h2 h3 h4 h5 h6 => hQ e σ' tm' h' a' w' h1 h2 h3 h4 (h5.mono fun t h => List.mem_append.2 (.inr h)) h6
    · exact hx.elim
  | .block id c, K, base, σ, h, w, tm, a, Q, hx, hcx, hr, ht, hQ => by
    refine wpIn_block (xC_sound hm c hx hcx hr ht ?_)
    intro e σ' tm' h' a' w' he hr' ht' hd hs hk
    cases e with
    | exit i =>
      simp only [Exit.inBlock]
      simp only at hk
      split
      · rename_i hi; rw [if_pos hi] at hk; exact hQ _ σ' tm' h' a' w' he hr' ht' hd hs hk
      · rename_i hi; rw [if_neg hi] at hk; exact hQ _ σ' tm' h' a' w' he hr' ht' hd hs hk
    | normal => exact hQ _ σ' tm' h' a' w' he hr' ht' hd hs hk
    | goto l => exact hQ _ σ' tm' h' a' w' he hr' ht' hd hs hk
    | ret => exact hQ _ σ' tm' h' a' w' he hr' ht' hd hs hk
    | panic c => exact hQ _ σ' tm' h' a' w' he hr' ht' hd hs hk
    | outgrown => exact hQ _ σ' tm' h' a' w' he hr' ht' hd hs hk
  | .loop c, K, base, σ, h, w, tm, a, Q, hx, hcx, hr, ht, hQ => by
    simp only [xC] at hx
    split at hx
    · obtain ⟨n, hx⟩ := hx
      refine wpIn_loop_rounds n ?_
      have key : ∀ (n : Nat) (tm1 : List Value) (σ1 : Sg) (h1 : Hp) (w1 : World) (a1 : Act), Ext base σ h w σ1 h1 w1 → HR base σ1 h1 w1 → Marks w σ1 w1 a a1 → TRel σ1 tm1 a1.tmps → Same (wr c) tm tm1 →
          loopW False (fun k tm h => xC P alP (SCalls P) cx ann c k tm h) K n tm1 h1 → Code.roundsIn (freeF ro) 0 P c Q n a1 w1 := by
        intro n
        induction n with
        | zero => intro tm1 σ1 h1 w1 a1 _ _ _ _ _ hx; exact hx.elim
        | succ n ih =>
          intro tm1 σ1 h1 w1 a1 he1 hr1 hd1 ht1 hs1 hx
          show c.wpIn (freeF ro) 0 P (Exit.then (Code.roundsIn (freeF ro) 0 P c Q n) Q) a1 w1
          unfold loopW at hx
          refine xC_sound hm c hx (hcx.mono he1.le) hr1 ht1 ?_
          intro e σ2 tm2 h2 a2 w2 he2 hr2 ht2 hd2 hs2 hk2
          have hs := hs1.trans hs2
          cases e with
          | normal => exact ih _ σ2 h2 w2 a2 (he1.trans he2) hr2 (hd1.trans hd2 he1.size he2) ht2 hs hk2
          | exit id => exact hQ _ σ2 tm2 h2 a2 w2 (he1.trans he2) hr2 ht2 (hd1.trans hd2 he1.size he2) hs hk2
          | goto l => exact hQ _ σ2 tm2 h2 a2 w2 (he1.trans he2) hr2 ht2 (hd1.trans hd2 he1.size he2) hs hk2
          | ret => exact hQ _ σ2 tm2 h2 a2 w2 (he1.trans he2) hr2 ht2 (hd1.trans hd2 he1.size he2) hs hk2
          | panic x => exact hQ _ σ2 tm2 h2 a2 w2 (he1.trans he2) hr2 ht2 (hd1.trans hd2 he1.size he2) hs hk2
          | outgrown => exact hQ _ σ2 tm2 h2 a2 w2 (he1.trans he2) hr2 ht2 (hd1.trans hd2 he1.size he2) hs hk2
      exact key n _ σ h w a (Ext.refl _ _ _ _) hr (Marks.of_eq rfl) ht (Same.refl _ _) hx
    obtain ⟨n, hx⟩ := hx
    refine wpIn_loop_rounds n ?_
    have key : ∀ (n : Nat) (vals : List Value) (σ1 : Sg) (h1 : Hp) (w1 : World) (a1 : Act), Ext base σ h w σ1 h1 w1 → HR base σ1 h1 w1 → Marks w σ1 w1 a a1 →
        TRel σ1 (setKeep (ann ((firstRegion c).getD 0)) vals 0 (forget (wr c) (ann ((firstRegion c).getD 0)) tm)) a1.tmps →
        Same (wr c) tm (setKeep (ann ((firstRegion c).getD 0)) vals 0 (forget (wr c) (ann ((firstRegion c).getD 0)) tm)) →
        loopX False (fun k vals h => xC P alP (SCalls P) cx ann c k (setKeep (ann ((firstRegion c).getD 0)) vals 0 (forget (wr c) (ann ((firstRegion c).getD 0)) tm)) h) (ann ((firstRegion c).getD 0)) K n vals h1 → Code.roundsIn (freeF ro) 0 P c Q n a1 w1 := by
      intro n
      induction n with
      | zero => intro vals σ1 h1 w1 a1 _ _ _ _ _ hx; exact hx.elim
      | succ n ih =>
        intro vals σ1 h1 w1 a1 he1 hr1 hd1 ht1 hs1 hx
        show c.wpIn (freeF ro) 0 P (Exit.then (Code.roundsIn (freeF ro) 0 P c Q n) Q) a1 w1
        unfold loopX at hx
        refine xC_sound hm c hx (hcx.mono he1.le) hr1 ht1 ?_
        intro e σ2 tm2 h2 a2 w2 he2 hr2 ht2 hd2 hs2 hk2
        have hs := hs1.trans hs2
        cases e with
        | normal => exact ih _ σ2 h2 w2 a2 (he1.trans he2) hr2 (hd1.trans hd2 he1.size he2) (head_rel ht2 (fun t ht _ => hs.2 t ht) hs.1) (head_same hs) hk2
        | exit id => exact hQ _ σ2 tm2 h2 a2 w2 (he1.trans he2) hr2 ht2 (hd1.trans hd2 he1.size he2) hs hk2
        | goto l => exact hQ _ σ2 tm2 h2 a2 w2 (he1.trans he2) hr2 ht2 (hd1.trans hd2 he1.size he2) hs hk2
        | ret => exact hQ _ σ2 tm2 h2 a2 w2 (he1.trans he2) hr2 ht2 (hd1.trans hd2 he1.size he2) hs hk2
        | panic x => exact hQ _ σ2 tm2 h2 a2 w2 (he1.trans he2) hr2 ht2 (hd1.trans hd2 he1.size he2) hs hk2
        | outgrown => exact hQ _ σ2 tm2 h2 a2 w2 (he1.trans he2) hr2 ht2 (hd1.trans hd2 he1.size he2) hs hk2
    exact key n _ σ h w a (Ext.refl _ _ _ _) hr (Marks.of_eq rfl) (head_rel ht (fun _ _ _ => rfl) rfl) (head_same (Same.refl _ _)) hx
  | .rangeFunc f ps x y, K, base, σ, h, w, tm, a, Q, hx, hcx, hr, ht, hQ => range_sound hx hcx hr ht hQ
  | .scope c, K, base, σ, h, w, tm, a, Q, hx, hcx, hr, ht, hQ => by
    refine wpIn_scope_straight (xC_sound hm c hx hcx hr ht ?_)
    intro e σ' tm' h' a' w' he hr' ht' hd hs hk
    cases e with
    | goto l => exact hk.elim
    | normal => exact hQ _ σ' tm' h' a' w' he hr' ht' hd hs hk
    | exit id => exact hQ _ σ' tm' h' a' w' he hr' ht' hd hs hk
    | ret => exact hQ _ σ' tm' h' a' w' he hr' ht' hd hs hk
    | panic c => exact hQ _ σ' tm' h' a' w' he hr' ht' hd hs hk
    | outgrown => exact hQ _ σ' tm' h' a' w' he hr' ht' hd hs hk
  | .goto l, K, base, σ, h, w, tm, a, Q, hx, hcx, hr, ht, hQ => hx.elim
  | .refuse s, K, base, σ, h, w, tm, a, Q, hx, hcx, hr, ht, hQ => hx.elim
end
end Go.Cn
