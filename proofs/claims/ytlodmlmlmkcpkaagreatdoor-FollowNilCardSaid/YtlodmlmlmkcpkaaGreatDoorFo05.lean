/- Joined: CnK, CnL, CnM, CnN, CnO, CnP, CnQ. -/
import Derived.Test.YtlodmlmlmkcpkaaGreatDoorFo04
import Derived.OrdersIn
import Derived.RangeFuncRecord
import Derived.RangeFuncLeaves
import Derived.LoopNIn
/- The canonical semantics: contracts, one operation, a region in the text's order. -/
set_option linter.unusedVariables false
set_option linter.unusedSimpArgs false
namespace Go.Cn

/-- What a call comes to. -/
def Post (base : Nat) (σ : Sg) (h : Hp) (w : World) (K : Value → Hp → Prop) (e : Ending) (w' : World) : Prop :=
  ∃ v v' h' σ', e = .returned v' ∧ K v h' ∧ VRel σ' v v' ∧ HR base σ' h' w' ∧ Ext base σ h w σ' h' w'

theorem Post.mono {base : Nat} {σ : Sg} {h : Hp} {w : World} {K K' : Value → Hp → Prop} (hk : ∀ v h, K v h → K' v h) {e : Ending} {w' : World} (hp : Post base σ h w K e w') : Post base σ h w K' e w' := by
  obtain ⟨v, v', h', σ', h1, h2, h3⟩ := hp; exact ⟨v, v', h', σ', h1, hk _ _ h2, h3⟩

/-- Where code runs: anywhere; perhaps in a round of a range over a function. -/
def freeF (ro : Option Nat) : Fence := { Fence.wide with round := ro }

theorem freeF_round (ro : Option Nat) : (freeF ro).round = ro := rfl
theorem freeF_fn (ro : Option Nat) (f : FuncId) : (freeF ro).fn f := trivial
theorem freeF_depth (ro : Option Nat) : (freeF ro).depth.isSome = true → 1 ≤ 0 := by simp [freeF, Fence.wide]
theorem callsIn_free {ro : Option Nat} {P : Program} {f : FuncId} {args : Array Value} {w : World} {R : Ending → World → Prop} (h : Calls P f args w R) : CallsIn (freeF ro) 0 P f args w R := (callsIn_wide (n := 0)).2 h
theorem callsIn_free' {ro : Option Nat} {P : Program} {f : FuncId} {args : Array Value} {w : World} {R : Ending → World → Prop} (h : CallsIn (freeF ro) 0 P f args w R) : Calls P f args w R := (callsIn_wide (n := 0)).1 h

/-- The temporaries with which a round begins. -/
def roundTmps (r : Loop) (args : Array Value) : Array Value := (r.params.zip args).foldl (fun tmps (t, a) => tmps.setIfInBounds t a) r.tmps

/-- The contract of a function. -/
def FCalls (P : Program) (f : FuncId) (args : List Value) (h : Hp) (K : Value → Hp → Prop) : Prop :=
  (∃ fn, P.funcs[f]? = some fn ∧ fn.body.isSome = true ∧ mayCall fn = true) ∧
  ∀ (base : Nat) (σ : Sg) (w : World) (rargs : Array Value), HR base σ h w → LRel σ args rargs.toList → Calls P f rargs w (Post base σ h w K)

/-- The contract of a round of a range over a function. -/
def YCalls (P : Program) (f : FuncId) (args : List Value) (h : Hp) (K : Value → Hp → Prop) : Prop :=
  ∃ l, f = P.funcs.size + l ∧ ∀ (base : Nat) (σ : Sg) (w : World) (rargs : Array Value) (e : En), HR base σ h w → LRel σ args rargs.toList → σ l = some e →
    ∃ r, w.heap[e.rb]? = some (.loop r) ∧ rargs.size = r.params.size ∧ RoundIn (freeF none) 0 P e.rb r.fn (roundTmps r rargs) r.assign r.body w (Post base σ h w K)

/-- A CONTRACT: from every state of the model that is related to the canonical one the call returns, and K holds of the canonical result and heap. -/
def SCalls (P : Program) (f : FuncId) (args : List Value) (h : Hp) (K : Value → Hp → Prop) : Prop := FCalls P f args h K ∨ YCalls P f args h K

theorem FCalls.lt {P : Program} {f : FuncId} {args : List Value} {h : Hp} {K : Value → Hp → Prop} (hc : FCalls P f args h K) : f < P.funcs.size := by
  obtain ⟨⟨fn, h1, _⟩, _⟩ := hc; exact (Array.getElem?_eq_some_iff.1 h1).1
theorem SCalls.func {P : Program} {f : FuncId} {args : List Value} {h : Hp} {K : Value → Hp → Prop} (hc : SCalls P f args h K) (hf : f < P.funcs.size) : FCalls P f args h K := by
  rcases hc with h1 | ⟨l, h1, _⟩
  · exact h1
  · exact absurd hf (by rw [h1]; exact Nat.not_lt.2 (Nat.le_add_right _ _))
theorem FCalls.mono {P : Program} {f : FuncId} {args : List Value} {h : Hp} {K K' : Value → Hp → Prop} (hc : FCalls P f args h K) (hk : ∀ v h, K v h → K' v h) : FCalls P f args h K' :=
  ⟨hc.1, fun base σ w rargs hr hl => (hc.2 base σ w rargs hr hl).mono fun _ _ => Post.mono hk⟩
theorem SCalls.mono {P : Program} {f : FuncId} {args : List Value} {h : Hp} {K K' : Value → Hp → Prop} (hc : SCalls P f args h K) (hk : ∀ v h, K v h → K' v h) : SCalls P f args h K' := by
  rcases hc with hc | ⟨l, hf, hc⟩
  · exact .inl (hc.mono hk)
  · refine .inr ⟨l, hf, fun base σ w rargs e hr hl he => ?_⟩
    obtain ⟨r, h1, h2, h3⟩ := hc base σ w rargs e hr hl he
    exact ⟨r, h1, h2, h3.mono fun _ _ => Post.mono hk⟩
/-- A contract may be shown of heaps alone that some state of the model is related to. -/
theorem SCalls.of_rel {P : Program} {f : FuncId} {args : List Value} {h : Hp} {K : Value → Hp → Prop} (hf : (∃ fn, P.funcs[f]? = some fn ∧ fn.body.isSome = true ∧ mayCall fn = true) ∨ ∃ l, f = P.funcs.size + l)
    (hc : ∀ (base : Nat) (σ : Sg) (w : World), HR base σ h w → SCalls P f args h K) : SCalls P f args h K := by
  rcases hf with ⟨fn, hf⟩ | ⟨l, hf⟩
  · refine .inl ⟨⟨fn, hf⟩, fun base σ w rargs hr hl => ((hc base σ w hr).func (Array.getElem?_eq_some_iff.1 hf.1).1).2 base σ w rargs hr hl⟩
  · refine .inr ⟨l, hf, fun base σ w rargs e hr hl he => ?_⟩
    rcases hc base σ w hr with h1 | ⟨l', h1, h2⟩
    · exact absurd h1.lt (by rw [hf]; exact Nat.not_lt.2 (Nat.le_add_right _ _))
    · have : l' = l := Nat.add_left_cancel (h1.symm.trans hf)
      subst this
      exact h2 base σ w rargs e hr hl he

section
variable {P : Program}

def asB : Value → Option Bool
  | .bool x => some x
  | _ => none

theorem wantsV_run {σ : Sg} {v v' : Value} {want b : Bool} (h : wantsV v want = some b) (hv : VRel σ v v') : (asB v' == some want) = b := by
  unfold wantsV at h
  split at h
  · obtain rfl := hv.bool_inv
    simp at h; subst h
    simp [asB]
  · rename_i vs
    split at h
    · rename_i hs
      have : vs = #[] := Array.eq_empty_of_size_eq_zero hs
      subst this
      obtain rfl := hv.undef_inv
      simp at h; subst h
      rfl
    · simp at h
  · simp at h

theorem wanted_run {σ : Sg} {ops : Array Oper} {tm : List Value} {tmps : Array Value} (ht : TRel σ tm tmps) {o : Oper} {b : Bool} (h : wants ops.toList tm o = some b) :
    Region.wanted o (yielded ops tmps) = b := by
  unfold wants at h
  unfold Region.wanted
  cases hg : o.guard with
  | none => simp [hg] at h; simp [h]
  | some jw =>
    obtain ⟨j, want⟩ := jw
    simp only [hg] at h ⊢
    unfold yielded
    simp only [Array.getElem?_toList] at h
    cases hd : (ops[j]?).bind (·.dst) with
    | none => simp [hd] at h; subst h; rfl
    | some d =>
      simp only [hd] at h
      have hv := ht.2 d
      have := wantsV_run h hv
      rw [← this]
      simp only [Option.bind_some]
      by_cases hl : d < tmps.size
      · rw [Array.getD_eq_getD_getElem?, Array.getElem?_eq_getElem hl]
        simp
        cases tmps[d] <;> rfl
      · rw [Array.getD_eq_getD_getElem?, Array.getElem?_eq_none (Nat.le_of_not_lt hl)]
        rfl

/-- What stands behind one operation. -/
def After (base : Nat) (σ : Sg) (h : Hp) (w : World) (a : Act) (dst : Option Tmp) (k : Value → Hp → Prop) (next : Act → World → Prop) : Prop :=
  ∀ σ' v v' h' w', Ext base σ h w σ' h' w' → HR base σ' h' w' → VRel σ' v v' → k v h' → next (a.put dst v') w'

theorem enter_run {f : FuncId} {fn : Func} (hf : P.funcs[f]? = some fn) (hb : fn.body.isSome = true) (hm : mayCall fn = true) (args : Array Value) (w : World) : (callFunc f args).run P w = .ok (.enter f args) w := by
  have hn : fn.body.isNone = false := by cases hbb : fn.body <;> simp_all
  have hmm : (fn.name == "runtime.NumGoroutine") = false := by simpa [mayCall] using hm
  simp only [beq_eq_false_iff_ne, ne_eq] at hmm
  simp [callFunc, hf, hmm]
  intro hnone; rw [hnone] at hb; simp at hb

theorem method_run {t : TypeId} {name : String} {f : FuncId} (h : methodOf P t name = some f) (v : Value) (n : Nat) (w : World) : (method (n + 1) t v name).run P w = .ok (f, v) w := by
  unfold methodOf at h
  split at h
  · rename_i i hi
    split at h
    · rename_i m hm
      split at h
      · simp at h
      · rename_i hp
        have hpe : m.path = #[] := by simpa using hp
        unfold method
        simp only [Sem.run_bind, run_typeInfo w hi, Result.andThen_ok, hm, hpe]
        split at h <;> first | (simp at h; done) | skip
        · rename_i f' e hmf hu
          simp at h; subst h
          simp [follow, hmf, receiverAt, run_underlying hu, Place.get]
        · rename_i f' d hne hmf hu
          simp at h; subst h
          simp only [follow, hmf, Sem.run_pure, Result.andThen_ok, receiverAt, Sem.run_bind, run_underlying hu]
          cases d <;> first | (exact absurd rfl (hne _)) | simp [Place.get]
    · simp at h
  · simp at h

/-- What a call leads to. -/
theorem callee_run {tm : List Value} {σ : Sg} {a : Act} (ht : TRel σ tm a.tmps) {o : Oper} {f : FuncId} {args : List Value} (hc : callee P tm o.op = some (f, args)) :
    ∃ rargs, LRel σ args rargs.toList ∧
      ((f < P.funcs.size ∧ ∀ fn, P.funcs[f]? = some fn → fn.body.isSome = true → mayCall fn = true → ∀ w, (execOp a.eval o).run P w = .ok (.enter f rargs) w) ∨
       ∃ l e, f = P.funcs.size + l ∧ σ l = some e ∧ ∀ w r, w.heap[e.rb]? = some (.loop r) → rargs.size = r.params.size → (execOp a.eval o).run P w = .ok (.round e.rb r.fn (roundTmps r rargs) r.assign r.body) w) := by
  obtain ⟨dst, op, ty, pos, after, guard⟩ := o
  unfold callee at hc
  simp only at hc
  split at hc
  · rename_i g args' ats
    have hg := ev_rel ht g
    have hm1 := ev_map ht args'
    split at hc
    · rename_i f' first captured he
      split at hc
      · rename_i hlt
        simp at hc
        obtain ⟨rfl, rfl⟩ := hc
        rw [he] at hg
        obtain ⟨first', captured', e2, h1, h2⟩ := hg.func_inv rfl
        refine ⟨first' ++ args'.map a.eval ++ captured', ?_, .inl ⟨hlt, fun fn hf hb hm w => ?_⟩⟩
        · have l1 : LRel σ first.toList first'.toList := LRel.of_agg h1.1 h1.2
          have l2 : LRel σ (args'.map (ev tm)).toList (args'.map a.eval).toList := LRel.of_agg hm1.1 hm1.2
          have l3 : LRel σ captured.toList captured'.toList := LRel.of_agg h2.1 h2.2
          have := (l1.append l2).append l3
          simpa using this
        · simp [execOp, resolve, e2, Deferred.ofValue, invoke, enter_run hf hb hm]
      · simp at hc
    · rename_i l first captured he
      split at hc
      · simp at hc
        obtain ⟨rfl, rfl⟩ := hc
        rw [he] at hg
        obtain ⟨e, hl, e2⟩ := hg.yield_inv
        refine ⟨args'.map a.eval, ?_, .inr ⟨l, e, rfl, hl, fun w r hr hs => ?_⟩⟩
        · have l2 : LRel σ (args'.map (ev tm)).toList (args'.map a.eval).toList := LRel.of_agg hm1.1 hm1.2
          simpa using l2
        · have := run_yield (P := P) hr hs
          simp [execOp, resolve, e2, Deferred.ofValue, invoke, this, roundTmps]
      · simp at hc
    · simp at hc
  · rename_i r name args' ats
    have hg := ev_rel ht r
    have hm1 := ev_map ht args'
    split at hc
    · rename_i t v he
      split at hc
      · rename_i g hmeth
        split at hc
        · rename_i hcond
          simp only [Bool.and_eq_true, decide_eq_true_eq] at hcond
          simp at hc
          obtain ⟨rfl, rfl⟩ := hc
          rw [he] at hg
          obtain ⟨v', e2, hv⟩ := hg.iface_inv
          refine ⟨#[v'] ++ args'.map a.eval, ?_, .inl ⟨hcond.1, fun fn hf hb hm w => ?_⟩⟩
          · have l2 : LRel σ (args'.map (ev tm)).toList (args'.map a.eval).toList := LRel.of_agg hm1.1 hm1.2
            have := LRel.cons hv l2
            simpa using this
          · have hmr := method_run hmeth v' (P.types.size + 99) w
            have hex : (#[Value.iface t v'] ++ args'.map a.eval).extract 1 (#[Value.iface t v'] ++ args'.map a.eval).size = args'.map a.eval := by
              apply Array.ext'; simp [List.take_of_length_le]
            have hrun : (callMethod (.iface t v') name (args'.map a.eval)).run P w = .ok (.enter g (#[v'] ++ args'.map a.eval)) w := by
              unfold callMethod
              simp only [Sem.run_bind, run_program, Result.andThen_ok]
              show (Sem.run P (method (P.types.size + 99 + 1) t v' name) w).andThen _ = _
              rw [hmr]
              exact enter_run hf hb hm _ w
            simp only [execOp, resolve, e2, Sem.run_bind, Sem.run_pure, Result.andThen_ok, invoke, hex]
            have h0 : (#[Value.iface t v'] ++ args'.map a.eval)[0]? = some (.iface t v') := by rw [Array.getElem?_append, if_pos (by simp)]; rfl
            rw [h0]
            exact hrun
        · simp at hc
      · simp at hc
    · simp at hc
  · simp at hc

theorem stepX_sound {base : Nat} {σ : Sg} {h : Hp} {w : World} (hr : HR base σ h w) {tm : List Value} {a : Act} (ht : TRel σ tm a.tmps) {ops : Array Oper} {o : Oper} {k : Value → Hp → Prop}
    (hs : stepX P alP (SCalls P) ops.toList o tm h k) {next : Act → World → Prop} {Q : Exit → Act → World → Prop} (hn : After base σ h w a o.dst k next) (ro : Option Nat) :
    if Region.wanted o (yielded ops a.tmps) then o.wpIn (freeF ro) 0 P a w next Q else (∀ f, o.about P w a.eval = some f → (freeF ro).fn f) ∧ next (a.put o.dst undef) w := by
  unfold stepX at hs
  cases hw : wants ops.toList tm o with
  | none => simp [hw, alP] at hs
  | some b =>
    rw [wanted_run ht hw]
    simp only [hw] at hs
    have skip : ∀ {v : Value}, b = false → k undef h → next (a.put o.dst undef) w := fun hb hk => hn σ undef undef h w (Ext.refl _ _ _ _) hr (VRel.undef σ) hk
    cases b with
    | false =>
      simp only [Bool.false_eq_true, if_false] at hs ⊢
      refine ⟨fun _ _ => trivial, skip (v := undef) rfl ?_⟩
      split at hs <;> simpa [opt] using hs
    | true =>
      simp only [if_true] at hs ⊢
      refine ⟨fun _ _ => trivial, ?_⟩
      have sem : (∀ c, o.op ≠ .defer c) → o.semAt (freeF ro).round a.eval = execOp a.eval o := fun hd => Oper.semAt_eq _ _ _ hd
      split at hs
      · cases hp : pop P tm o.op with
        | none => simp [hp, opt, alP] at hs
        | some v =>
          obtain ⟨v', h1, h2⟩ := pop_run ht o hp w
          rw [sem (by rintro c hd; rw [hd] at hp; simp [pop] at hp), h1]
          simp only [hp, opt] at hs
          exact hn σ v v' h w (Ext.refl _ _ _ _) hr h2 hs
      · cases hp : rop P tm o.op h with
        | none => simp [hp, opt, alP] at hs
        | some v =>
          obtain ⟨v', h1, h2⟩ := rop_run hr ht o hp
          rw [sem (by rintro c hd; rw [hd] at hp; simp [rop] at hp), h1]
          simp only [hp, opt] at hs
          exact hn σ v v' h w (Ext.refl _ _ _ _) hr h2 hs
      · cases hp : eop P tm o.op h with
        | none => simp [hp, opt, alP] at hs
        | some vh =>
          obtain ⟨v, h'⟩ := vh
          obtain ⟨σ', nx, v', w', h1, h2, h3, h4, h5⟩ := eop_run hr ht o hp
          rw [sem (by rintro c hd; rw [hd] at hp; simp [eop] at hp), h1]
          simp only [hp, opt] at hs
          rcases h2 with rfl | ⟨rfl, rfl⟩
          · exact hn σ' v v' h' w' h5 h4 h3 hs
          · exact hn σ' v undef h' w' h5 h4 h3 hs
      · cases hp : callee P tm o.op with
        | none => simp [hp, opt, alP] at hs
        | some fa =>
          obtain ⟨f, args⟩ := fa
          simp only [hp, opt] at hs
          rw [sem (by rintro c hd; rw [hd] at hp; simp [callee] at hp)]
          obtain ⟨rargs, hl, hrun⟩ := callee_run ht hp
          have fin : ∀ e w', Post base σ h w k e w' → (match e, w' with
              | .returned v, w'' => next (a.put o.dst v) w''
              | .panicked chain, w'' => Q (.panic chain) a w''
              | .outgrown, _ => LetsOut Q) := by
            rintro e w' ⟨v, v', h', σ', rfl, hk, hv, hr', he⟩
            exact hn σ' v v' h' w' he hr' hv hk
          rcases hrun with ⟨hlt, hrun⟩ | ⟨l, e, rfl, hle, hrun⟩
          · obtain ⟨⟨fn, hf, hb, hm⟩, hcall⟩ := hs.func hlt
            rw [hrun fn hf hb hm w]
            exact ⟨freeF_depth ro, callsIn_free ((hcall base σ w rargs hr hl).mono fin)⟩
          · rcases hs with hs | ⟨l', hl', hs⟩
            · exact absurd hs.lt (Nat.not_lt.2 (Nat.le_add_right _ _))
            · have : l' = l := (Nat.add_left_cancel hl').symm
              subst this
              obtain ⟨r, h1, h2, h3⟩ := hs base σ w rargs e hr hl hle
              rw [hrun w r h1 h2]
              exact ⟨freeF_depth ro, RoundIn.mono h3 fin⟩
      · cases hp : aop tm o.op h with
        | none => simp [hp, opt, alP] at hs
        | some alts =>
          obtain ⟨v, h', v', w', h1, h2, h3, h4, h5⟩ := aop_run (P := P) hr ht o hp
          rw [sem (by rintro c hd; rw [hd] at hp; simp [aop] at hp), h2]
          simp only [hp, opt] at hs
          exact hn σ v v' h' w' h5 h4 h3 (hs _ (List.mem_map.2 ⟨(v, h'), h1, rfl⟩))
      · cases hp : mkop P tm o.op h with
        | none => simp [hp, opt, alP] at hs
        | some vh =>
          obtain ⟨v, h'⟩ := vh
          obtain ⟨σ', v', w', h1, h2, h3, h4⟩ := mkop_run hr ht o hp
          rw [sem (by rintro c hd; rw [hd] at hp; simp [mkop, mkOf] at hp), h1]
          simp only [hp, opt] at hs
          exact hn σ' v v' h' w' h4 h3 h2 hs

theorem xOps_sound {ops : Array Oper} {Q : Exit → Act → World → Prop} (ro : Option Nat) : ∀ (rest : List Oper) (i : Nat) {base : Nat} {σ : Sg} {h : Hp} {w : World} {tm : List Value} {a : Act} {K : List Value → Hp → Prop},
    rest = ops.toList.drop i → HR base σ h w → TRel σ tm a.tmps → xOps P alP (SCalls P) ops.toList rest tm h K →
    (∀ σ' tm' h' a' w', Ext base σ h w σ' h' w' → HR base σ' h' w' → TRel σ' tm' a'.tmps → a'.defers = a.defers → K tm' h' → Q .normal a' w') →
    wpOpsIn (freeF ro) 0 P ops Q (List.range' i (ops.size - i)) a w
  | [], i, base, σ, h, w, tm, a, K, he, hr, ht, hx, hQ => by
    have : ops.size - i = 0 := by
      have := congrArg List.length he
      simp at this; omega
    rw [this]
    simp only [List.range'_zero, wpOpsIn]
    exact hQ σ tm h a w (Ext.refl _ _ _ _) hr ht rfl hx
  | o :: rest, i, base, σ, h, w, tm, a, K, he, hr, ht, hx, hQ => by
    have hi : i < ops.size := by
      rcases Nat.lt_or_ge i ops.size with h1 | h1
      · exact h1
      · rw [List.drop_eq_nil_of_le (by simpa using h1)] at he; simp at he
    have ho : ops[i]? = some o := by
      have := congrArg (fun l : List Oper => l[0]?) he
      simp at this
      exact this.symm
    have hrest : rest = ops.toList.drop (i + 1) := by
      have := congrArg List.tail he
      simpa using this
    rw [show ops.size - i = (ops.size - (i + 1)) + 1 by omega, List.range'_succ, wpOpsIn_cons]
    unfold wpOpIn
    rw [ho]
    refine stepX_sound hr ht hx ?_ ro
    intro σ' v v' h' w' hext hr' hv hk
    refine xOps_sound ro rest (i + 1) hrest hr' ((ht.mono hext.le).put o.dst hv) hk ?_
    intro σ2 tm2 h2 a2 w2 e2 r2 t2 d2 k2
    exact hQ σ2 tm2 h2 a2 w2 (hext.trans e2) r2 t2 (by rw [d2, Act.put_defers']) k2
end
end Go.Cn

/- The canonical semantics: what an operation answers hangs on its operands alone. -/
set_option linter.unusedVariables false
set_option linter.unusedSimpArgs false
namespace Go.Cn
section
variable {P : Program} {tm tm' : List Value}

theorem map_opt_congr {lo : Option Operand} (h : ∀ x ∈ lo.toList, ev tm x = ev tm' x) : lo.map (ev tm) = lo.map (ev tm') := by
  cases lo with
  | none => rfl
  | some x => simp at h; simp [h]

theorem map_arr_congr {xs : Array Operand} (h : ∀ x ∈ xs.toList, ev tm x = ev tm' x) : xs.map (ev tm) = xs.map (ev tm') :=
  Array.map_congr_left fun x hx => h x (by simpa using hx)

theorem map_parts_congr {ps : List (Nat × Operand)} (h : ∀ x ∈ ps.map (·.2), ev tm x = ev tm' x) : (ps.map fun (i, x) => (i, ev tm x)) = ps.map fun (i, x) => (i, ev tm' x) := by
  apply List.map_congr_left
  rintro ⟨i, x⟩ hp
  simp only
  rw [h x (List.mem_map.2 ⟨(i, x), hp, rfl⟩)]

/-- The operands of two states agree. -/
def Agree (tm tm' : List Value) (op : Op) : Prop := ∀ x ∈ op.operands.toList, ev tm x = ev tm' x

theorem list_two {l : List Operand} {x y : Operand} (e : l = [x, y]) (h : ∀ x ∈ l, ev tm x = ev tm' x) : ev tm x = ev tm' x ∧ ev tm y = ev tm' y := by
  subst e; exact ⟨h x (by simp), h y (by simp)⟩

theorem pop_congr {op : Op} (h : Agree tm tm' op) : pop P tm op = pop P tm' op := by
  unfold Agree at h
  unfold pop
  split
  case h_17 args ats =>
    simp only [Op.operands, Call.operands] at h
    simp at h
    split
    · rename_i t ts x xs e1 e2
      have hx : x ∈ args := by rw [← Array.mem_toList_iff, e2]; simp
      rw [h x hx]
    · rfl
  case h_18 args ats =>
    simp only [Op.operands, Call.operands] at h
    simp at h
    split
    · rename_i t ts x xs e1 e2
      have hx : x ∈ args := by rw [← Array.mem_toList_iff, e2]; simp
      rw [h x hx]
    · rfl
  case h_19 args ats =>
    simp only [Op.operands, Call.operands] at h
    simp at h
    split
    · rename_i x y e2
      have hx : x ∈ args := by rw [← Array.mem_toList_iff, e2]; simp
      have hy : y ∈ args := by rw [← Array.mem_toList_iff, e2]; simp
      rw [h x hx, h y hy]
    · rfl
  case h_20 args ats =>
    simp only [Op.operands, Call.operands] at h
    simp at h
    split
    · rename_i x y e2
      have hx : x ∈ args := by rw [← Array.mem_toList_iff, e2]; simp
      have hy : y ∈ args := by rw [← Array.mem_toList_iff, e2]; simp
      rw [h x hx, h y hy]
    · rfl
  case h_9 fn first captured =>
    simp only [Op.operands] at h
    simp at h
    rw [map_arr_congr (xs := first) (fun x hx => h x (.inl (by simpa using hx))), map_arr_congr (xs := captured) (fun x hx => h x (.inr (by simpa using hx)))]
  case h_10 t x lo hi mx =>
    simp only [Op.operands] at h
    simp at h
    rw [h.1, map_opt_congr (lo := lo) (fun x hx => h.2 x (by simp_all)), map_opt_congr (lo := hi) (fun x hx => h.2 x (by simp_all)), map_opt_congr (lo := mx) (fun x hx => h.2 x (by simp_all))]
  case h_15 t parts => 
    simp only [Op.operands] at h
    rw [map_parts_congr (ps := parts.toList) h]
  all_goals first
    | rfl
    | (simp only [Op.operands] at h; simp at h; simp [h]; done)
    | (simp only [Op.operands] at h; simp at h; simp only [h]; done)

theorem rop_congr {op : Op} (h : Agree tm tm' op) (hp : Hp) : rop P tm op hp = rop P tm' op hp := by
  unfold Agree at h
  unfold rop
  split
  case h_4 args ats =>
    simp only [Op.operands, Call.operands] at h
    simp at h
    split
    · split
      · rename_i x xs e2
        have hx : x ∈ args := by rw [← Array.mem_toList_iff, e2]; simp
        rw [h x hx]
      · rfl
    · rfl
  all_goals first
    | rfl
    | (simp only [Op.operands] at h; simp at h; simp [h]; done)
    | (simp only [Op.operands] at h; simp at h; simp only [h]; done)

theorem eop_congr {op : Op} (h : Agree tm tm' op) (hp : Hp) : eop P tm op hp = eop P tm' op hp := by
  unfold Agree at h
  unfold eop
  split
  case h_4 t r =>
    cases r with
    | none => rfl
    | some x =>
      simp only [Op.operands] at h
      simp at h
      simp only [h]
  case h_10 args ats =>
    simp only [Op.operands, Call.operands] at h
    simp at h
    split
    · rename_i t ts x y e1 e2
      have hx : x ∈ args := by rw [← Array.mem_toList_iff, e2]; simp
      have hy : y ∈ args := by rw [← Array.mem_toList_iff, e2]; simp
      rw [h x hx, h y hy]
    · rfl
  case h_12 args ats =>
    simp only [Op.operands, Call.operands] at h
    simp at h
    split
    · rename_i t xt x y e1 e2
      have hx : x ∈ args := by rw [← Array.mem_toList_iff, e2]; simp
      have hy : y ∈ args := by rw [← Array.mem_toList_iff, e2]; simp
      rw [h x hx, h y hy]
    · rfl
  case h_13 args ats =>
    simp only [Op.operands, Call.operands] at h
    simp at h
    split
    · rename_i t ts x y e1 e2
      have hx : x ∈ args := by rw [← Array.mem_toList_iff, e2]; simp
      have hy : y ∈ args := by rw [← Array.mem_toList_iff, e2]; simp
      rw [h x hx, h y hy]
    · rfl
  case h_14 args ats =>
    simp only [Op.operands, Call.operands] at h
    simp at h
    split
    · rename_i t ts x e1 e2
      have hx : x ∈ args := by rw [← Array.mem_toList_iff, e2]; simp
      rw [h x hx]
    · rfl
  all_goals first
    | rfl
    | (simp only [Op.operands] at h; simp at h; simp [h]; done)
    | (simp only [Op.operands] at h; simp at h; simp only [h]; done)

theorem callee_congr {op : Op} (h : Agree tm tm' op) : callee P tm op = callee P tm' op := by
  unfold Agree at h
  unfold callee
  split
  · rename_i f args ats
    simp only [Op.operands, Call.operands] at h
    simp at h
    have hm : args.toList.map (ev tm) = args.toList.map (ev tm') := List.map_congr_left fun x hx => h.2 x (by simpa using hx)
    rw [h.1, hm]
  · rename_i r name args ats
    simp only [Op.operands, Call.operands] at h
    simp at h
    have hm : args.toList.map (ev tm) = args.toList.map (ev tm') := List.map_congr_left fun x hx => h.2 x (by simpa using hx)
    rw [h.1, hm]
  · rfl

theorem mkOf_congr {op : Op} (h : Agree tm tm' op) : mkOf P tm op = mkOf P tm' op := by
  unfold Agree at h
  unfold mkOf
  split
  · simp only [Op.operands] at h; simp at h; simp only [h]
  · rename_i t len parts
    simp only [Op.operands] at h
    rw [map_parts_congr (ps := parts.toList) h]
  · rfl
  · rfl

theorem mkop_congr {op : Op} (h : Agree tm tm' op) (hp : Hp) : mkop P tm op hp = mkop P tm' op hp := by unfold mkop; rw [mkOf_congr h]

theorem aop_congr {op : Op} (h : Agree tm tm' op) (hp : Hp) : aop tm op hp = aop tm' op hp := by
  unfold Agree at h
  unfold aop
  split
  · simp only [Op.operands] at h; simp at h; simp only [h]
  · rfl
end
end Go.Cn

/- The canonical semantics: a region that draws its order. -/
set_option linter.unusedVariables false
set_option linter.unusedSimpArgs false
namespace Go.Cn
section
variable {P : Program}

/-! ### Places made ahead -/
/-- A canonical block more, of which the model knows nothing yet. -/
theorem HR.ghost {base : Nat} {σ : Sg} {h : Hp} {w : World} (hr : HR base σ h w) (cs : List Value) (t : TypeId) : HR base σ (h.alloc cs t) w := by
  have hobn : h.ob h.next = none := (hr.fresh _ (Nat.le_refl _)).1
  have hne : ∀ b e, σ b = some e → b ≠ h.next := fun b e hb => by have := (hr.dom b e hb).1; omega
  have hoth : Oth base σ (h.alloc cs t) w := hr.oth.step (Sg.le_refl σ) (fun b e o h1 h2 _ => by rw [Hp.ob_alloc, if_neg (hne b e h1)] at h2; exact ⟨h2, h1⟩) (fun k o h1 _ => h1) (fun b e h1 h2 => by rw [h1] at h2; simp at h2)
  refine ⟨hr.base_le, fun b e hb => ⟨by have := (hr.dom b e hb).1; rw [Hp.next_alloc]; omega, (hr.dom b e hb).2⟩, ?_, ?_, ?_, ?_, ?_, ?_, ?_, hoth⟩
  · intro b hb
    rw [Hp.next_alloc] at hb
    rw [Hp.ob_alloc, Hp.gs_alloc, if_neg (by omega)]
    exact hr.fresh b (by omega)
  · intro b e cs' t' g hb hob hl
    rw [Hp.ob_alloc, if_neg (hne b e hb)] at hob
    exact hr.cell b e cs' t' g hb hob hl
  · intro b cs' t' g hob
    rw [Hp.ob_alloc] at hob
    rw [Hp.next_alloc]
    split at hob
    · cases hob; omega
    · have := hr.grp b cs' t' g hob; omega
  · intro b e cs' t' g hb hob
    rw [Hp.ob_alloc, if_neg (hne b e hb)] at hob
    exact hr.gdom b e cs' t' g hb hob
  · intro g l hg b hb
    rw [Hp.gs_alloc] at hg
    obtain ⟨cs', t', hob⟩ := hr.stack g l hg b hb
    refine ⟨cs', t', ?_⟩
    rw [Hp.ob_alloc, if_neg ?_]
    · exact hob
    · rintro rfl; rw [hobn] at hob; simp at hob
  · intro g l hg
    rw [Hp.gs_alloc] at hg
    refine (hr.nest g l hg).imp_of_mem fun {b1 b2} m1 m2 hp => ?_
    intro e1 e2 cs1 cs2 t1 t2 g1 g2 s1 s2 o1 o2
    rw [Hp.ob_alloc, if_neg (hne b1 e1 s1)] at o1
    rw [Hp.ob_alloc, if_neg (hne b2 e2 s2)] at o2
    exact hp e1 e2 cs1 cs2 t1 t2 g1 g2 s1 s2 o1 o2
  · intro b1 b2 e1 e2 cs1 cs2 t1 t2 g1 g2 s1 s2 o1 o2 l1 l2 hrb
    rw [Hp.ob_alloc, if_neg (hne b1 e1 s1)] at o1
    rw [Hp.ob_alloc, if_neg (hne b2 e2 s2)] at o2
    exact hr.apart b1 b2 e1 e2 cs1 cs2 t1 t2 g1 g2 s1 s2 o1 o2 l1 l2 hrb

theorem HR.ghostMap {base : Nat} {σ : Sg} {h : Hp} {w : World} (hr : HR base σ h w) : HR base σ (h.newOb (.map [] 0)) w := by
  have hobn : h.ob h.next = none := (hr.fresh _ (Nat.le_refl _)).1
  have hne : ∀ b e, σ b = some e → b ≠ h.next := fun b e hb => by have := (hr.dom b e hb).1; omega
  have hoth : Oth base σ (h.newOb (.map [] 0)) w := hr.oth.step (Sg.le_refl σ) (fun b e o h1 h2 _ => by rw [Hp.ob_newOb, if_neg (hne b e h1)] at h2; exact ⟨h2, h1⟩) (fun k o h1 _ => h1) (fun b e h1 h2 => by rw [h1] at h2; simp at h2)
  refine ⟨hr.base_le, fun b e hb => ⟨by have := (hr.dom b e hb).1; rw [Hp.next_newOb]; omega, (hr.dom b e hb).2⟩, ?_, ?_, ?_, ?_, ?_, ?_, ?_, hoth⟩
  · intro b hb
    rw [Hp.next_newOb] at hb
    rw [Hp.ob_newOb, Hp.gs_newOb, if_neg (by omega)]
    exact hr.fresh b (by omega)
  · intro b e cs' t' g hb hob hl
    rw [Hp.ob_newOb, if_neg (hne b e hb)] at hob
    exact hr.cell b e cs' t' g hb hob hl
  · intro b cs' t' g hob
    rw [Hp.ob_newOb] at hob
    rw [Hp.next_newOb]
    split at hob
    · cases hob
    · have := hr.grp b cs' t' g hob; omega
  · intro b e cs' t' g hb hob
    rw [Hp.ob_newOb, if_neg (hne b e hb)] at hob
    exact hr.gdom b e cs' t' g hb hob
  · intro g l hg b hb
    rw [Hp.gs_newOb] at hg
    obtain ⟨cs', t', hob⟩ := hr.stack g l hg b hb
    refine ⟨cs', t', ?_⟩
    rw [Hp.ob_newOb, if_neg ?_]
    · exact hob
    · rintro rfl; rw [hobn] at hob; simp at hob
  · intro g l hg
    rw [Hp.gs_newOb] at hg
    refine (hr.nest g l hg).imp_of_mem fun {b1 b2} m1 m2 hp => ?_
    intro e1 e2 cs1 cs2 t1 t2 g1 g2 s1 s2 o1 o2
    rw [Hp.ob_newOb, if_neg (hne b1 e1 s1)] at o1
    rw [Hp.ob_newOb, if_neg (hne b2 e2 s2)] at o2
    exact hp e1 e2 cs1 cs2 t1 t2 g1 g2 s1 s2 o1 o2
  · intro b1 b2 e1 e2 cs1 cs2 t1 t2 g1 g2 s1 s2 o1 o2 l1 l2 hrb
    rw [Hp.ob_newOb, if_neg (hne b1 e1 s1)] at o1
    rw [Hp.ob_newOb, if_neg (hne b2 e2 s2)] at o2
    exact hr.apart b1 b2 e1 e2 cs1 cs2 t1 t2 g1 g2 s1 s2 o1 o2 l1 l2 hrb

theorem HR.ghostOb {base : Nat} {σ : Sg} {h : Hp} {w : World} (hr : HR base σ h w) (c : Option (List Value × TypeId)) : HR base σ (h.newOb (obOf c h.next)) w := by
  cases c with
  | some ce => exact hr.ghost ce.1 ce.2
  | none => exact hr.ghostMap

/-- The model makes it now. -/
theorem HR.late {base : Nat} {σ : Sg} {h : Hp} {w w' : World} (hr : HR base σ h w) {b : Nat} {cs : List Value} {t : TypeId} {c : Array Value} {el : TypeId} {fr : Nat × Nat}
    (hb : σ b = none) (hbn : b < h.next) (hob : h.ob b = some (.cells cs t (some b))) (hgs : h.gs.get b = none)
    (hw : WNew w w' (.cells c el fr)) (hlen : cs.length ≤ c.size) (hrel : ∀ (i : Nat) v, cs[i]? = some v → ∃ v', c[i]? = some v' ∧ VRel σ v v') (hfr : ∀ j, j < c.size → ¬ (fr.1 ≤ j ∧ j < fr.2)) :
    HR base (σ.put b ⟨w.heap.size, 0, c.size⟩) h w' := by
  have hle : σ.le (σ.put b ⟨w.heap.size, 0, c.size⟩) := Sg.put_le hb
  have hold : ∀ k, k < w.heap.size → w'.heap[k]? = w.heap[k]? := by
    intro k hk; rw [hw.heap, Array.getElem?_push, if_neg (by omega)]
  have hput : ∀ x e, (σ.put b ⟨w.heap.size, 0, c.size⟩) x = some e → (x = b ∧ e = ⟨w.heap.size, 0, c.size⟩) ∨ (x ≠ b ∧ σ x = some e) := by
    intro x e hx
    unfold Sg.put at hx
    split at hx
    · rename_i hh; left; exact ⟨hh, by simpa using hx.symm⟩
    · rename_i hh; right; exact ⟨hh, hx⟩
  have hoth : Oth base (σ.put b ⟨w.heap.size, 0, c.size⟩) h w' := by
    refine hr.oth.step hle ?_ ?_ ?_
    · intro x e o h1 h2 h3
      rcases hput x e h1 with ⟨rfl, rfl⟩ | ⟨h4, h5⟩
      · rw [hob] at h2; cases h2; simp [Ob.isOth] at h3
      · exact ⟨h2, h5⟩
    · intro k o h1 _
      rw [hold k (Array.getElem?_eq_some_iff.1 h1).1]; exact h1
    · intro x e h1 h2
      rcases hput x e h1 with ⟨rfl, rfl⟩ | ⟨h4, h5⟩
      · left; exact ⟨.cells c el fr, by rw [hw.heap]; simp, rfl⟩
      · rw [h5] at h2; simp at h2
  refine ⟨?_, ?_, hr.fresh, ?_, hr.grp, ?_, hr.stack, ?_, ?_, hoth⟩
  · rw [hw.heap]; simp; have := hr.base_le; omega
  · intro x e hx
    rw [hw.heap]; simp
    rcases hput x e hx with ⟨rfl, rfl⟩ | ⟨_, h2⟩
    · exact ⟨hbn, by simp⟩
    · have := hr.dom _ _ h2; omega
  · intro x e cs' t' g hx hob' hl
    rcases hput x e hx with ⟨rfl, rfl⟩ | ⟨h1, h2⟩
    · rw [hob] at hob'; cases hob'
      refine ⟨⟨c, el, fr, by rw [hw.heap]; simp, rfl, by simpa using hlen, ?_, fun _ => hfr⟩, hr.base_le⟩
      intro i v hv
      obtain ⟨v', h3, h4⟩ := hrel i v hv
      exact ⟨v', by simpa using h3, h4.mono hle⟩
    · obtain ⟨⟨c0, el0, fr0, h3, h4, h5, h6, h7⟩, h8⟩ := hr.cell x e cs' t' g h2 hob' hl
      refine ⟨⟨c0, el0, fr0, by rw [hold _ (hr.dom _ _ h2).2]; exact h3, h4, h5, ?_, h7⟩, h8⟩
      intro i v hv
      obtain ⟨v', h9, h10⟩ := h6 i v hv
      exact ⟨v', h9, h10.mono hle⟩
  · intro x e cs' t' g hx hob'
    rcases hput x e hx with ⟨rfl, rfl⟩ | ⟨h1, h2⟩
    · rw [hob] at hob'; cases hob'; exact ⟨_, hx⟩
    · obtain ⟨e', he'⟩ := hr.gdom x e cs' t' g h2 hob'
      exact ⟨e', hle _ _ he'⟩
  · intro g l hg
    refine (hr.nest g l hg).imp_of_mem fun {b1 b2} m1 m2 hp => ?_
    intro e1 e2 cs1 cs2 t1 t2 g1 g2 s1 s2 o1 o2
    have n1 : b1 ≠ b := by
      rintro rfl; obtain ⟨_, _, hx⟩ := hr.stack g l hg _ m1; rw [hob] at hx; cases hx; rw [hgs] at hg; simp at hg
    have n2 : b2 ≠ b := by
      rintro rfl; obtain ⟨_, _, hx⟩ := hr.stack g l hg _ m2; rw [hob] at hx; cases hx; rw [hgs] at hg; simp at hg
    rcases hput b1 e1 s1 with ⟨e, _⟩ | ⟨_, s1'⟩
    · exact absurd e n1
    · rcases hput b2 e2 s2 with ⟨e, _⟩ | ⟨_, s2'⟩
      · exact absurd e n2
      · exact hp e1 e2 cs1 cs2 t1 t2 g1 g2 s1' s2' o1 o2
  · intro b1 b2 e1 e2 cs1 cs2 t1 t2 g1 g2 s1 s2 o1 o2 l1 l2 hrb
    rcases hput b1 e1 s1 with ⟨rfl, rfl⟩ | ⟨n1, s1'⟩
    · rcases hput b2 e2 s2 with ⟨rfl, rfl⟩ | ⟨n2, s2'⟩
      · rw [o1] at o2; cases o2; rfl
      · have := (hr.dom _ _ s2').2; simp at hrb; omega
    · rcases hput b2 e2 s2 with ⟨rfl, rfl⟩ | ⟨n2, s2'⟩
      · have := (hr.dom _ _ s1').2; simp at hrb; omega
      · exact hr.apart b1 b2 e1 e2 cs1 cs2 t1 t2 g1 g2 s1' s2' o1 o2 l1 l2 hrb

/-- The model makes a map now. -/
theorem HR.lateMap {base : Nat} {σ : Sg} {h : Hp} {w w' : World} (hr : HR base σ h w) {b : Nat}
    (hb : σ b = none) (hbn : b < h.next) (hob : h.ob b = some (.map [] 0)) (hgs : h.gs.get b = none)
    (hw : WNew w w' (.map #[] 0)) : HR base (σ.put b ⟨w.heap.size, 0, 0⟩) h w' := by
  have hle : σ.le (σ.put b ⟨w.heap.size, 0, 0⟩) := Sg.put_le hb
  have hold : ∀ k, k < w.heap.size → w'.heap[k]? = w.heap[k]? := by
    intro k hk; rw [hw.heap, Array.getElem?_push, if_neg (by omega)]
  have hput : ∀ x e, (σ.put b ⟨w.heap.size, 0, 0⟩) x = some e → (x = b ∧ e = ⟨w.heap.size, 0, 0⟩) ∨ (x ≠ b ∧ σ x = some e) := by
    intro x e hx
    unfold Sg.put at hx
    split at hx
    · rename_i hh; left; exact ⟨hh, by simpa using hx.symm⟩
    · rename_i hh; right; exact ⟨hh, hx⟩
  have hoth : Oth base (σ.put b ⟨w.heap.size, 0, 0⟩) h w' := by
    intro x e o h1 h2 h3
    rcases hput x e h1 with ⟨rfl, rfl⟩ | ⟨h4, h5⟩
    · rw [hob] at h2; cases h2
      refine ⟨hr.base_le, rfl, ⟨.map #[] 0, by rw [hw.heap]; simp, rfl, .nil⟩, fun b' e' hb' hrb => ?_⟩
      rcases hput b' e' hb' with ⟨rfl, _⟩ | ⟨_, h6⟩
      · rfl
      · have := (hr.dom _ _ h6).2; simp at hrb; omega
    · obtain ⟨p1, p2, ⟨r, p3, p4⟩, p5⟩ := hr.oth x e o h5 h2 h3
      refine ⟨p1, p2, ⟨r, by rw [hold _ (hr.dom _ _ h5).2]; exact p3, p4.mono hle⟩, fun b' e' hb' hrb => ?_⟩
      rcases hput b' e' hb' with ⟨rfl, rfl⟩ | ⟨_, h6⟩
      · have := (hr.dom _ _ h5).2; simp at hrb; omega
      · exact p5 b' e' h6 hrb
  refine ⟨?_, ?_, hr.fresh, ?_, hr.grp, ?_, hr.stack, ?_, ?_, hoth⟩
  · rw [hw.heap]; simp; have := hr.base_le; omega
  · intro x e hx
    rw [hw.heap]; simp
    rcases hput x e hx with ⟨rfl, rfl⟩ | ⟨_, h2⟩
    · exact ⟨hbn, by simp⟩
    · have := hr.dom _ _ h2; omega
  · intro x e cs' t' g hx hob' hl
    rcases hput x e hx with ⟨rfl, rfl⟩ | ⟨h1, h2⟩
    · rw [hob] at hob'; cases hob'
    · obtain ⟨⟨c0, el0, fr0, h3, h4, h5, h6, h7⟩, h8⟩ := hr.cell x e cs' t' g h2 hob' hl
      refine ⟨⟨c0, el0, fr0, by rw [hold _ (hr.dom _ _ h2).2]; exact h3, h4, h5, ?_, h7⟩, h8⟩
      intro i v hv
      obtain ⟨v', h9, h10⟩ := h6 i v hv
      exact ⟨v', h9, h10.mono hle⟩
  · intro x e cs' t' g hx hob'
    rcases hput x e hx with ⟨rfl, rfl⟩ | ⟨h1, h2⟩
    · rw [hob] at hob'; cases hob'
    · obtain ⟨e', he'⟩ := hr.gdom x e cs' t' g h2 hob'
      exact ⟨e', hle _ _ he'⟩
  · intro g l hg
    refine (hr.nest g l hg).imp_of_mem fun {b1 b2} m1 m2 hp => ?_
    intro e1 e2 cs1 cs2 t1 t2 g1 g2 s1 s2 o1 o2
    have n1 : b1 ≠ b := by
      rintro rfl; rw [hob] at o1; cases o1
    have n2 : b2 ≠ b := by
      rintro rfl; rw [hob] at o2; cases o2
    rcases hput b1 e1 s1 with ⟨e, _⟩ | ⟨_, s1'⟩
    · exact absurd e n1
    · rcases hput b2 e2 s2 with ⟨e, _⟩ | ⟨_, s2'⟩
      · exact absurd e n2
      · exact hp e1 e2 cs1 cs2 t1 t2 g1 g2 s1' s2' o1 o2
  · intro b1 b2 e1 e2 cs1 cs2 t1 t2 g1 g2 s1 s2 o1 o2 l1 l2 hrb
    rcases hput b1 e1 s1 with ⟨rfl, rfl⟩ | ⟨n1, s1'⟩
    · rw [hob] at o1; cases o1
    · rcases hput b2 e2 s2 with ⟨rfl, rfl⟩ | ⟨n2, s2'⟩
      · rw [hob] at o2; cases o2
      · exact hr.apart b1 b2 e1 e2 cs1 cs2 t1 t2 g1 g2 s1' s2' o1 o2 l1 l2 hrb

/-- What the places made ahead are like, seen from the heap where they began. -/
structure PreOk (P : Program) (ops : List Oper) (h0 h : Hp) (pre : List (Option Value)) (off : Nat) : Prop where
  next : h0.next ≤ h.next
  old : ∀ b, b < h0.next → h.ob b = h0.ob b
  gs : h.gs = h0.gs
  is : ∀ i v, pre.getD i none = some v → ∃ o ty z id, ops[off + i]? = some o ∧ o.op = .alloc ty ∧ zero? P ty = some z ∧ plainV 100 z = true ∧ v = ptr id 0 ∧ h0.next ≤ id ∧ id < h.next ∧
    h.ob id = some (.cells z.cells.toList ty (some id))
  inj : ∀ i j v, pre.getD i none = some v → pre.getD j none = some v → i = j
  all : ∀ i o, ops[off + i]? = some o → isAlloc o.op = true → ∃ v, pre.getD i none = some v

theorem preAlloc_spec {ops : List Oper} : ∀ (rest : List Oper) (off : Nat) (h0 h : Hp) (pre : List (Option Value)), rest = ops.drop off → preAlloc P rest h0 = some (pre, h) →
    (∀ b, h0.next ≤ b → h0.ob b = none) → PreOk P ops h0 h pre off
  | [], off, h0, h, pre, hr, hp, hf => by
    simp [preAlloc] at hp
    obtain ⟨rfl, rfl⟩ := hp
    refine ⟨Nat.le_refl _, fun _ _ => rfl, rfl, by simp, by simp, ?_⟩
    intro i o hi
    have : ops.length ≤ off := by simpa using hr.symm
    rw [List.getElem?_eq_none (by omega)] at hi; simp at hi
  | o :: rest, off, h0, h, pre, hr, hp, hf => by
    have ho : ops[off]? = some o := by
      have := congrArg (fun l : List Oper => l[0]?) hr
      simp at this; exact this.symm
    have hrest : rest = ops.drop (off + 1) := by
      have := congrArg List.tail hr
      simpa using this
    simp only [preAlloc] at hp
    split at hp
    · rename_i ty hop
      split at hp
      · rename_i z hz
        split at hp
        · rename_i hpl
          split at hp
          · rename_i l h' hl
            simp at hp
            obtain ⟨rfl, rfl⟩ := hp
            have ih := preAlloc_spec rest (off + 1) _ _ _ hrest hl (fun b hb => by
              rw [Hp.next_alloc] at hb
              rw [Hp.ob_alloc, if_neg (by omega)]
              exact hf b (by omega))
            have hn := ih.next
            rw [Hp.next_alloc] at hn
            refine ⟨by omega, ?_, by rw [ih.gs]; rfl, ?_, ?_, ?_⟩
            · intro b hb
              rw [ih.old b (by rw [Hp.next_alloc]; omega), Hp.ob_alloc, if_neg (by omega)]
            · intro i v hv
              cases i with
              | zero =>
                simp at hv; subst hv
                refine ⟨o, ty, z, h0.next, by simpa using ho, hop, hz, hpl, rfl, Nat.le_refl _, by omega, ?_⟩
                rw [ih.old _ (by rw [Hp.next_alloc]; omega), Hp.ob_alloc, if_pos rfl]
              | succ i =>
                simp at hv
                obtain ⟨o', ty', z', id, h1, h2, h3, h4, h5, h6, h7, h8⟩ := ih.is i v (by simpa using hv)
                exact ⟨o', ty', z', id, by rw [show off + (i + 1) = off + 1 + i by omega]; exact h1, h2, h3, h4, h5, by rw [Hp.next_alloc] at h6; omega, h7, h8⟩
            · intro i j v hi hj
              cases i with
              | zero =>
                cases j with
                | zero => rfl
                | succ j =>
                  exfalso
                  simp at hi hj
                  obtain ⟨o', ty', z', id, h1, h2, h3, h4, h5, h6, h7, h8⟩ := ih.is j v (by simpa using hj)
                  rw [← hi] at h5
                  simp [ptr] at h5
                  rw [Hp.next_alloc] at h6; omega
              | succ i =>
                cases j with
                | zero =>
                  exfalso
                  simp at hi hj
                  obtain ⟨o', ty', z', id, h1, h2, h3, h4, h5, h6, h7, h8⟩ := ih.is i v (by simpa using hi)
                  rw [← hj] at h5
                  simp [ptr] at h5
                  rw [Hp.next_alloc] at h6; omega
                | succ j =>
                  simp at hi hj
                  have := ih.inj i j v (by simpa using hi) (by simpa using hj)
                  omega
            · intro i o' hi ha
              cases i with
              | zero => exact ⟨_, rfl⟩
              | succ i =>
                obtain ⟨v, hv⟩ := ih.all i o' (by rw [show off + 1 + i = off + (i + 1) by omega]; exact hi) ha
                exact ⟨v, by simpa using hv⟩
          · simp at hp
        · simp at hp
      · simp at hp
    · rename_i hop
      split at hp
      · rename_i l h' hl
        simp at hp
        obtain ⟨rfl, rfl⟩ := hp
        have ih := preAlloc_spec rest (off + 1) _ _ _ hrest hl hf
        refine ⟨ih.next, ih.old, ih.gs, ?_, ?_, ?_⟩
        · intro i v hv
          cases i with
          | zero => simp at hv
          | succ i =>
            simp at hv
            obtain ⟨o', ty', z', id, h1, h2⟩ := ih.is i v (by simpa using hv)
            exact ⟨o', ty', z', id, by rw [show off + (i + 1) = off + 1 + i by omega]; exact h1, h2⟩
        · intro i j v hi hj
          cases i with
          | zero => simp at hi
          | succ i =>
            cases j with
            | zero => simp at hj
            | succ j =>
              simp at hi hj
              have := ih.inj i j v (by simpa using hi) (by simpa using hj)
              omega
        · intro i o' hi ha
          cases i with
          | zero =>
            rw [Nat.add_zero, ho] at hi; cases hi
            exfalso
            cases hh : o.op <;> simp [hh, isAlloc] at ha
            exact hop _ hh
          | succ i =>
            obtain ⟨v, hv⟩ := ih.all i o' (by rw [show off + 1 + i = off + (i + 1) by omega]; exact hi) ha
            exact ⟨v, by simpa using hv⟩
      · simp at hp

theorem HR.preAlloc {base : Nat} {σ : Sg} {w : World} : ∀ (ops : List Oper) {h h' : Hp} {pre : List (Option Value)}, HR base σ h w → preAlloc P ops h = some (pre, h') → HR base σ h' w
  | [], h, h', pre, hr, hp => by simp [Cn.preAlloc] at hp; obtain ⟨rfl, rfl⟩ := hp; exact hr
  | o :: rest, h, h', pre, hr, hp => by
    simp only [Cn.preAlloc] at hp
    split at hp
    · split at hp
      · split at hp
        · split at hp
          · rename_i hl; simp at hp; obtain ⟨rfl, rfl⟩ := hp; exact HR.preAlloc rest (hr.ghost _ _) hl
          · simp at hp
        · simp at hp
      · simp at hp
    · split at hp
      · rename_i hl; simp at hp; obtain ⟨rfl, rfl⟩ := hp; exact HR.preAlloc rest hr hl
      · simp at hp
end
end Go.Cn

/- The canonical semantics: a region that draws its order: every order comes to what the canonical order comes to. -/
set_option linter.unusedVariables false
set_option linter.unusedSimpArgs false
namespace Go.Cn
section
variable {P : Program}

/-! ### Bits -/
theorem testBit_fold (l : List Nat) : ∀ (s j : Nat), (l.foldl (fun s t => s ||| 2 ^ t) s).testBit j = (s.testBit j || decide (j ∈ l)) := by
  induction l with
  | nil => intro s j; simp
  | cons x l ih =>
    intro s j
    simp only [List.foldl_cons, ih, Nat.testBit_or, Nat.testBit_two_pow, List.mem_cons]
    by_cases h : x = j
    · subst h; simp
    · have : ¬ j = x := fun e => h e.symm
      simp [h, this]

theorem testBit_bitsOf (l : List Nat) (j : Nat) : (bitsOf l).testBit j = decide (j ∈ l) := by
  unfold bitsOf; simp only [pw2_eq]; rw [testBit_fold]; simp

theorem sub_bits {a b : Nat} (h : (a &&& b) = a) {j : Nat} (hj : a.testBit j = true) : b.testBit j = true := by
  have := congrArg (fun x : Nat => x.testBit j) h
  simp [Nat.testBit_and, hj] at this
  exact this

theorem and_zero {a b : Nat} (h : (a &&& b) = 0) {j : Nat} (ha : a.testBit j = true) (hb : b.testBit j = true) : False := by
  have := congrArg (fun x : Nat => x.testBit j) h
  simp [Nat.testBit_and, ha, hb] at this

/-! ### The table -/
theorem infosFrom_spec (ops : List Oper) : ∀ (rest : List Oper) (acc : List Inf), (infosFrom P ops rest acc).length = acc.length + rest.length ∧
    (∀ i, i < acc.length → (infosFrom P ops rest acc)[i]? = acc[i]?) ∧
    (∀ i o, rest[i]? = some o → (infosFrom P ops rest acc)[acc.length + i]? = some (infOf P ops ((infosFrom P ops rest acc).take (acc.length + i)) o))
  | [], acc => by simp [infosFrom]
  | o :: rest, acc => by
    obtain ⟨h1, h2, h3⟩ := infosFrom_spec ops rest (acc ++ [infOf P ops acc o])
    simp only [infosFrom]
    simp only [List.length_append, List.length_cons, List.length_nil] at h1 h2 h3
    refine ⟨by rw [h1, List.length_cons]; omega, ?_, ?_⟩
    · intro i hi
      rw [h2 i (by omega), List.getElem?_append_left hi]
    · intro i o' hi
      cases i with
      | zero =>
        simp at hi; subst hi
        have htake : (infosFrom P ops rest (acc ++ [infOf P ops acc o])).take acc.length = acc := by
          apply List.ext_getElem?
          intro j
          rw [List.getElem?_take]
          split
          · rename_i hj; rw [h2 j (by omega), List.getElem?_append_left hj]
          · rename_i hj; rw [List.getElem?_eq_none (by omega)]
        rw [Nat.add_zero, htake, h2 _ (by omega), List.getElem?_append_right (by omega)]
        simp
      | succ i =>
        simp at hi
        have := h3 i o' hi
        rw [show acc.length + (i + 1) = acc.length + (0 + 1) + i by omega]
        exact this

theorem infos_length (ops : List Oper) : (infos P ops).length = ops.length := by
  have := (infosFrom_spec (P := P) ops ops []).1
  simpa [infos] using this

theorem infos_at {ops : List Oper} {i : Nat} {o : Oper} (h : ops[i]? = some o) : (infos P ops)[i]? = some (infOf P ops ((infos P ops).take i) o) := by
  have := (infosFrom_spec (P := P) ops ops []).2.2 i o h
  simpa [infos] using this

/-- Which operations an operation names as ahead of it. -/
def ahead (o : Oper) : List Nat := (o.after.toList.filter (Region.binds .any)).map (·.on)

theorem am_sound {ops : List Oper} {D : Nat → Prop} (hD : ∀ i o, ops[i]? = some o → D i → ∀ j ∈ ahead o, D j) :
    ∀ (n i : Nat), i < n → ∀ f o, (infos P ops)[i]? = some f → ops[i]? = some o → (∀ j ∈ ahead o, D j) → ∀ j, f.am.testBit j = true → D j
  | 0, i, h => by omega
  | n + 1, i, hin => by
    intro f o hf ho hi j hj
    have ih := am_sound hD n
    rw [infos_at ho] at hf
    cases hf
    simp only [infOf] at hj
    have key : ∀ (l : List Edge) (s : Nat), (∀ e ∈ l, D e.on) → (∀ j, s.testBit j = true → D j) →
        ∀ j, (l.foldl (fun s e => s ||| 2 ^ e.on ||| ((((infos P ops).take i)[e.on]?).map (·.am)).getD 0) s).testBit j = true → D j := by
      intro l
      induction l with
      | nil => intro s _ h2 j hj; exact h2 j hj
      | cons e l ihl =>
        intro s h1 h2 j hj
        simp only [List.foldl_cons] at hj
        refine ihl _ (fun e' he' => h1 e' (by simp [he'])) ?_ j hj
        intro j hj
        simp only [Nat.testBit_or, Nat.testBit_two_pow, Bool.or_eq_true, decide_eq_true_eq] at hj
        rcases hj with (hj | hj) | hj
        · exact h2 j hj
        · rw [← hj]; exact h1 e (by simp)
        · rw [List.getElem?_take] at hj
          split at hj
          · rename_i hlt
            cases hfe : (infos P ops)[e.on]? with
            | none => simp [hfe] at hj
            | some fe =>
              simp [hfe] at hj
              have hlen : e.on < ops.length := by rw [← infos_length (P := P)]; exact (List.getElem?_eq_some_iff.1 hfe).1
              have hoe := List.getElem?_eq_getElem hlen
              refine ih e.on (by omega) fe _ hfe hoe ?_ j hj
              exact hD e.on _ hoe (h1 e (by simp))
          · simp at hj
    refine key _ 0 ?_ (by simp) j hj
    intro e he
    exact hi _ (List.mem_map.2 ⟨e, he, rfl⟩)

/-! ### The order -/
/-- What 'orderOk' says of the operation that stands next. -/
structure StepOk (P : Program) (ops : List Oper) (done : List Nat) (i : Nat) (o : Oper) (f : Inf) : Prop where
  op : ops[i]? = some o
  inf : (infos P ops)[i]? = some f
  new : i ∉ done
  ahead : ∀ j ∈ ahead o, j ∈ done
  effs : ∀ j ∈ done, ∀ oj, ops[j]? = some oj → isEff P oj.op = true → f.am.testBit j = true
  clash : ∀ j ∈ done, ∀ g, (infos P ops)[j]? = some g → clash g f = true → f.am.testBit j = true

structure Ord (P : Program) (ops : List Oper) (rest done : List Nat) (doneM effs : Nat) : Prop where
  ok : orderOk (infos P ops) rest done doneM effs = true
  doneM : ∀ j, doneM.testBit j = decide (j ∈ done)
  effs : ∀ j, effs.testBit j = true ↔ j ∈ done ∧ ∃ o, ops[j]? = some o ∧ isEff P o.op = true

theorem Ord.step {ops : List Oper} {i : Nat} {rest done : List Nat} {doneM effs : Nat} (h : Ord P ops (i :: rest) done doneM effs) :
    ∃ o f, StepOk P ops done i o f ∧ Ord P ops rest (i :: done) (doneM ||| 2 ^ i) (if f.eff then effs ||| 2 ^ i else effs) ∧ f.eff = isEff P o.op := by
  have hok := h.ok
  simp only [orderOk] at hok
  cases hf : (infos P ops)[i]? with
  | none => simp [hf] at hok
  | some f =>
    simp only [hf, Bool.and_eq_true, beq_iff_eq, Bool.not_eq_true'] at hok
    obtain ⟨⟨⟨⟨h1, h2⟩, h3⟩, h4⟩, h5⟩ := hok
    have hlen : i < ops.length := by rw [← infos_length (P := P)]; exact (List.getElem?_eq_some_iff.1 hf).1
    have ho := List.getElem?_eq_getElem hlen
    have hfi := infos_at (P := P) ho
    rw [hf] at hfi
    have hfeq : f = infOf P ops ((infos P ops).take i) ops[i] := by simpa using hfi
    have heff : f.eff = isEff P ops[i].op := by rw [hfeq]; rfl
    refine ⟨ops[i], f, ⟨ho, hf, ?_, ?_, ?_, ?_⟩, ⟨h5, ?_, ?_⟩, heff⟩
    · have := h.doneM i
      rw [h1] at this; simpa using this.symm
    · intro j hj
      have hem : f.em.testBit j = true := by
        rw [hfeq]; simp only [infOf]; rw [testBit_bitsOf]; simpa [Cn.ahead] using hj
      have := sub_bits h2 hem
      rw [h.doneM] at this; simpa using this
    · intro j hj oj hoj he
      have : effs.testBit j = true := (h.effs j).2 ⟨hj, oj, hoj, he⟩
      exact sub_bits h3 this
    · intro j hj g hg hc
      have := List.all_eq_true.1 h4 j hj
      simp only [hg, Bool.or_eq_true, Bool.not_eq_true'] at this
      rcases this with hh | hh
      · rw [hc] at hh; simp at hh
      · exact hh
    · intro j
      rw [Nat.testBit_or, Nat.testBit_two_pow, h.doneM]
      by_cases hj : i = j
      · subst hj; simp
      · have : ¬ j = i := fun e => hj e.symm
        simp [hj, this]
    · intro j
      cases he : f.eff with
      | true =>
        simp only [if_true, Nat.testBit_or, Nat.testBit_two_pow, Bool.or_eq_true, decide_eq_true_eq, h.effs]
        constructor
        · rintro (⟨h6, h7⟩ | rfl)
          · exact ⟨by simp [h6], h7⟩
          · exact ⟨by simp, _, ho, by rw [← heff, he]⟩
        · rintro ⟨h6, h7⟩
          simp at h6
          rcases h6 with rfl | h6
          · right; rfl
          · left; exact ⟨h6, h7⟩
      | false =>
        simp only [Bool.false_eq_true, if_false, h.effs]
        constructor
        · rintro ⟨h6, h7⟩; exact ⟨by simp [h6], h7⟩
        · rintro ⟨h6, o', ho', h7⟩
          simp at h6
          rcases h6 with rfl | h6
          · rw [ho] at ho'; cases ho'; rw [← heff, he] at h7; simp at h7
          · exact ⟨h6, o', ho', h7⟩

theorem Ord.cover {ops : List Oper} : ∀ {rest done : List Nat} {doneM effs : Nat}, Ord P ops rest done doneM effs → ∀ i, i < ops.length → i ∈ done ∨ i ∈ rest
  | [], done, doneM, effs, h, i, hi => by
    left
    have hok := h.ok
    simp only [orderOk, beq_iff_eq, infos_length] at hok
    have := h.doneM i
    rw [hok, Nat.testBit_two_pow_sub_one] at this
    simpa [hi] using this.symm
  | j :: rest, done, doneM, effs, h, i, hi => by
    obtain ⟨o, f, _, h2, _⟩ := h.step
    rcases h2.cover i hi with h3 | h3
    · simp at h3
      rcases h3 with rfl | h3
      · right; simp
      · left; exact h3
    · right; simp [h3]
end
end Go.Cn

/- The canonical semantics: a region that draws its order: the state in the middle of a drawn order. -/
set_option linter.unusedVariables false
set_option linter.unusedSimpArgs false
namespace Go.Cn
section
variable {P : Program}

/-- An operation that the canonical run has done, and what it wrote. -/
structure Ent where
  idx : Nat
  o : Oper
  v : Value

def tmOf (tm0 : List Value) : List Ent → List Value
  | [] => tm0
  | e :: es => put (tmOf tm0 es) e.o.dst e.v

def lookD (tm0 : List Value) (p : Nat → Bool) (t : Tmp) : List Ent → Value
  | [] => tm0.getD t undef
  | e :: es => if p e.idx = true ∧ e.o.dst = some t ∧ t < tm0.length then e.v else lookD tm0 p t es

theorem put_length (tm : List Value) (d : Option Tmp) (v : Value) : (put tm d v).length = tm.length := by cases d <;> simp [Cn.put]

theorem tmOf_length (tm0 : List Value) : ∀ es, (tmOf tm0 es).length = tm0.length
  | [] => rfl
  | e :: es => by simp only [tmOf]; rw [put_length, tmOf_length tm0 es]

theorem put_get (tm : List Value) (d : Option Tmp) (v : Value) (t : Tmp) : (put tm d v).getD t undef = if d = some t ∧ t < tm.length then v else tm.getD t undef := by
  cases d with
  | none => simp [Cn.put]
  | some d =>
    simp only [Cn.put, Option.some.injEq]
    by_cases hd : d = t
    · subst hd
      by_cases hl : d < tm.length
      · rw [if_pos ⟨rfl, hl⟩, List.getD_eq_getElem?_getD, List.getElem?_set_self hl]; rfl
      · rw [if_neg (fun h => hl h.2), List.set_eq_of_length_le (Nat.le_of_not_lt hl)]
    · rw [if_neg (fun h => hd h.1), List.getD_eq_getElem?_getD, List.getElem?_set_ne hd, List.getD_eq_getElem?_getD]

theorem tmOf_get (tm0 : List Value) (t : Tmp) : ∀ es, (tmOf tm0 es).getD t undef = lookD tm0 (fun _ => true) t es
  | [] => rfl
  | e :: es => by
    simp only [tmOf, lookD, put_get, tmOf_length, tmOf_get tm0 t es, true_and]

def Chain (P : Program) (L : List Oper) : List Ent → Prop
  | [] => True
  | e :: es => (∃ f, StepOk P L (es.map (·.idx)) e.idx e.o f) ∧ Chain P L es

theorem Chain.mem {L : List Oper} : ∀ {es : List Ent}, Chain P L es → ∀ e ∈ es, L[e.idx]? = some e.o
  | [], _, e, h => by simp at h
  | x :: es, h, e, he => by
    simp at he
    rcases he with rfl | he
    · obtain ⟨⟨f, hf⟩, _⟩ := h; exact hf.op
    · exact Chain.mem h.2 e he

/-- Two operations where one writes a slot that the other looks at clash. -/
theorem inf_of {L : List Oper} {i : Nat} {o : Oper} {f : Inf} (ho : L[i]? = some o) (hf : (infos P L)[i]? = some f) :
    (∀ t, f.dm.testBit t = decide (o.dst = some t)) ∧ (∀ t, f.lm.testBit t = decide (t ∈ Oper.looksAt L.toArray o)) := by
  rw [infos_at ho] at hf
  cases hf
  refine ⟨fun t => ?_, fun t => ?_⟩
  · simp only [infOf, testBit_bitsOf]
    cases o.dst with
    | none => simp
    | some d => simp [eq_comm]
  · simp only [infOf, testBit_bitsOf]

theorem clash_wl {f g : Inf} {t : Nat} (h1 : f.dm.testBit t = true) (h2 : g.lm.testBit t = true) : clash f g = true := by
  unfold clash
  simp only [Bool.or_eq_true, Bool.not_eq_true']
  left
  rw [beq_eq_false_iff_ne]
  intro h
  exact and_zero h h1 (by simp [Nat.testBit_or, h2])

theorem clash_lw {f g : Inf} {t : Nat} (h1 : f.lm.testBit t = true) (h2 : g.dm.testBit t = true) : clash f g = true := by
  unfold clash
  simp only [Bool.or_eq_true, Bool.not_eq_true']
  right
  rw [beq_eq_false_iff_ne]
  intro h
  exact and_zero h h2 h1

theorem clash_ww {f g : Inf} {t : Nat} (h1 : f.dm.testBit t = true) (h2 : g.dm.testBit t = true) : clash f g = true := by
  unfold clash
  simp only [Bool.or_eq_true, Bool.not_eq_true']
  left
  rw [beq_eq_false_iff_ne]
  intro h
  exact and_zero h h1 (by simp [Nat.testBit_or, h2])

/-- The listed operations are closed under what they name as ahead of them. -/
def Closed (L : List Oper) (lst : Nat → Bool) : Prop := ∀ i o, L[i]? = some o → lst i = true → ∀ j ∈ ahead o, lst j = true

theorem Closed.am {L : List Oper} {lst : Nat → Bool} (hc : Closed L lst) {i : Nat} {o : Oper} {f : Inf} (ho : L[i]? = some o) (hf : (infos P L)[i]? = some f) (ha : ∀ j ∈ ahead o, lst j = true) {j : Nat} (hj : f.am.testBit j = true) : lst j = true :=
  am_sound (P := P) (D := fun i => lst i = true) hc (i + 1) i (Nat.lt_succ_self i) f o hf ho ha j hj

/-- Behind a clash stands an operation that is listed only if the other is. -/
theorem later_listed {L : List Oper} {lst : Nat → Bool} (hc : Closed L lst) {done : List Nat} {i j : Nat} {o oj : Oper} {f g : Inf} (hs : StepOk P L done i o f) (hj : j ∈ done) (hg : (infos P L)[j]? = some g)
    (hcl : clash g f = true) (hl : lst i = true) : lst j = true :=
  hc.am hs.op hs.inf (hc i o hs.op hl) (hs.clash j hj g hg hcl)

/-- (B) What stands next looks at slots that listed operations wrote. -/
theorem look_next {L : List Oper} {lst : Nat → Bool} (hc : Closed L lst) {tm0 : List Value} {t : Tmp} {i : Nat} {o : Oper} {f : Inf} (ho : L[i]? = some o) (hf : (infos P L)[i]? = some f) (ha : ∀ j ∈ ahead o, lst j = true)
    (ht : t ∈ Oper.looksAt L.toArray o) : ∀ {es : List Ent}, Chain P L es → (∀ e ∈ es, ∀ g, (infos P L)[e.idx]? = some g → clash g f = true → f.am.testBit e.idx = true) →
    lookD tm0 lst t es = lookD tm0 (fun _ => true) t es
  | [], _, _ => rfl
  | e :: es, hch, hcl => by
    have ih := look_next hc (tm0 := tm0) ho hf ha ht hch.2 (fun e' he' => hcl e' (by simp [he']))
    simp only [lookD, ih, true_and]
    by_cases hd : e.o.dst = some t
    · obtain ⟨⟨fe, hse⟩, _⟩ := hch
      have h1 := ((inf_of hse.op hse.inf).1 t)
      have h2 := ((inf_of ho hf).2 t)
      rw [hd] at h1
      simp at h1
      simp [ht] at h2
      have hb := hcl e (by simp) fe hse.inf (clash_wl h1 h2)
      have hl := hc.am ho hf ha hb
      simp [hl]
    · simp [hd]

/-- (A) An operation that is not listed yet and may come now: it looks at slots as the canonical run had them then. -/
theorem look_mid {L : List Oper} {lst : Nat → Bool} (hc : Closed L lst) {tm0 : List Value} {t : Tmp} {e : Ent} (hl : lst e.idx = false) (ha : ∀ j ∈ ahead e.o, lst j = true) (ht : t ∈ Oper.looksAt L.toArray e.o) :
    ∀ {hist : List Ent}, Chain P L hist → ∀ {pre es : List Ent}, hist = pre ++ e :: es → lookD tm0 lst t hist = lookD tm0 (fun _ => true) t es
  | [], _, pre, es, h => by simp at h
  | x :: hist, hch, pre, es, h => by
    cases pre with
    | nil =>
      simp at h
      obtain ⟨rfl, rfl⟩ := h
      obtain ⟨⟨f, hs⟩, hch2⟩ := hch
      simp only [lookD, hl, Bool.false_eq_true, false_and, if_false]
      exact look_next hc hs.op hs.inf ha ht hch2 (fun e' he' g hg hcl => hs.clash e'.idx (List.mem_map.2 ⟨e', he', rfl⟩) g hg hcl)
    | cons y pre =>
      simp at h
      obtain ⟨rfl, rfl⟩ := h
      obtain ⟨⟨f, hs⟩, hch2⟩ := hch
      have ih := look_mid hc (tm0 := tm0) hl ha ht hch2 rfl
      simp only [lookD]
      rw [ih, if_neg ?_]
      rintro ⟨h1, h2, h3⟩
      have hem : e ∈ pre ++ e :: es := by simp
      have heo := hch2.mem e hem
      have hlen : e.idx < (infos P L).length := by rw [infos_length]; exact (List.getElem?_eq_some_iff.1 heo).1
      have hg := List.getElem?_eq_getElem hlen
      have hdx := ((inf_of hs.op hs.inf).1 t)
      rw [h2] at hdx; simp at hdx
      have hle := ((inf_of heo hg).2 t)
      simp [ht] at hle
      have := later_listed hc (oj := e.o) hs (List.mem_map.2 ⟨e, hem, rfl⟩) hg (clash_lw hle hdx) h1
      rw [hl] at this; simp at this

theorem lookD_congr {tm0 : List Value} {p q : Nat → Bool} {t : Tmp} : ∀ {es : List Ent}, (∀ e ∈ es, p e.idx = q e.idx) → lookD tm0 p t es = lookD tm0 q t es
  | [], _ => rfl
  | e :: es, h => by simp only [lookD, h e (by simp), lookD_congr (es := es) fun e' he' => h e' (by simp [he'])]

/-- (C) An operation of the middle is listed: its slot alone changes. -/
theorem look_put {L : List Oper} {lst lst' : Nat → Bool} (hc : Closed L lst) {tm0 : List Value} {t : Tmp} {e : Ent} (hl : lst e.idx = false) (hl' : lst' e.idx = true) (hne : ∀ i, i ≠ e.idx → lst' i = lst i) :
    ∀ {hist : List Ent}, Chain P L hist → e ∈ hist → lookD tm0 lst' t hist = if e.o.dst = some t ∧ t < tm0.length then e.v else lookD tm0 lst t hist
  | [], _, h => by simp at h
  | x :: hist, hch, h => by
    obtain ⟨⟨f, hs⟩, hch2⟩ := hch
    simp at h
    by_cases hxe : x.idx = e.idx
    · have hxe' : x = e := by
        rcases h with h | h
        · exact h.symm
        · exfalso; exact hs.new (by rw [hxe]; exact List.mem_map.2 ⟨e, h, rfl⟩)
      subst hxe'
      have hrest : lookD tm0 lst' t hist = lookD tm0 lst t hist := lookD_congr fun e' he' => hne _ fun heq => hs.new (by rw [← heq]; exact List.mem_map.2 ⟨e', he', rfl⟩)
      simp only [lookD, hl, hl', true_and, Bool.false_eq_true, false_and, if_false, hrest]
    · have he : e ∈ hist := by rcases h with h | h; exact absurd (by rw [h]) hxe; exact h
      have ih := look_put hc (tm0 := tm0) (t := t) hl hl' hne hch2 he
      simp only [lookD, hne _ hxe, ih]
      by_cases hx : lst x.idx = true ∧ x.o.dst = some t ∧ t < tm0.length
      · simp only [hx, and_self, if_true]
        rw [if_neg]
        rintro ⟨h1, h2⟩
        have heo := hch2.mem e he
        have hlen : e.idx < (infos P L).length := by rw [infos_length]; exact (List.getElem?_eq_some_iff.1 heo).1
        have hg := List.getElem?_eq_getElem hlen
        have hdx := ((inf_of hs.op hs.inf).1 t)
        rw [hx.2.1] at hdx; simp at hdx
        have hde := ((inf_of heo hg).1 t)
        rw [h1] at hde; simp at hde
        have := later_listed hc (oj := e.o) hs (List.mem_map.2 ⟨e, he, rfl⟩) hg (clash_ww hde hdx) hx.1
        rw [hl] at this; simp at this
      · simp only [hx, if_false]

/-! ### The slots that an operation does not look at are forgotten -/
def maskTm (looks : List Tmp) (tm : List Value) : List Value := (List.range tm.length).map fun t => if looks.contains t then tm.getD t undef else unk

theorem maskTm_get (looks : List Tmp) (tm : List Value) (t : Tmp) : (maskTm looks tm).getD t undef = if t < tm.length then (if looks.contains t then tm.getD t undef else unk) else undef := by
  unfold maskTm
  rw [List.getD_eq_getElem?_getD, List.getElem?_map]
  by_cases h : t < tm.length
  · rw [List.getElem?_range h, if_pos h]; rfl
  · rw [List.getElem?_eq_none (by simpa using h), if_neg h]; rfl

theorem maskTm_rel {σ : Sg} {looks : List Tmp} {tm : List Value} {tmps : Array Value} (hs : tm.length = tmps.size) (h : ∀ t ∈ looks, VRel σ (tm.getD t undef) (tmps.getD t undef)) : TRel σ (maskTm looks tm) tmps := by
  refine ⟨by simp [maskTm, hs], fun t => ?_⟩
  rw [maskTm_get]
  by_cases hl : t < tm.length
  · rw [if_pos hl]
    split
    · rename_i hc; exact h t (by simpa using hc)
    · exact .unk _
  · rw [if_neg hl, Array.getD_eq_getD_getElem?, Array.getElem?_eq_none (by rw [← hs]; exact Nat.le_of_not_lt hl)]
    exact VRel.undef σ

theorem maskTm_agree {L : Array Oper} {o : Oper} {tm : List Value} : Agree tm (maskTm (Oper.looksAt L o) tm) o.op := by
  intro x hx
  cases x with
  | tmp t =>
    have hm : t ∈ Oper.looksAt L o := by
      unfold Oper.looksAt
      refine List.mem_append.2 (.inl (List.mem_filterMap.2 ⟨.tmp t, hx, rfl⟩))
    simp only [ev]
    rw [maskTm_get]
    by_cases hl : t < tm.length
    · rw [if_pos hl, if_pos (by simpa using hm)]
    · rw [if_neg hl, List.getD_eq_getElem?_getD, List.getElem?_eq_none (Nat.le_of_not_lt hl)]; rfl
  | _ => rfl

theorem maskTm_wants {L : List Oper} {o : Oper} {tm : List Value} : wants L (maskTm (Oper.looksAt L.toArray o) tm) o = wants L tm o := by
  unfold wants
  cases hg : o.guard with
  | none => rfl
  | some jw =>
    obtain ⟨j, want⟩ := jw
    simp only
    cases hd : (L[j]?).bind (·.dst) with
    | none => rfl
    | some d =>
      simp only
      have hm : d ∈ Oper.looksAt L.toArray o := by
        unfold Oper.looksAt
        refine List.mem_append.2 (.inr ?_)
        rw [hg]
        simp only
        have : (L.toArray[j]?).bind (·.dst) = some d := by simpa using hd
        rw [this]; simp
      rw [maskTm_get]
      by_cases hl : d < tm.length
      · rw [if_pos hl, if_pos (by simpa using hm)]
      · rw [if_neg hl, List.getD_eq_getElem?_getD, List.getElem?_eq_none (Nat.le_of_not_lt hl)]; rfl

theorem payAll_spec {am : Nat} {h : Hp} {owed : List Owed} {r : Prop} (hp : payAll P alP am h owed r) : r ∧ ∀ d ∈ owed, am.testBit d.idx = true ∨ rop P d.tm d.op h = some d.v := by
  induction owed with
  | nil => exact ⟨hp, by simp⟩
  | cons d owed ih =>
    unfold payAll at hp
    simp only [List.foldr_cons] at hp
    by_cases hb : am.testBit d.idx = true
    · rw [if_pos hb] at hp
      obtain ⟨h1, h2⟩ := ih hp
      exact ⟨h1, fun x hx => by simp at hx; rcases hx with rfl | hx; exact .inl hb; exact h2 x hx⟩
    · rw [if_neg hb] at hp
      obtain ⟨h0, hp⟩ := hp
      obtain ⟨h1, h2⟩ := ih hp
      exact ⟨h1, fun x hx => by simp at hx; rcases hx with rfl | hx; exact .inr h0; exact h2 x hx⟩
end
end Go.Cn

/- The canonical semantics: a region that draws its order: the law. -/
set_option linter.unusedVariables false
set_option linter.unusedSimpArgs false
namespace Go.Cn
section
variable {P : Program}

/-! ### A block more does not change what is read -/
theorem ob_some_ne {h : Hp} (hf : h.ob h.next = none) {b : Nat} {o : Ob} (ho : h.ob b = some o) : b ≠ h.next := by rintro rfl; rw [hf] at ho; simp at ho

theorem cellsAt_alloc {h : Hp} (hf : h.ob h.next = none) {b o n : Nat} {x : List Value} (o' : Ob) (hc : h.cellsAt b o n = some x) : (h.newOb o').cellsAt b o n = some x := by
  unfold Hp.cellsAt at hc ⊢
  rw [Hp.ob_newOb]
  split at hc
  · rename_i c t' g hob
    rw [if_neg (ob_some_ne hf hob), hob]
    exact hc
  · simp at hc

theorem mapOf_alloc {h : Hp} (hf : h.ob h.next = none) {m : Value} {x : List MapEntry} (o' : Ob) (hm : mapOf h m = some x) : mapOf (h.newOb o') m = some x := by
  unfold mapOf at hm ⊢
  split at hm
  · exact hm
  · split at hm
    · rename_i b _ es c hob
      simp only [Hp.ob_newOb, if_neg (ob_some_ne hf hob), hob]; exact hm
    · simp at hm
  · simp at hm

theorem cload_alloc {h : Hp} (hf : h.ob h.next = none) {t : TypeId} {a v : Value} (o' : Ob) (hv : cload P t a h = some v) : cload P t a (h.newOb o') = some v := by
  unfold cload at hv
  unfold cload
  split at hv
  · split at hv
    · rename_i h1 h2
      try simp only [h1, h2]
      simp only [Option.map_eq_some_iff] at hv ⊢
      obtain ⟨c, hc, rfl⟩ := hv
      exact ⟨c, cellsAt_alloc hf _ hc, rfl⟩
    · rename_i h1 h2
      try simp only [h1, h2]
      split at hv
      · rename_i x hx; rw [cellsAt_alloc hf _ hx]; exact hv
      · simp at hv
    · simp at hv
  · simp at hv

theorem clookup_alloc {h : Hp} (hf : h.ob h.next = none) {t : TypeId} {x ix v : Value} {ok : Bool} (o' : Ob) (hv : clookup P t x ix ok h = some v) : clookup P t x ix ok (h.newOb o') = some v := by
  unfold clookup at hv
  unfold clookup
  split at hv
  · rename_i kt et hu
    try simp only [hu]
    split at hv
    · simp at hv
    · rename_i hk
      rw [if_neg hk]
      split at hv
      · simp at hv
      · rename_i es hm
        rw [mapOf_alloc hf _ hm]; exact hv
  · simp at hv

theorem centry_alloc {h : Hp} (hf : h.ob h.next = none) {x v : Value} (o' : Ob) (hv : centry x h = some v) : centry x (h.newOb o') = some v := by
  unfold centry at hv
  unfold centry
  split at hv
  · split at hv
    · rename_i m s0 seen st hob
      rw [Hp.ob_newOb, if_neg (ob_some_ne hf hob), hob]
      try simp only
      split at hv
      · rename_i stamp es clock hs hm
        rw [Hp.ob_newOb, if_neg (ob_some_ne hf hm), hm, hs]; exact hv
      · simp at hv
    · simp at hv
  · simp at hv

theorem rop_alloc {h : Hp} (hf : h.ob h.next = none) {tm : List Value} {op : Op} {v : Value} (o' : Ob) (hv : rop P tm op h = some v) : rop P tm op (h.newOb o') = some v := by
  unfold rop at hv ⊢
  split at hv
  · exact cload_alloc hf _ hv
  · exact clookup_alloc hf _ hv
  · exact centry_alloc hf _ hv
  · split at hv
    · rename_i hl
      simp only [hl, if_true]
      split at hv
      · rename_i e
        try rw [e]
        simp only [Option.map_eq_some_iff] at hv ⊢
        obtain ⟨es, hm, rfl⟩ := hv
        exact ⟨es, mapOf_alloc hf _ hm, rfl⟩
      · simp at hv
    · simp at hv
  · split at hv
    · rename_i h1 h2 h3; try simp only [h1, h2, h3]
      exact hv
    · rename_i h1 h2 h3
      try simp only [h1, h2, h3]
      split at hv
      · rename_i h4
        try simp only [h4]
        split at hv
        · rename_i hc; rw [cellsAt_alloc hf _ hc]; exact hv
        · simp at hv
      · simp at hv
    · simp at hv
  · simp at hv

/-- A block that the canonical run has made and the model has not: of which operation; its number, and what it holds. -/
structure Gh where
  idx : Nat
  id : Nat
  c : Option (List Value × TypeId)

/-- What is known of an operation that the canonical run has done and the model has not. -/
structure EntOk (P : Program) (L : List Oper) (pre : List (Option Value)) (owed : List Owed) (gh : List Gh) (h : Hp) (e : Ent) (tm : List Value) : Prop where
  noEff : isEff P e.o.op = false
  want : ∃ b, wants L tm e.o = some b ∧ (b = false → e.v = undef) ∧ (b = true →
    pre.getD e.idx none = some e.v ∨ (pre.getD e.idx none = none ∧ kind P e.o.op = .pure ∧ pop P tm e.o.op = some e.v) ∨
      (pre.getD e.idx none = none ∧ kind P e.o.op = .read ∧ rop P tm e.o.op h = some e.v ∧ ⟨e.idx, e.o.op, tm, e.v⟩ ∈ owed) ∨
      (pre.getD e.idx none = none ∧ kind P e.o.op = .mk ∧ ∃ m id, mkOf P tm e.o.op = some m ∧ e.v = m.2 id ∧ (⟨e.idx, id, m.1⟩ : Gh) ∈ gh))

def EntsOk (P : Program) (L : List Oper) (pre : List (Option Value)) (owed : List Owed) (gh : List Gh) (h : Hp) (lst : Nat → Bool) (tm0 : List Value) : List Ent → Prop
  | [] => True
  | e :: es => (lst e.idx = false → EntOk P L pre owed gh h e (tmOf tm0 es)) ∧ EntsOk P L pre owed gh h lst tm0 es

theorem EntsOk.mem {L : List Oper} {pre : List (Option Value)} {owed : List Owed} {gh : List Gh} {h : Hp} {lst : Nat → Bool} {tm0 : List Value} : ∀ {hist : List Ent}, EntsOk P L pre owed gh h lst tm0 hist → ∀ {pr es : List Ent} {e : Ent}, hist = pr ++ e :: es → lst e.idx = false →
    EntOk P L pre owed gh h e (tmOf tm0 es)
  | [], _, pr, es, e, he, _ => by simp at he
  | x :: hist, hok, pr, es, e, he, hl => by
    cases pr with
    | nil => simp at he; obtain ⟨rfl, rfl⟩ := he; exact hok.1 hl
    | cons y pr => simp at he; exact EntsOk.mem hok.2 he.2 hl

theorem EntsOk.imp {L : List Oper} {pre : List (Option Value)} {owed owed' : List Owed} {gh gh' : List Gh} {h h' : Hp} {lst lst' : Nat → Bool} {tm0 : List Value} : ∀ {hist : List Ent}, EntsOk P L pre owed gh h lst tm0 hist →
    (∀ e ∈ hist, ∀ tm, lst' e.idx = false → lst e.idx = false ∧ (EntOk P L pre owed gh h e tm → EntOk P L pre owed' gh' h' e tm)) → EntsOk P L pre owed' gh' h' lst' tm0 hist
  | [], _, _ => trivial
  | e :: es, hok, hi => ⟨fun hl => (hi e (by simp) _ hl).2 (hok.1 (hi e (by simp) (tmOf tm0 es) hl).1), EntsOk.imp hok.2 fun e' he' => hi e' (by simp [he'])⟩

/-- The blocks that the model has not made yet. -/
def GhOk (gh : List Gh) (h0 h : Hp) (lst : Nat → Bool) (σ : Sg) : Prop := ∀ g ∈ gh, lst g.idx = false → h0.next ≤ g.id ∧ g.id < h.next ∧ σ g.id = none ∧ h.ob g.id = some (obOf g.c g.id) ∧ h.gs.get g.id = none

/-- Their numbers are their own. -/
structure GhOwn (gh : List Gh) (pre : List (Option Value)) (h : Hp) (hist : List Ent) : Prop where
  one : ∀ a ∈ gh, ∀ b ∈ gh, a.id = b.id → a.idx = b.idx
  lt : ∀ a ∈ gh, a.id < h.next
  prn : ∀ a ∈ gh, ∀ i v, pre.getD i none = some v → v ≠ ptr a.id 0
  plt : ∀ i v, pre.getD i none = some v → ∃ id, v = ptr id 0 ∧ id < h.next
  mem : ∀ a ∈ gh, ∃ e ∈ hist, e.idx = a.idx

/-- The middle of a drawn order. -/
structure DI (P : Program) (L : List Oper) (pre : List (Option Value)) (base : Nat) (σ0 : Sg) (h0 : Hp) (w0 : World) (tm0 : List Value) (K : List Value → Hp → Prop)
    (lst : Nat → Bool) (σ : Sg) (h : Hp) (w : World) (tmps : Array Value) (hist : List Ent) (rest : List Nat) (doneM effs : Nat) (owed : List Owed) (gh : List Gh) : Prop where
  closed : Closed L lst
  hr : HR base σ h w
  ext : Ext base σ0 h0 w0 σ h w
  ord : Ord P L rest (hist.map (·.idx)) doneM effs
  chain : Chain P L hist
  effl : ∀ e ∈ hist, isEff P e.o.op = true → lst e.idx = true
  unl : ∀ i ∈ rest, lst i = false
  ents : EntsOk P L pre owed gh h lst tm0 hist
  ghs : GhOk gh h0 h lst σ
  gho : GhOwn gh pre h hist
  pres : ∀ i v, pre.getD i none = some v → lst i = false → ∃ o ty z id, L[i]? = some o ∧ o.op = .alloc ty ∧ zero? P ty = some z ∧ plainV 100 z = true ∧ v = ptr id 0 ∧ h0.next ≤ id ∧ id < h.next ∧ σ id = none ∧
    h.ob id = some (.cells z.cells.toList ty (some id)) ∧ h.gs.get id = none
  inj : ∀ i j v, pre.getD i none = some v → pre.getD j none = some v → i = j
  all : ∀ i o, L[i]? = some o → isAlloc o.op = true → ∃ v, pre.getD i none = some v
  len : tm0.length = tmps.size
  rel : ∀ t, VRel σ (lookD tm0 lst t hist) (tmps.getD t undef)
  form : xDraw P alP (SCalls P) L (infos P L) pre rest (tmOf tm0 hist) owed h K

def Stops (P : Program) (L : List Oper) (rest : List Nat) : Prop := rest = [] ∨ ∃ j rest' o, rest = j :: rest' ∧ L[j]? = some o ∧ isEff P o.op = true

section
variable {L : List Oper} {pre : List (Option Value)} {base : Nat} {σ0 : Sg} {h0 : Hp} {w0 : World} {tm0 : List Value} {K : List Value → Hp → Prop} {lst : Nat → Bool} {σ : Sg} {h : Hp} {w : World} {tmps : Array Value}

/-- One operation that changes nothing is done in the canonical run. -/
theorem DI.one {hist : List Ent} {i : Nat} {rest : List Nat} {doneM effs : Nat} {owed : List Owed} {gh : List Gh} (d : DI P L pre base σ0 h0 w0 tm0 K lst σ h w tmps hist (i :: rest) doneM effs owed gh)
    {o : Oper} (ho : L[i]? = some o) (he : isEff P o.op = false) : ∃ e doneM' effs' owed' gh' h', DI P L pre base σ0 h0 w0 tm0 K lst σ h' w tmps (e :: hist) rest doneM' effs' owed' gh' := by
  obtain ⟨o', f, hs, hord, heff⟩ := d.ord.step
  have hoo : o' = o := by have := hs.op; rw [ho] at this; simpa using this.symm
  subst hoo
  have hun : lst i = false := d.unl i (by simp)
  have hform := d.form
  simp only [xDraw, ho, hs.inf] at hform
  have hal0 : kind P o'.op = .call ∨ kind P o'.op = .alt → False := by
    intro hk
    have hal : isAlloc o'.op = true := by rcases hk with hk | hk <;> simpa [isEff, hk] using he
    cases hop : o'.op <;> simp [hop, isAlloc] at hal
    rcases hk with hk | hk <;> simp [hop, kind] at hk
  have mk : ∀ (v : Value) (owed' : List Owed), EntOk P L pre owed' gh h ⟨i, o', v⟩ (tmOf tm0 hist) → (∀ x, x ∈ owed → x ∈ owed') →
      xDraw P alP (SCalls P) L (infos P L) pre rest (put (tmOf tm0 hist) o'.dst v) owed' h K →
      ∃ e doneM' effs' owed' gh' h', DI P L pre base σ0 h0 w0 tm0 K lst σ h' w tmps (e :: hist) rest doneM' effs' owed' gh' := by
    intro v owed' hent hsub hf
    refine ⟨⟨i, o', v⟩, _, _, owed', gh, h, ⟨d.closed, d.hr, d.ext, hord, ⟨⟨f, hs⟩, d.chain⟩, ?_, fun j hj => d.unl j (by simp [hj]), ⟨fun _ => hent, ?_⟩, d.ghs,
      ⟨d.gho.one, d.gho.lt, d.gho.prn, d.gho.plt, fun a ha => by obtain ⟨e, h1, h2⟩ := d.gho.mem a ha; exact ⟨e, by simp [h1], h2⟩⟩, d.pres, d.inj, d.all, d.len, ?_, hf⟩⟩
    · intro e hem hee
      simp at hem
      rcases hem with rfl | hem
      · simp only at hee; rw [he] at hee; simp at hee
      · exact d.effl e hem hee
    · refine d.ents.imp fun e hem tm hl => ⟨hl, fun hok => ⟨hok.noEff, ?_⟩⟩
      obtain ⟨b, h1, h2, h3⟩ := hok.want
      refine ⟨b, h1, h2, fun hb => ?_⟩
      rcases h3 hb with h4 | h4 | ⟨h4, h5, h6, h7⟩ | h4
      · exact .inl h4
      · exact .inr (.inl h4)
      · exact .inr (.inr (.inl ⟨h4, h5, h6, hsub _ h7⟩))
      · exact .inr (.inr (.inr h4))
    · intro t
      simp only [lookD, hun, Bool.false_eq_true, false_and, if_false]
      exact d.rel t
  cases hw : wants L (tmOf tm0 hist) o' with
  | none => simp [hw, alP] at hform
  | some b =>
    simp only [hw] at hform
    cases hpre : pre.getD i none with
    | some v =>
      simp only [hpre] at hform
      refine mk _ owed ⟨he, b, hw, fun hb => ?_, fun hb => ?_⟩ (fun _ h => h) hform
      · simp [hb]
      · left; simp only [hb, if_true]; exact hpre
    | none =>
      simp only [hpre] at hform
      split at hform
      · rename_i hk
        cases b with
        | false =>
          simp [opt] at hform
          exact mk undef owed ⟨he, false, hw, fun _ => rfl, fun hb => by simp at hb⟩ (fun _ h => h) hform
        | true =>
          simp only [if_true] at hform
          cases hp : pop P (tmOf tm0 hist) o'.op with
          | none => simp [hp, opt, alP] at hform
          | some v =>
            simp only [hp, opt] at hform
            exact mk v owed ⟨he, true, hw, fun hb => by simp at hb, fun _ => .inr (.inl ⟨hpre, hk, hp⟩)⟩ (fun _ h => h) hform
      · rename_i hk
        cases b with
        | false =>
          simp [opt] at hform
          exact mk undef owed ⟨he, false, hw, fun _ => rfl, fun hb => by simp at hb⟩ (fun _ h => h) hform
        | true =>
          simp only [if_true] at hform
          cases hp : rop P (tmOf tm0 hist) o'.op h with
          | none => simp [hp, opt, alP] at hform
          | some v =>
            simp only [hp, opt] at hform
            exact mk v _ ⟨he, true, hw, fun hb => by simp at hb, fun _ => .inr (.inr (.inl ⟨hpre, hk, hp, by simp⟩))⟩ (fun _ h => by simp [h]) hform
      · rename_i hk
        exfalso
        have hal : isAlloc o'.op = true := by simpa [isEff, hk] using he
        obtain ⟨v, hv⟩ := d.all i o' ho hal
        rw [hpre] at hv; simp at hv
      · rename_i hk; exact (hal0 (.inl hk)).elim
      · rename_i hk; exact (hal0 (.inr hk)).elim
      · rename_i hk
        cases b with
        | false =>
          simp [opt] at hform
          exact mk undef owed ⟨he, false, hw, fun _ => rfl, fun hb => by simp at hb⟩ (fun _ h => h) hform
        | true =>
          simp only [if_true] at hform
          cases hm : mkOf P (tmOf tm0 hist) o'.op with
          | none => simp [mkop, hm, opt, alP] at hform
          | some m =>
            simp only [mkop, hm, Option.map_some, opt] at hform
            have hfr := d.hr.fresh h.next (Nat.le_refl _)
            have hnx : (h.newOb (obOf m.1 h.next)).next = h.next + 1 := rfl
            have hold : ∀ b, b < h.next → (h.newOb (obOf m.1 h.next)).ob b = h.ob b := fun b hb => by rw [Hp.ob_newOb, if_neg (by omega)]
            have hle := d.ext.next
            refine ⟨⟨i, o', m.2 h.next⟩, _, _, owed, ⟨i, h.next, m.1⟩ :: gh, h.newOb (obOf m.1 h.next), ⟨d.closed, d.hr.ghostOb _, ?_, hord, ⟨⟨f, hs⟩, d.chain⟩, ?_, fun j hj => d.unl j (by simp [hj]), ⟨fun _ => ?_, ?_⟩, ?_, ?_, ?_, d.inj, d.all, d.len, ?_, hform⟩⟩
            · exact ⟨d.ext.le, d.ext.os, d.ext.tape, d.ext.output, d.ext.size, d.ext.below, d.ext.other, d.ext.img, by rw [hnx]; omega, fun b hb hs0 => by
                obtain ⟨q1, q2, q3⟩ := d.ext.untouched b hb hs0
                exact ⟨by rw [hold b (by omega)]; exact q1, q2, q3⟩⟩
            · intro e hem hee
              simp at hem
              rcases hem with rfl | hem
              · simp only at hee; rw [he] at hee; simp at hee
              · exact d.effl e hem hee
            · exact ⟨he, true, hw, fun hb => by simp at hb, fun _ => .inr (.inr (.inr ⟨hpre, hk, m, h.next, hm, rfl, by simp⟩))⟩
            · refine d.ents.imp fun e hem tm hl => ⟨hl, fun hok => ⟨hok.noEff, ?_⟩⟩
              obtain ⟨b, h1, h2, h3⟩ := hok.want
              refine ⟨b, h1, h2, fun hb => ?_⟩
              rcases h3 hb with h4 | h4 | ⟨h4, h5, h6, h7⟩ | ⟨h4, h5, m', id, h6, h7, h8⟩
              · exact .inl h4
              · exact .inr (.inl h4)
              · exact .inr (.inr (.inl ⟨h4, h5, rop_alloc hfr.1 _ h6, h7⟩))
              · exact .inr (.inr (.inr ⟨h4, h5, m', id, h6, h7, by simp [h8]⟩))
            · intro g hg hl
              rcases List.mem_cons.1 hg with rfl | hg
              · refine ⟨by simp only; omega, by rw [hnx]; simp, d.hr.none_next (Nat.le_refl _), ?_, hfr.2⟩
                rw [Hp.ob_newOb, if_pos rfl]
              · obtain ⟨q1, q2, q3, q4, q5⟩ := d.ghs g hg hl
                exact ⟨q1, by rw [hnx]; omega, q3, by rw [hold _ q2]; exact q4, q5⟩
            · refine ⟨?_, ?_, ?_, ?_, ?_⟩
              · intro a ha b hb hab
                rcases List.mem_cons.1 ha with rfl | ha <;> rcases List.mem_cons.1 hb with rfl | hb
                · rfl
                · have := d.gho.lt b hb; simp only at hab; omega
                · have := d.gho.lt a ha; simp only at hab; omega
                · exact d.gho.one a ha b hb hab
              · intro a ha
                rw [hnx]
                rcases List.mem_cons.1 ha with rfl | ha
                · simp
                · have := d.gho.lt a ha; omega
              · intro a ha j v hv
                rcases List.mem_cons.1 ha with rfl | ha
                · obtain ⟨id, rfl, hid⟩ := d.gho.plt j v hv
                  intro hh; simp [ptr] at hh; omega
                · exact d.gho.prn a ha j v hv
              · intro j v hv
                obtain ⟨id, h1, h2⟩ := d.gho.plt j v hv
                exact ⟨id, h1, by rw [hnx]; omega⟩
              · intro a ha
                rcases List.mem_cons.1 ha with rfl | ha
                · exact ⟨⟨i, o', m.2 h.next⟩, by simp, rfl⟩
                · obtain ⟨e, h1, h2⟩ := d.gho.mem a ha; exact ⟨e, by simp [h1], h2⟩
            · intro j v hv hl
              obtain ⟨oj, ty, z, id, g1, g2, g3, g4, g5, g6, g7, g8, g9, g10⟩ := d.pres j v hv hl
              exact ⟨oj, ty, z, id, g1, g2, g3, g4, g5, g6, by rw [hnx]; omega, g8, by rw [hold _ g7]; exact g9, g10⟩
            · intro t
              simp only [lookD, hun, Bool.false_eq_true, false_and, if_false]
              exact d.rel t

/-- The canonical run goes on to the next change. -/
theorem DI.advance : ∀ (rest : List Nat) {h : Hp} {hist : List Ent} {doneM effs : Nat} {owed : List Owed} {gh : List Gh}, DI P L pre base σ0 h0 w0 tm0 K lst σ h w tmps hist rest doneM effs owed gh →
    ∃ hist' rest' doneM' effs' owed' gh' h', DI P L pre base σ0 h0 w0 tm0 K lst σ h' w tmps hist' rest' doneM' effs' owed' gh' ∧ Stops P L rest'
  | [], h, hist, doneM, effs, owed, gh, d => ⟨hist, [], doneM, effs, owed, gh, h, d, .inl rfl⟩
  | i :: rest, h, hist, doneM, effs, owed, gh, d => by
    obtain ⟨o, f, hs, _, _⟩ := d.ord.step
    cases he : isEff P o.op with
    | true => exact ⟨hist, i :: rest, doneM, effs, owed, gh, h, d, .inr ⟨i, rest, o, rfl, hs.op, he⟩⟩
    | false =>
      obtain ⟨e, doneM', effs', owed', gh', h', d'⟩ := d.one hs.op he
      exact DI.advance rest d'
end

/-- How many operations are not listed yet. -/
def left (n : Nat) (lst : Nat → Bool) : Nat := ((List.range n).filter fun i => !lst i).length

theorem left_zero {n : Nat} {lst : Nat → Bool} (h : left n lst = 0) : ∀ i, i < n → lst i = true := by
  intro i hi
  unfold left at h
  have := List.eq_nil_of_length_eq_zero h
  rw [List.filter_eq_nil_iff] at this
  have := this i (by simpa using hi)
  simpa using this

theorem filter_set : ∀ (l : List Nat) {lst lst' : Nat → Bool} {i : Nat}, l.Nodup → i ∈ l → lst i = false → lst' i = true → (∀ j, j ≠ i → lst' j = lst j) →
    (l.filter fun j => !lst j).length = (l.filter fun j => !lst' j).length + 1
  | [], lst, lst', i, _, h, _, _, _ => by simp at h
  | x :: l, lst, lst', i, hnd, hi, h1, h2, h3 => by
    have hnd' := List.nodup_cons.1 hnd
    by_cases hx : x = i
    · subst hx
      have hsame : (l.filter fun j => !lst j) = l.filter fun j => !lst' j := by
        apply List.filter_congr
        intro j hj
        rw [h3 j (by rintro rfl; exact hnd'.1 hj)]
      simp [List.filter_cons, h1, h2, hsame]
    · have hil : i ∈ l := by simp at hi; rcases hi with h | h; exact absurd h.symm hx; exact h
      have ih := filter_set l hnd'.2 hil h1 h2 h3
      rw [List.filter_cons, List.filter_cons, h3 x hx]
      split <;> simp [ih]

theorem left_set {n : Nat} {lst lst' : Nat → Bool} {i : Nat} (hi : i < n) (h1 : lst i = false) (h2 : lst' i = true) (h3 : ∀ j, j ≠ i → lst' j = lst j) : left n lst = left n lst' + 1 :=
  filter_set _ List.nodup_range (by simpa using hi) h1 h2 h3
end
end Go.Cn

/- The canonical semantics: a region that draws its order: every order comes to what the canonical order comes to. -/
set_option linter.unusedVariables false
set_option linter.unusedSimpArgs false
namespace Go.Cn
section
variable {P : Program} {L : List Oper} {pre : List (Option Value)} {base : Nat} {σ0 : Sg} {h0 : Hp} {w0 : World} {tm0 : List Value} {K : List Value → Hp → Prop} {lst lst' : Nat → Bool} {σ σ' : Sg} {h h' : Hp} {w w' : World} {tmps : Array Value}
  {hist : List Ent} {rest : List Nat} {doneM effs : Nat} {owed : List Owed} {gh : List Gh}

theorem Ord.at : ∀ {rest done : List Nat} {doneM effs : Nat}, Ord P L rest done doneM effs → ∀ i ∈ rest, ∃ done' o f, StepOk P L done' i o f ∧ ∀ x ∈ done, x ∈ done'
  | [], done, doneM, effs, _, i, hi => by simp at hi
  | j :: rest, done, doneM, effs, h, i, hi => by
    obtain ⟨o, f, hs, h2, _⟩ := h.step
    simp at hi
    rcases hi with rfl | hi
    · exact ⟨done, o, f, hs, fun x hx => hx⟩
    · obtain ⟨done', o', f', hs', hsub⟩ := h2.at i hi
      exact ⟨done', o', f', hs', fun x hx => hsub x (by simp [hx])⟩

theorem Ord.disj (h : Ord P L rest (hist.map (·.idx)) doneM effs) {i : Nat} (hi : i ∈ rest) : i ∉ hist.map (·.idx) := by
  obtain ⟨done', o, f, hs, hsub⟩ := h.at i hi
  exact fun hd => hs.new (hsub i hd)

/-- The places that are still to be made. -/
def Pres (P : Program) (L : List Oper) (pre : List (Option Value)) (h0 : Hp) (lst : Nat → Bool) (σ : Sg) (h : Hp) : Prop :=
  ∀ i v, pre.getD i none = some v → lst i = false → ∃ o ty z id, L[i]? = some o ∧ o.op = .alloc ty ∧ zero? P ty = some z ∧ plainV 100 z = true ∧ v = ptr id 0 ∧ h0.next ≤ id ∧ id < h.next ∧ σ id = none ∧
    h.ob id = some (.cells z.cells.toList ty (some id)) ∧ h.gs.get id = none

/-- An operation of the middle has been done in the model too. -/
theorem DI.list (d : DI P L pre base σ0 h0 w0 tm0 K lst σ h w tmps hist rest doneM effs owed gh) {e : Ent} (he : e ∈ hist) (hl : lst e.idx = false) (ha : ∀ j ∈ ahead e.o, lst j = true)
    (hl' : lst' e.idx = true) (hne : ∀ i, i ≠ e.idx → lst' i = lst i) (hle : σ.le σ') (hr' : HR base σ' h w') (hext : Ext base σ0 h0 w0 σ' h w') (hpres : Pres P L pre h0 lst' σ' h) (hgh : GhOk gh h0 h lst' σ')
    {a : Act} {v' : Value} (hat : a.tmps = tmps) (hv : VRel σ' e.v v') : DI P L pre base σ0 h0 w0 tm0 K lst' σ' h w' (a.put e.o.dst v').tmps hist rest doneM effs owed gh := by
  subst hat
  have sub : ∀ i, lst i = true → lst' i = true := by
    intro i hi
    by_cases hie : i = e.idx
    · rw [hie]; exact hl'
    · rw [hne i hie]; exact hi
  have back : ∀ i, lst' i = false → lst i = false := by
    intro i hi
    cases hh : lst i with
    | false => rfl
    | true => rw [sub i hh] at hi; simp at hi
  refine ⟨?_, hr', hext, d.ord, d.chain, fun x hx hxe => sub _ (d.effl x hx hxe), ?_, ?_, hgh, d.gho, hpres, d.inj, d.all, ?_, ?_, d.form⟩
  · intro i o ho hi j hj
    by_cases hie : i = e.idx
    · have : o = e.o := by have := d.chain.mem e he; rw [← hie, ho] at this; simpa using this
      subst this
      exact sub j (ha j hj)
    · rw [hne i hie] at hi
      exact sub j (d.closed i o ho hi j hj)
  · intro i hi
    have hni := d.ord.disj hi
    rw [hne i (by rintro rfl; exact hni (List.mem_map.2 ⟨e, he, rfl⟩))]
    exact d.unl i hi
  · exact d.ents.imp fun x hx tm hxl => ⟨back _ hxl, fun hok => hok⟩
  · rw [d.len]; cases e.o.dst <;> simp [Act.put]
  · intro t
    rw [look_put d.closed hl hl' hne d.chain he]
    have hrel := (d.rel t).mono hle
    cases hd : e.o.dst with
    | none => simp only [Act.put]; rw [if_neg (by simp)]; exact hrel
    | some dd =>
      simp only [Act.put, Option.some.injEq]
      by_cases ht : dd = t
      · subst ht
        by_cases hlt : dd < tm0.length
        · rw [if_pos ⟨rfl, hlt⟩, Array.getD_eq_getD_getElem?, Array.getElem?_setIfInBounds_self_of_lt (by rw [← d.len]; exact hlt)]
          exact hv
        · rw [if_neg (fun hh => hlt hh.2)]
          have hs : ¬ dd < a.tmps.size := by rw [← d.len]; exact hlt
          rw [Array.getD_eq_getD_getElem?] at hrel ⊢
          simpa [Array.getElem?_setIfInBounds, hs] using hrel
      · rw [if_neg (fun hh => ht hh.1)]
        rw [Array.getD_eq_getD_getElem?] at hrel ⊢
        rw [Array.getElem?_setIfInBounds_ne ht]
        exact hrel

theorem Pres.mono (hp : Pres P L pre h0 lst σ h) (hext : Ext base σ h w σ' h' w') (hsub : ∀ i, lst' i = false → lst i = false) : Pres P L pre h0 lst' σ' h' := by
  intro i v hv hl
  obtain ⟨o, ty, z, id, h1, h2, h3, h4, h5, h6, h7, h8, h9, h10⟩ := hp i v hv (hsub i hl)
  obtain ⟨u1, u2, u3⟩ := hext.untouched id h7 h8
  exact ⟨o, ty, z, id, h1, h2, h3, h4, h5, h6, Nat.lt_of_lt_of_le h7 hext.next, u3, u1.trans h9, u2.trans h10⟩

theorem GhOk.mono {base : Nat} {gh : List Gh} {h0 h h' : Hp} {lst lst' : Nat → Bool} {σ σ' : Sg} {w w' : World} (hg : GhOk gh h0 h lst σ) (hext : Ext base σ h w σ' h' w') (hsub : ∀ i, lst' i = false → lst i = false) : GhOk gh h0 h' lst' σ' := by
  intro g hgm hl
  obtain ⟨h1, h2, h3, h4, h5⟩ := hg g hgm (hsub _ hl)
  obtain ⟨u1, u2, u3⟩ := hext.untouched g.id h2 h3
  exact ⟨h1, Nat.lt_of_lt_of_le h2 hext.next, u3, u1.trans h4, u2.trans h5⟩

theorem mem_split {α : Type} {e : α} : ∀ {l : List α}, e ∈ l → ∃ pr es, l = pr ++ e :: es
  | [], h => by simp at h
  | x :: l, h => by
    simp at h
    rcases h with rfl | h
    · exact ⟨[], l, rfl⟩
    · obtain ⟨pr, es, rfl⟩ := mem_split h
      exact ⟨x :: pr, es, rfl⟩

/-- The slots that an operation of the middle looks at. -/
theorem DI.maskRel (d : DI P L pre base σ0 h0 w0 tm0 K lst σ h w tmps hist rest doneM effs owed gh) {e : Ent} {pr es : List Ent} (hsp : hist = pr ++ e :: es) (hl : lst e.idx = false) (ha : ∀ j ∈ ahead e.o, lst j = true) :
    TRel σ (maskTm (Oper.looksAt L.toArray e.o) (tmOf tm0 es)) tmps := by
  refine maskTm_rel (by rw [tmOf_length, d.len]) fun t ht => ?_
  rw [tmOf_get, ← look_mid d.closed (tm0 := tm0) hl ha ht d.chain hsp]
  exact d.rel t

theorem DI.maskNext (d : DI P L pre base σ0 h0 w0 tm0 K lst σ h w tmps hist rest doneM effs owed gh) {i : Nat} {o : Oper} {f : Inf} (hs : StepOk P L (hist.map (·.idx)) i o f) (ha : ∀ j ∈ ahead o, lst j = true) :
    TRel σ (maskTm (Oper.looksAt L.toArray o) (tmOf tm0 hist)) tmps := by
  refine maskTm_rel (by rw [tmOf_length, d.len]) fun t ht => ?_
  rw [tmOf_get, ← look_next d.closed (tm0 := tm0) hs.op hs.inf ha ht d.chain (fun e he g hg hcl => hs.clash e.idx (List.mem_map.2 ⟨e, he, rfl⟩) g hg hcl)]
  exact d.rel t

/-- The first operation that is not listed. -/
theorem first_unlisted {p : Ent → Bool} : ∀ {hist : List Ent}, (∃ e ∈ hist, p e = false) → ∃ pr e es, hist = pr ++ e :: es ∧ p e = false ∧ ∀ x ∈ es, p x = true
  | [], h => by obtain ⟨e, he, _⟩ := h; simp at he
  | x :: hist, h => by
    by_cases hx : ∃ e ∈ hist, p e = false
    · obtain ⟨pr, e, es, rfl, h1, h2⟩ := first_unlisted hx
      exact ⟨x :: pr, e, es, rfl, h1, h2⟩
    · obtain ⟨e, he, hp⟩ := h
      simp at he
      rcases he with rfl | he
      · refine ⟨[], e, hist, rfl, hp, fun y hy => ?_⟩
        cases hyp : p y with
        | true => rfl
        | false => exact absurd ⟨y, hy, hyp⟩ hx
      · exact absurd ⟨e, he, hp⟩ hx

theorem chain_split : ∀ {hist : List Ent}, Chain P L hist → ∀ {pr es : List Ent} {e : Ent}, hist = pr ++ e :: es → ∃ f, StepOk P L (es.map (·.idx)) e.idx e.o f
  | [], _, pr, es, e, h => by simp at h
  | x :: hist, hc, pr, es, e, h => by
    cases pr with
    | nil => simp at h; obtain ⟨rfl, rfl⟩ := h; exact hc.1
    | cons y pr => simp at h; exact chain_split hc.2 h.2
end

theorem mem_ready {ops : Array Oper} {listed : Array Bool} {i : Nat} (hs : listed.size = ops.size) : i ∈ Region.ready .any ops listed ↔ ∃ o, ops.toList[i]? = some o ∧ listed.getD i false = false ∧ ∀ j ∈ ahead o, listed.getD j false = true := by
  unfold Region.ready
  simp only [List.mem_filter, List.mem_range, Bool.and_eq_true, Bool.not_eq_true']
  constructor
  · rintro ⟨h1, h2, h3⟩
    rw [Array.getElem?_eq_getElem h1] at h3
    simp only [Option.map_some, Option.getD_some] at h3
    refine ⟨ops[i], by simp [h1], ?_, ?_⟩
    · rw [Array.getD_eq_getD_getElem?, Array.getElem?_eq_getElem (by omega)] at h2 ⊢
      exact h2
    · intro j hj
      simp only [ahead, List.mem_map, List.mem_filter] at hj
      obtain ⟨e, ⟨he, hb⟩, rfl⟩ := hj
      have := Array.all_eq_true'.1 h3 e (by simpa using he)
      rw [hb] at this
      simpa using this
  · rintro ⟨o, h1, h2, h3⟩
    have hi : i < ops.size := by have := (List.getElem?_eq_some_iff.1 h1).1; simpa using this
    have ho : ops[i]? = some o := by simpa using h1
    refine ⟨hi, ?_, ?_⟩
    · rw [Array.getD_eq_getD_getElem?, Array.getElem?_eq_getElem (by omega)] at h2 ⊢
      exact h2
    · rw [ho]
      simp only [Option.map_some, Option.getD_some]
      refine Array.all_eq_true'.2 fun e he => ?_
      cases hb : Region.binds .any e with
      | false => rfl
      | true => simpa using h3 e.on (List.mem_map.2 ⟨e, List.mem_filter.2 ⟨by simpa using he, hb⟩, rfl⟩)

section
variable {P : Program}

/-- A region's variable is made in the model. -/
theorem late_run {base : Nat} {σ : Sg} {h : Hp} {w : World} (hr : HR base σ h w) {o : Oper} {a : Act} {ty : TypeId} {z : Value} {id : Nat} (hop : o.op = .alloc ty) (hz : zero? P ty = some z) (hp : plainV 100 z = true)
    (hs : σ id = none) (hlt : id < h.next) (hob : h.ob id = some (.cells z.cells.toList ty (some id))) (hgs : h.gs.get id = none) :
    ∃ w' v' e, (execOp a.eval o).run P w = .ok (.value v') w' ∧ VRel (σ.put id e) (ptr id 0) v' ∧ HR base (σ.put id e) h w' ∧ WNew w w' (.cells z.cells ty (0, 0)) ∧ e.rb = w.heap.size := by
  obtain ⟨dst, op, t, pos, after, guard⟩ := o
  simp only at hop
  subst hop
  have hc : LRel σ z.cells.toList z.cells.toList := zero_rel hp
  have hw := WNew.alloc w (.cells z.cells ty)
  have := hr.late hs hlt hob hgs hw (by simp) hc.rel (by simp)
  refine ⟨_, .pointer (some ⟨w.heap.size, 0, none⟩), ⟨w.heap.size, 0, z.cells.size⟩, ?_, ?_, this, hw, rfl⟩
  · simp [execOp, Instr.alloc, run_zero hz, newVar, newRow]
  · exact .ptr id 0 ⟨w.heap.size, 0, z.cells.size⟩ (by unfold Sg.put; rw [if_pos rfl])

theorem draw_any {ops : Array Oper} {pre : List (Option Value)} {base : Nat} {σ0 : Sg} {h0 : Hp} {w0 : World} {tm0 : List Value} {K : List Value → Hp → Prop} {d0 : List Deferred} {Q : Exit → Act → World → Prop}
    (hQ : ∀ σ' tm' h' a' w', Ext base σ0 h0 w0 σ' h' w' → HR base σ' h' w' → TRel σ' tm' a'.tmps → a'.defers = d0 → K tm' h' → Q .normal a' w') (ro : Option Nat) :
    ∀ (n : Nat) (listed : Array Bool) (a : Act) (w : World) (σ : Sg) (h : Hp) (hist : List Ent) (rest : List Nat) (doneM effs : Nat) (owed : List Owed) (gh : List Gh), listed.size = ops.size → left ops.size (fun i => listed.getD i false) = n →
      DI P ops.toList pre base σ0 h0 w0 tm0 K (fun i => listed.getD i false) σ h w a.tmps hist rest doneM effs owed gh → Stops P ops.toList rest → a.defers = d0 → wpAnyIn (freeF ro) 0 P .any ops Q n listed a w := by
  intro n
  induction n with
  | zero =>
    intro listed a w σ h hist rest doneM effs owed gh hsz hleft d hst hdef
    have hall := left_zero hleft
    have hready : Region.ready .any ops listed = [] := by
      cases hr : Region.ready .any ops listed with
      | nil => rfl
      | cons i l =>
        have hi : i ∈ Region.ready .any ops listed := by rw [hr]; simp
        rw [mem_ready hsz] at hi
        obtain ⟨o, h1, h2, _⟩ := hi
        have := hall i (by have := (List.getElem?_eq_some_iff.1 h1).1; simpa using this)
        rw [h2] at this; simp at this
    refine ⟨hready, ?_⟩
    rcases hst with rfl | ⟨j, rest', o, rfl, ho, he⟩
    · have hform := d.form
      simp only [xDraw] at hform
      refine hQ σ _ h a w d.ext d.hr ⟨by rw [tmOf_length, d.len], fun t => ?_⟩ hdef hform
      rw [tmOf_get]
      have := d.rel t
      rw [lookD_congr (q := fun _ => true) (fun e he => ?_)] at this
      · exact this
      · have := d.chain.mem e he
        exact hall e.idx (by have := (List.getElem?_eq_some_iff.1 this).1; simpa using this)
    · have h1 := d.unl j (by simp)
      have h2 := hall j (by have := (List.getElem?_eq_some_iff.1 ho).1; simpa using this)
      rw [h1] at h2; simp at h2
  | succ n ih =>
    intro listed a w σ h hist rest doneM effs owed gh hsz hleft d hst hdef
    refine ⟨fun hnil => ?_, fun i hi => ?_⟩
    · -- there is always one that may come
      exfalso
      have hex : ∃ i, i ∈ Region.ready .any ops listed := by
        by_cases hu : ∃ e ∈ hist, (fun e : Ent => listed.getD e.idx false) e = false
        · obtain ⟨pr, e, es, hsp, h1, h2⟩ := first_unlisted hu
          obtain ⟨f, hs⟩ := chain_split d.chain hsp
          refine ⟨e.idx, (mem_ready hsz).2 ⟨e.o, hs.op, h1, fun j hj => ?_⟩⟩
          have := hs.ahead j hj
          obtain ⟨x, hx, rfl⟩ := List.mem_map.1 this
          exact h2 x hx
        · have hall : ∀ e ∈ hist, listed.getD e.idx false = true := by
            intro e he
            cases hh : listed.getD e.idx false with
            | true => rfl
            | false => exact absurd ⟨e, he, hh⟩ hu
          cases rest with
          | nil =>
            exfalso
            have : left ops.size (fun i => listed.getD i false) = 0 := by
              unfold left
              rw [List.length_eq_zero_iff, List.filter_eq_nil_iff]
              intro i hi
              have := d.ord.cover i (by simpa using hi)
              simp at this
              obtain ⟨e, he, rfl⟩ := this
              simpa using hall e he
            omega
          | cons j rest =>
            obtain ⟨o, f, hs, _⟩ := d.ord.step
            refine ⟨j, (mem_ready hsz).2 ⟨o, hs.op, d.unl j (by simp), fun x hx => ?_⟩⟩
            have := hs.ahead x hx
            obtain ⟨e, he, rfl⟩ := List.mem_map.1 this
            exact hall e he
      obtain ⟨i, hi⟩ := hex
      rw [hnil] at hi; simp at hi
    · rw [mem_ready hsz] at hi
      obtain ⟨o, ho, hun, hah⟩ := hi
      have hil : i < ops.size := by have := (List.getElem?_eq_some_iff.1 ho).1; simpa using this
      have hoi : ops[i]? = some o := by simpa using ho
      have hsz' : (listed.setIfInBounds i true).size = ops.size := by simpa using hsz
      have hl' : (listed.setIfInBounds i true).getD i false = true := by
        rw [Array.getD_eq_getD_getElem?, Array.getElem?_setIfInBounds_self_of_lt (by omega)]; rfl
      have hne : ∀ j, j ≠ i → (listed.setIfInBounds i true).getD j false = listed.getD j false := by
        intro j hj
        rw [Array.getD_eq_getD_getElem?, Array.getElem?_setIfInBounds_ne (fun e => hj e.symm), Array.getD_eq_getD_getElem?]
      have hleft' : left ops.size (fun j => (listed.setIfInBounds i true).getD j false) = n := by
        have := left_set (n := ops.size) (lst := fun j => listed.getD j false) (lst' := fun j => (listed.setIfInBounds i true).getD j false) hil hun hl' hne
        omega
      have hback : ∀ j, (listed.setIfInBounds i true).getD j false = false → listed.getD j false = false := by
        intro j hj
        by_cases hji : j = i
        · subst hji; exact hun
        · rw [hne j hji] at hj; exact hj
      unfold wpOpIn
      rw [hoi]
      simp only
      rcases d.ord.cover i (by simpa using hil) with hd | hd
      · -- the canonical run has done it
        obtain ⟨e, he, hei⟩ := List.mem_map.1 hd
        subst hei
        have heo : e.o = o := by have := d.chain.mem e he; rw [ho] at this; simpa using this.symm
        subst heo
        obtain ⟨pr, es, hsp⟩ := mem_split he
        have hok := d.ents.mem hsp hun
        have hmask := d.maskRel hsp hun hah
        have hno := hok.noEff
        obtain ⟨b, hw, hb0, hb1⟩ := hok.want
        have hwm : wants ops.toList (maskTm (Oper.looksAt ops.toList.toArray e.o) (tmOf tm0 es)) e.o = some b := by rw [maskTm_wants]; exact hw
        -- how it goes on
        have go : ∀ σ' v v' h' w', Ext base σ h w σ' h' w' → HR base σ' h' w' → VRel σ' v v' → (v = e.v ∧ h' = h) → wpAnyIn (freeF ro) 0 P .any ops Q n (listed.setIfInBounds e.idx true) (a.put e.o.dst v') w' := by
          rintro σ' v v' h' w' hext hr' hv ⟨rfl, rfl⟩
          have hd' := d.list (lst' := fun j => (listed.setIfInBounds e.idx true).getD j false) he hun hah hl' hne hext.le hr' (d.ext.trans hext) (Pres.mono d.pres hext hback) (d.ghs.mono hext hback) (a := a) rfl hv
          exact ih _ _ _ _ _ _ _ _ _ _ _ hsz' hleft' hd' hst (by rw [Act.put_defers', hdef])
        cases b with
        | false =>
          rw [wanted_run hmask hwm]
          simp only [Bool.false_eq_true, if_false]
          have := hb0 rfl
          refine ⟨fun _ _ => trivial, ?_⟩
          exact go σ undef undef h w (Ext.refl _ _ _ _) d.hr (VRel.undef σ) ⟨this.symm, rfl⟩
        | true =>
          rcases hb1 rfl with hpre | ⟨hpre, hk, hpop⟩ | ⟨hpre, hk, hrop, _⟩ | ⟨hpre, hk, m, id, hmk, hev, hgm⟩
          · -- a place that was made ahead
            rw [wanted_run hmask hwm]
            simp only [if_true]
            refine ⟨fun _ _ => trivial, ?_⟩
            obtain ⟨o', ty, z, id, h1, h2, h3, h4, h5, h6, h7, h8, h9, h10⟩ := d.pres e.idx e.v hpre hun
            rw [ho] at h1
            have : e.o = o' := by simpa using h1
            subst this
            obtain ⟨w', v', en, hrun, hv, hr', hnew, hen⟩ := late_run (P := P) (a := a) d.hr h2 h3 h4 h8 h7 h9 h10
            rw [Oper.semAt_eq _ _ _ (by rintro c hd; rw [h2] at hd; simp at hd), hrun]
            have hle : σ.le (σ.put id en) := Sg.put_le h8
            have hext' : Ext base σ0 h0 w0 (σ.put id en) h w' := by
              have x := d.ext
              refine ⟨Sg.le_trans x.le hle, hnew.os.trans x.os, hnew.tape.trans x.tape, hnew.output.trans x.output, ?_, ?_, ?_, ?_, x.next, ?_⟩
              · rw [hnew.heap]; simp; have := x.size; omega
              · intro k hk
                rw [hnew.heap, Array.getElem?_push, if_neg (by have := d.hr.base_le; omega)]
                exact x.below k hk
              · intro k hk hno
                rw [hnew.heap, Array.getElem?_push, if_neg (by have := x.size; omega)]
                exact x.other k hk hno
              · intro b0 e0 hb0 he0
                unfold Sg.put at he0
                split at he0
                · right
                  have : e0 = en := by simpa using he0.symm
                  rw [this, hen]; exact x.size
                · exact x.img b0 e0 hb0 he0
              · intro b0 hb0 hs0
                obtain ⟨y1, y2, y3⟩ := x.untouched b0 hb0 hs0
                refine ⟨y1, y2, ?_⟩
                unfold Sg.put
                rw [if_neg (by omega)]; exact y3
            have hpres' : Pres P ops.toList pre h0 (fun j => (listed.setIfInBounds e.idx true).getD j false) (σ.put id en) h := by
              intro j v hvj hj
              simp only at hj
              obtain ⟨oj, tyj, zj, idj, g1, g2, g3, g4, g5, g6, g7, g8, g9, g10⟩ := d.pres j v hvj (hback j hj)
              refine ⟨oj, tyj, zj, idj, g1, g2, g3, g4, g5, g6, g7, ?_, g9, g10⟩
              unfold Sg.put
              rw [if_neg ?_]
              · exact g8
              · rintro rfl
                have hjne : j ≠ e.idx := by rintro rfl; rw [hl'] at hj; simp at hj
                exact hjne (d.inj j e.idx v hvj (by rw [hpre, h5, g5]))
            have hv2 : VRel (σ.put id en) e.v v' := by rw [h5]; exact hv
            have hgh' : GhOk gh h0 h (fun j => (listed.setIfInBounds e.idx true).getD j false) (σ.put id en) := by
              intro g hg hgl
              obtain ⟨q1, q2, q3, q4, q5⟩ := d.ghs g hg (hback _ hgl)
              refine ⟨q1, q2, ?_, q4, q5⟩
              unfold Sg.put
              rw [if_neg ?_]
              · exact q3
              · intro hid
                exact d.gho.prn g hg _ _ hpre (by rw [h5, hid])
            have hd' := d.list (lst' := fun j => (listed.setIfInBounds e.idx true).getD j false) he hun hah hl' hne hle hr' hext' hpres' hgh' (a := a) rfl hv2
            exact ih _ _ _ _ _ _ _ _ _ _ _ hsz' hleft' hd' hst (by rw [Act.put_defers', hdef])
          · refine stepX_sound (k := fun v h' => v = e.v ∧ h' = h) d.hr hmask ?_ go ro
            unfold stepX
            rw [hwm]
            simp only [hk, if_true]
            rw [← pop_congr maskTm_agree, hpop]
            exact ⟨rfl, trivial⟩
          · refine stepX_sound (k := fun v h' => v = e.v ∧ h' = h) d.hr hmask ?_ go ro
            unfold stepX
            rw [hwm]
            simp only [hk, if_true]
            rw [← rop_congr maskTm_agree, hrop]
            exact ⟨rfl, trivial⟩
          · -- memory that was made ahead
            rw [wanted_run hmask hwm]
            simp only [if_true]
            refine ⟨fun _ _ => trivial, ?_⟩
            obtain ⟨g1, g2, g3, g4, g5⟩ := d.ghs _ hgm hun
            simp only at g1 g2 g3 g4 g5
            have hmk' : mkOf P (maskTm (Oper.looksAt ops.toList.toArray e.o) (tmOf tm0 es)) e.o.op = some m := by rw [← mkOf_congr maskTm_agree]; exact hmk
            obtain ⟨v', r, hrun, hrel, hval⟩ := mkOf_run (P := P) w hmask e.o hmk'
            have hnew : WNew w (w.alloc r) r := by
              cases r with
              | cells c el fr => exact WNew.alloc w _
              | _ => exact WNew.push w _
            have hr' : HR base (σ.put id ⟨w.heap.size, 0, objSize r⟩) h (w.alloc r) := by
              obtain ⟨mc, vf⟩ := m
              cases mc with
              | some ce =>
                obtain ⟨cc, el, rfl, hrel⟩ := hrel
                have hlen := hrel.1
                exact d.hr.late g3 g2 g4 g5 hnew (by simp at hlen; omega) hrel.rel (by simp)
              | none =>
                have hrel : r = .map #[] 0 := hrel
                subst hrel
                exact d.hr.lateMap g3 g2 g4 g5 hnew
            rw [Oper.semAt_eq _ _ _ (by rintro c hd; rw [hd] at hk; simp [kind] at hk), hrun]
            have hle : σ.le (σ.put id ⟨w.heap.size, 0, objSize r⟩) := Sg.put_le g3
            have hext' : Ext base σ0 h0 w0 (σ.put id ⟨w.heap.size, 0, objSize r⟩) h (w.alloc r) := by
              have x := d.ext
              refine ⟨Sg.le_trans x.le hle, x.os, x.tape, x.output, ?_, ?_, ?_, ?_, x.next, ?_⟩
              · rw [hnew.heap]; simp; have := x.size; omega
              · intro k hk
                rw [hnew.heap, Array.getElem?_push, if_neg (by have := d.hr.base_le; omega)]
                exact x.below k hk
              · intro k hk hno
                rw [hnew.heap, Array.getElem?_push, if_neg (by have := x.size; omega)]
                exact x.other k hk hno
              · intro b0 e0 hb0 he0
                unfold Sg.put at he0
                split at he0
                · right
                  have : e0 = ⟨w.heap.size, 0, objSize r⟩ := by simpa using he0.symm
                  rw [this]; exact x.size
                · exact x.img b0 e0 hb0 he0
              · intro b0 hb0 hs0
                obtain ⟨y1, y2, y3⟩ := x.untouched b0 hb0 hs0
                refine ⟨y1, y2, ?_⟩
                unfold Sg.put
                rw [if_neg (by omega)]; exact y3
            have hpres' : Pres P ops.toList pre h0 (fun j => (listed.setIfInBounds e.idx true).getD j false) (σ.put id ⟨w.heap.size, 0, objSize r⟩) h := by
              intro j v hvj hj
              obtain ⟨oj, tyj, zj, idj, k1, k2, k3, k4, k5, k6, k7, k8, k9, k10⟩ := d.pres j v hvj (hback j hj)
              refine ⟨oj, tyj, zj, idj, k1, k2, k3, k4, k5, k6, k7, ?_, k9, k10⟩
              unfold Sg.put
              rw [if_neg ?_]
              · exact k8
              · intro hid
                exact d.gho.prn _ hgm _ _ hvj (by rw [k5, hid])
            have hgh' : GhOk gh h0 h (fun j => (listed.setIfInBounds e.idx true).getD j false) (σ.put id ⟨w.heap.size, 0, objSize r⟩) := by
              intro g hg hgl
              obtain ⟨q1, q2, q3, q4, q5⟩ := d.ghs g hg (hback _ hgl)
              refine ⟨q1, q2, ?_, q4, q5⟩
              unfold Sg.put
              rw [if_neg ?_]
              · exact q3
              · intro hid
                have := d.gho.one _ hg _ hgm hid
                simp only at this
                simp only at hgl
                rw [this, hl'] at hgl; simp at hgl
            have hv2 : VRel (σ.put id ⟨w.heap.size, 0, objSize r⟩) e.v v' := by rw [hev]; exact hval _ _ (by unfold Sg.put; rw [if_pos rfl])
            have hd' := d.list (lst' := fun j => (listed.setIfInBounds e.idx true).getD j false) he hun hah hl' hne hle hr' hext' hpres' hgh' (a := a) rfl hv2
            exact ih _ _ _ _ _ _ _ _ _ _ _ hsz' hleft' hd' hst (by rw [Act.put_defers', hdef])
      · -- it is the next change
        rcases hst with rfl | ⟨j, rest', oj, rfl, hoj, hej⟩
        · simp at hd
        · have hunj := d.unl j (by simp)
          obtain ⟨o2, f, hs, hord, heff⟩ := d.ord.step
          have hij : i = j := by
            simp at hd
            rcases hd with hd | hd
            · exact hd
            · exfalso
              obtain ⟨done', o3, f3, hs3, hsub⟩ := hord.at i hd
              have hj := hsub j (by simp)
              have hb := hs3.effs j hj oj hoj hej
              have ho3 : o3 = o := by have := hs3.op; rw [ho] at this; simpa using this.symm
              subst ho3
              have := d.closed.am (P := P) hs3.op hs3.inf hah hb
              rw [hunj] at this; simp at this
          subst hij
          have ho2 : o2 = o := by have := hs.op; rw [ho] at this; simpa using this.symm
          subst ho2
          have hoj' : oj = o2 := by rw [ho] at hoj; simpa using hoj.symm
          subst hoj'
          have hmask := d.maskNext hs hah
          have hform := d.form
          simp only [xDraw, ho, hs.inf] at hform
          cases hw : wants ops.toList (tmOf tm0 hist) oj with
          | none => simp [hw, alP] at hform
          | some b =>
            simp only [hw] at hform
            have hpre : pre.getD i none = none := by
              cases hp : pre.getD i none with
              | none => rfl
              | some v =>
                exfalso
                obtain ⟨o', ty, z, id, h1, h2, _⟩ := d.pres i v hp hun
                rw [ho] at h1
                have : oj = o' := by simpa using h1
                subst this
                simp [isEff, h2, isAlloc] at hej
            simp only [hpre] at hform
            have hwm : wants ops.toList (maskTm (Oper.looksAt ops.toList.toArray oj) (tmOf tm0 hist)) oj = some b := by rw [maskTm_wants]; exact hw
            refine stepX_sound (k := fun v h' => payAll P alP f.am h' owed (xDraw P alP (SCalls P) ops.toList (infos P ops.toList) pre rest' (put (tmOf tm0 hist) oj.dst v) owed h' K)) d.hr hmask ?_ ?_ ro
            · unfold stepX
              rw [hwm]
              simp only
              rw [← eop_congr maskTm_agree, ← callee_congr maskTm_agree, ← aop_congr maskTm_agree]
              split
              · rename_i hk; simp [isEff, hk] at hej
              · rename_i hk; simp [isEff, hk] at hej
              · rename_i hk; simp only [hk] at hform; exact hform
              · rename_i hk
                simp only [hk] at hform
                exact hform
              · rename_i hk
                simp only [hk] at hform
                exact hform
              · rename_i hk; simp [isEff, hk] at hej
            · rintro σ' v v' h' w' hext hr' hv hk
              obtain ⟨hf, hpay⟩ := payAll_spec hk
              have d' : DI P ops.toList pre base σ0 h0 w0 tm0 K (fun j => (listed.setIfInBounds i true).getD j false) σ' h' w' (a.put oj.dst v').tmps (⟨i, oj, v⟩ :: hist) rest' (doneM ||| 2 ^ i) (if f.eff then effs ||| 2 ^ i else effs) owed gh := by
                have sub : ∀ x, listed.getD x false = true → (listed.setIfInBounds i true).getD x false = true := by
                  intro x hx
                  by_cases hxi : x = i
                  · rw [hxi]; exact hl'
                  · rw [hne x hxi]; exact hx
                refine ⟨?_, hr', d.ext.trans hext, hord, ⟨⟨f, hs⟩, d.chain⟩, ?_, ?_, ⟨fun hh => ?_, ?_⟩, d.ghs.mono hext hback, ?_, Pres.mono d.pres hext hback, d.inj, d.all, ?_, ?_, hf⟩
                · intro x ox hox hx y hy
                  simp only at hx ⊢
                  by_cases hxi : x = i
                  · subst hxi
                    rw [ho] at hox
                    have : oj = ox := by simpa using hox
                    subst this
                    exact sub y (hah y hy)
                  · rw [hne x hxi] at hx
                    exact sub y (d.closed x ox hox hx y hy)
                · intro x hx hxe
                  simp at hx
                  rcases hx with rfl | hx
                  · exact hl'
                  · exact sub _ (d.effl x hx hxe)
                · intro x hx
                  have : x ≠ i := by
                    rintro rfl
                    obtain ⟨done', o3, f3, hs3, hsub⟩ := hord.at x hx
                    exact hs3.new (hsub x (by simp))
                  show (listed.setIfInBounds i true).getD x false = false
                  rw [hne x this]
                  exact d.unl x (by simp [hx])
                · have hh' : (listed.setIfInBounds i true).getD i false = false := hh
                  rw [hl'] at hh'; simp at hh'
                · refine d.ents.imp fun x hx tm hxl => ⟨hback _ hxl, fun hok => ⟨hok.noEff, ?_⟩⟩
                  obtain ⟨b2, k1, k2, k3⟩ := hok.want
                  refine ⟨b2, k1, k2, fun hb2 => ?_⟩
                  rcases k3 hb2 with k4 | k4 | ⟨k4, k5, k6, k7⟩ | k4
                  · exact .inl k4
                  · exact .inr (.inl k4)
                  rotate_left
                  · exact .inr (.inr (.inr k4))
                  · refine .inr (.inr (.inl ⟨k4, k5, ?_, k7⟩))
                    rcases hpay _ k7 with k8 | k8
                    · exfalso
                      have := d.closed.am (P := P) hs.op hs.inf hah k8
                      simp only at this
                      rw [hback _ hxl] at this; simp at this
                    · exact k8
                · have hn := hext.next
                  refine ⟨d.gho.one, fun a ha => Nat.lt_of_lt_of_le (d.gho.lt a ha) hn, d.gho.prn, fun i v hv => ?_, fun a ha => ?_⟩
                  · obtain ⟨id, q1, q2⟩ := d.gho.plt i v hv; exact ⟨id, q1, Nat.lt_of_lt_of_le q2 hn⟩
                  · obtain ⟨x, q1, q2⟩ := d.gho.mem a ha; exact ⟨x, by simp [q1], q2⟩
                · rw [d.len]; cases oj.dst <;> simp [Act.put]
                · intro t
                  have hlook : lookD tm0 (fun j => (listed.setIfInBounds i true).getD j false) t hist = lookD tm0 (fun j => listed.getD j false) t hist := by
                    refine lookD_congr fun x hx => hne _ fun hxi => ?_
                    exact hs.new (by rw [← hxi]; exact List.mem_map.2 ⟨x, hx, rfl⟩)
                  simp only [lookD, hl', true_and, hlook]
                  have hrel := (d.rel t).mono hext.le
                  cases hdd : oj.dst with
                  | none => simp only [Act.put]; rw [if_neg (by simp)]; exact hrel
                  | some dd =>
                    simp only [Act.put, Option.some.injEq]
                    by_cases ht : dd = t
                    · subst ht
                      by_cases hlt : dd < tm0.length
                      · rw [if_pos ⟨rfl, hlt⟩, Array.getD_eq_getD_getElem?, Array.getElem?_setIfInBounds_self_of_lt (by rw [← d.len]; exact hlt)]
                        exact hv
                      · rw [if_neg (fun hh => hlt hh.2)]
                        have hs' : ¬ dd < a.tmps.size := by rw [← d.len]; exact hlt
                        rw [Array.getD_eq_getD_getElem?] at hrel ⊢
                        simpa [Array.getElem?_setIfInBounds, hs'] using hrel
                    · rw [if_neg (fun hh => ht hh.1)]
                      rw [Array.getD_eq_getD_getElem?] at hrel ⊢
                      rw [Array.getElem?_setIfInBounds_ne ht]
                      exact hrel
              obtain ⟨hist', rest2, dM, ef, ow, gh2, h2, d2, hst2⟩ := d'.advance
              exact ih _ _ _ _ _ _ _ _ _ _ _ hsz' hleft' d2 hst2 (by rw [Act.put_defers', hdef])
end
end Go.Cn
