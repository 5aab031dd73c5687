/- The canonical semantics: contracts, one operation, a region in the text's order. -/
import Derived.Test.YtfkhjbfddeahaaaCnJ
set_option linter.unusedVariables false
set_option linter.unusedSimpArgs false
namespace Go.Cn

/-- A CONTRACT: from every state of the model that is related to the canonical one the call returns, and K holds of the canonical result and heap. -/
def SCalls (P : Program) (f : FuncId) (args : List Value) (h : Hp) (K : Value → Hp → Prop) : Prop :=
  (∃ fn, P.funcs[f]? = some fn ∧ fn.body.isSome = true ∧ mayCall fn = true) ∧
  ∀ (base : Nat) (σ : Sg) (w : World) (rargs : Array Value), HR base σ h w → LRel σ args rargs.toList →
    Calls P f rargs w fun e w' => ∃ v v' h' σ', e = .returned v' ∧ K v h' ∧ VRel σ' v v' ∧ HR base σ' h' w' ∧ Ext base σ h w σ' h' w'

theorem SCalls.mono {P : Program} {f : FuncId} {args : List Value} {h : Hp} {K K' : Value → Hp → Prop} (hc : SCalls P f args h K) (hk : ∀ v h, K v h → K' v h) : SCalls P f args h K' :=
  ⟨hc.1, fun base σ w rargs hr hl => (hc.2 base σ w rargs hr hl).mono fun _ _ ⟨v, v', h', σ', h1, h2, h3⟩ => ⟨v, v', h', σ', h1, hk _ _ h2, h3⟩⟩

section
variable {P : Program}

def asB : Value → Option Bool
  | .bool x => some x
  | _ => none

theorem wantsV_run {σ : Sg} {v v' : Value} {want b : Bool} (h : wantsV v want = some b) (hv : VRel σ v v') : (asB v' == some want) = b := by
  unfold wantsV at h
  split at h
  · obtain rfl := hv.bool_inv
    simp at h; subst h
    simp [asB]
  · rename_i vs
    split at h
    · rename_i hs
      have : vs = #[] := Array.eq_empty_of_size_eq_zero hs
      subst this
      obtain rfl := hv.undef_inv
      simp at h; subst h
      rfl
    · simp at h
  · simp at h

theorem wanted_run {σ : Sg} {ops : Array Oper} {tm : List Value} {tmps : Array Value} (ht : TRel σ tm tmps) {o : Oper} {b : Bool} (h : wants ops.toList tm o = some b) :
    Region.wanted o (yielded ops tmps) = b := by
  unfold wants at h
  unfold Region.wanted
  cases hg : o.guard with
  | none => simp [hg] at h; simp [h]
  | some jw =>
    obtain ⟨j, want⟩ := jw
    simp only [hg] at h ⊢
    unfold yielded
    simp only [Array.getElem?_toList] at h
    cases hd : (ops[j]?).bind (·.dst) with
    | none => simp [hd] at h; subst h; rfl
    | some d =>
      simp only [hd] at h
      have hv := ht.2 d
      have := wantsV_run h hv
      rw [← this]
      simp only [Option.bind_some]
      by_cases hl : d < tmps.size
      · rw [Array.getD_eq_getD_getElem?, Array.getElem?_eq_getElem hl]
        simp
        cases tmps[d] <;> rfl
      · rw [Array.getD_eq_getD_getElem?, Array.getElem?_eq_none (Nat.le_of_not_lt hl)]
        rfl

/-- What stands behind one operation. -/
def After (base : Nat) (σ : Sg) (h : Hp) (w : World) (a : Act) (dst : Option Tmp) (k : Value → Hp → Prop) (next : Act → World → Prop) : Prop :=
  ∀ σ' v v' h' w', Ext base σ h w σ' h' w' → HR base σ' h' w' → VRel σ' v v' → k v h' → next (a.put dst v') w'

theorem call_run {tm : List Value} {σ : Sg} {a : Act} (ht : TRel σ tm a.tmps) {o : Oper} {f : FuncId} {args : List Value} (hc : callee tm o.op = some (f, args))
    {fn : Func} (hf : P.funcs[f]? = some fn) (hb : fn.body.isSome = true) (hm : mayCall fn = true) (w : World) :
    ∃ rargs, LRel σ args rargs.toList ∧ (execOp a.eval o).run P w = .ok (.enter f rargs) w := by
  obtain ⟨dst, op, ty, pos, after, guard⟩ := o
  unfold callee at hc
  simp only at hc
  split at hc
  · rename_i g args' ats
    have hg := ev_rel ht g
    split at hc
    · rename_i f' first captured he
      simp at hc
      obtain ⟨rfl, rfl⟩ := hc
      rw [he] at hg
      obtain ⟨first', captured', e2, h1, h2⟩ := hg.func_inv
      refine ⟨first' ++ args'.map a.eval ++ captured', ?_, ?_⟩
      · have hm1 := ev_map ht args'
        have l1 : LRel σ first.toList first'.toList := LRel.of_agg h1.1 h1.2
        have l2 : LRel σ (args'.map (ev tm)).toList (args'.map a.eval).toList := LRel.of_agg hm1.1 hm1.2
        have l3 : LRel σ captured.toList captured'.toList := LRel.of_agg h2.1 h2.2
        have := (l1.append l2).append l3
        simpa using this
      · have hn : fn.body.isNone = false := by cases hbb : fn.body <;> simp_all
        have hmm : (fn.name == "runtime.NumGoroutine") = false := by simpa [mayCall] using hm
        simp only [beq_eq_false_iff_ne, ne_eq] at hmm
        simp [execOp, resolve, e2, Deferred.ofValue, invoke, callFunc, hf, hmm]
        intro hnone; rw [hnone] at hb; simp at hb
    · simp at hc
  · simp at hc

theorem stepX_sound {base : Nat} {σ : Sg} {h : Hp} {w : World} (hr : HR base σ h w) {tm : List Value} {a : Act} (ht : TRel σ tm a.tmps) {ops : Array Oper} {o : Oper} {k : Value → Hp → Prop}
    (hs : stepX P alP (SCalls P) ops.toList o tm h k) {next : Act → World → Prop} {Q : Exit → Act → World → Prop} (hn : After base σ h w a o.dst k next) :
    if Region.wanted o (yielded ops a.tmps) then o.wp P a w next Q ∨ (o.asks P a w ∧ LetsOut Q) else next (a.put o.dst undef) w := by
  unfold stepX at hs
  cases hw : wants ops.toList tm o with
  | none => simp [hw, alP] at hs
  | some b =>
    rw [wanted_run ht hw]
    simp only [hw] at hs
    have skip : ∀ {v : Value}, b = false → k undef h → next (a.put o.dst undef) w := fun hb hk => hn σ undef undef h w (Ext.refl _ _ _ _) hr (VRel.undef σ) hk
    cases b with
    | false =>
      simp only [Bool.false_eq_true, if_false] at hs ⊢
      refine skip (v := undef) rfl ?_
      split at hs <;> simpa [opt] using hs
    | true =>
      simp only [if_true] at hs ⊢
      left
      unfold Oper.wp
      split at hs
      · cases hp : pop P tm o.op with
        | none => simp [hp, opt, alP] at hs
        | some v =>
          obtain ⟨v', h1, h2⟩ := pop_run ht o hp w
          rw [h1]
          simp only [hp, opt] at hs
          exact hn σ v v' h w (Ext.refl _ _ _ _) hr h2 hs
      · cases hp : rop P tm o.op h with
        | none => simp [hp, opt, alP] at hs
        | some v =>
          obtain ⟨v', h1, h2⟩ := rop_run hr ht o hp
          rw [h1]
          simp only [hp, opt] at hs
          exact hn σ v v' h w (Ext.refl _ _ _ _) hr h2 hs
      · cases hp : eop P tm o.op h with
        | none => simp [hp, opt, alP] at hs
        | some vh =>
          obtain ⟨v, h'⟩ := vh
          obtain ⟨σ', nx, v', w', h1, h2, h3, h4, h5⟩ := eop_run hr ht o hp
          rw [h1]
          simp only [hp, opt] at hs
          rcases h2 with rfl | ⟨rfl, rfl⟩
          · exact hn σ' v v' h' w' h5 h4 h3 hs
          · exact hn σ' v undef h' w' h5 h4 h3 hs
      · cases hp : callee tm o.op with
        | none => simp [hp, opt, alP] at hs
        | some fa =>
          obtain ⟨f, args⟩ := fa
          simp only [hp, opt] at hs
          obtain ⟨⟨fn, hf, hb, hm⟩, hcall⟩ := hs
          obtain ⟨rargs, hl, hrun⟩ := call_run ht hp hf hb hm w
          rw [hrun]
          refine (hcall base σ w rargs hr hl).mono ?_
          rintro e w' ⟨v, v', h', σ', rfl, hk, hv, hr', he⟩
          exact hn σ' v v' h' w' he hr' hv hk

theorem xOps_sound {ops : Array Oper} {Q : Exit → Act → World → Prop} : ∀ (rest : List Oper) (i : Nat) {base : Nat} {σ : Sg} {h : Hp} {w : World} {tm : List Value} {a : Act} {K : List Value → Hp → Prop},
    rest = ops.toList.drop i → HR base σ h w → TRel σ tm a.tmps → xOps P alP (SCalls P) ops.toList rest tm h K →
    (∀ σ' tm' h' a' w', Ext base σ h w σ' h' w' → HR base σ' h' w' → TRel σ' tm' a'.tmps → a'.defers = a.defers → K tm' h' → Q .normal a' w') →
    wpOps P ops Q (List.range' i (ops.size - i)) a w
  | [], i, base, σ, h, w, tm, a, K, he, hr, ht, hx, hQ => by
    have : ops.size - i = 0 := by
      have := congrArg List.length he
      simp at this; omega
    rw [this]
    simp only [List.range'_zero, wpOps]
    exact hQ σ tm h a w (Ext.refl _ _ _ _) hr ht rfl hx
  | o :: rest, i, base, σ, h, w, tm, a, K, he, hr, ht, hx, hQ => by
    have hi : i < ops.size := by
      rcases Nat.lt_or_ge i ops.size with h1 | h1
      · exact h1
      · rw [List.drop_eq_nil_of_le (by simpa using h1)] at he; simp at he
    have ho : ops[i]? = some o := by
      have := congrArg (fun l : List Oper => l[0]?) he
      simp at this
      exact this.symm
    have hrest : rest = ops.toList.drop (i + 1) := by
      have := congrArg List.tail he
      simpa using this
    rw [show ops.size - i = (ops.size - (i + 1)) + 1 by omega, List.range'_succ, wpOps_cons]
    unfold wpOp
    rw [ho]
    refine stepX_sound hr ht hx ?_
    intro σ' v v' h' w' hext hr' hv hk
    refine xOps_sound rest (i + 1) hrest hr' ((ht.mono hext.le).put o.dst hv) hk ?_
    intro σ2 tm2 h2 a2 w2 e2 r2 t2 d2 k2
    exact hQ σ2 tm2 h2 a2 w2 (hext.trans e2) r2 t2 (by rw [d2, Act.put_defers']) k2
end
end Go.Cn
