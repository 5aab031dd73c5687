/- The canonical semantics: functions. -/
import Derived.Test.YtfkhjbfddeahaaaCnS
import Derived.Laws.Sem
set_option linter.unusedVariables false
set_option linter.unusedSimpArgs false
namespace Go.Cn
section
variable {P : Program}

theorem cell_run {σ : Sg} {base : Nat} {h : Hp} {w : World} (hr : HR base σ h w) {t : TypeId} {x x' v : Value} (hl : cload P t x h = some v) (hx : VRel σ x x') :
    ∃ v', (do loadVar t (← asAddr x') : Sem Value).run P w = .ok v' w ∧ VRel σ v v' := by
  obtain ⟨v', h1, h2⟩ := cload_run hr hl hx
  refine ⟨v', ?_, h2⟩
  unfold cload at hl
  split at hl
  · obtain ⟨_, e, he, rfl⟩ := hx.ptr_inv
    exact h1
  · simp at hl

def resG (P : Program) (tm : List Value) (h : Hp) : ResultVar → Option Value
  | .tmp t => some (tm.getD t undef)
  | .cell a t => cload P t (tm.getD a undef) h

def resS (tmps : Array Value) : ResultVar → Sem Value
  | .tmp t => pure (tmps.getD t undef)
  | .cell a t => do loadVar t (← asAddr (tmps.getD a undef))

theorem results_list {σ : Sg} {base : Nat} {h : Hp} {w : World} (hr : HR base σ h w) {tm : List Value} {tmps : Array Value} (ht : TRel σ tm tmps) :
    ∀ (rs : List ResultVar) (vs : List Value), rs.mapM (resG P tm h) = some vs → ∃ vs', (rs.mapM (resS tmps)).run P w = .ok vs' w ∧ LRel σ vs vs'
  | [], vs, hv => by simp at hv; subst hv; exact ⟨[], rfl, LRel.nil σ⟩
  | r :: rs, vs, hv => by
    rw [List.mapM_cons] at hv
    rw [Option.bind_eq_bind, Option.bind_eq_some_iff] at hv
    obtain ⟨v, h1, hv⟩ := hv
    rw [Option.bind_eq_bind, Option.bind_eq_some_iff] at hv
    obtain ⟨vs1, h2, hv⟩ := hv
    simp at hv; subst hv
    obtain ⟨vs', h3, h4⟩ := results_list hr ht rs vs1 h2
    have h5 : ∃ v', (resS tmps r).run P w = .ok v' w ∧ VRel σ v v' := by
      cases r with
      | tmp t => simp [resG] at h1; subst h1; exact ⟨_, rfl, ht.2 t⟩
      | cell a t => exact cell_run hr h1 (ht.2 a)
    obtain ⟨v', h5, h6⟩ := h5
    refine ⟨v' :: vs', ?_, LRel.cons h6 h4⟩
    rw [List.mapM_cons]
    simp only [Sem.run_bind]
    rw [h5, Result.andThen_ok, h3]
    rfl

theorem results_eq (fn : Func) (tmps : Array Value) : results fn tmps = (do let vs ← List.toArray <$> fn.results.toList.mapM (resS tmps); pure (if h : vs.size = 1 then vs[0] else .tuple vs)) := by
  rw [← Array.mapM_eq_mapM_toList]
  unfold results
  congr 2

theorem resultsOf_eq (fn : Func) (tm : List Value) (h : Hp) : resultsOf P fn tm h = match fn.results.toList.mapM (resG P tm h) with
    | some [v] => some v
    | some vs => some (.tuple vs.toArray)
    | none => none := by
  unfold resultsOf
  congr 2

theorem results_run {σ : Sg} {base : Nat} {h : Hp} {w : World} (hr : HR base σ h w) {tm : List Value} {tmps : Array Value} (ht : TRel σ tm tmps) {fn : Func} {v : Value} (hv : resultsOf P fn tm h = some v) :
    ∃ v', (results fn tmps).run P w = .ok v' w ∧ VRel σ v v' := by
  rw [resultsOf_eq] at hv
  rw [results_eq]
  split at hv
  · rename_i v0 hm
    simp at hv; subst hv
    obtain ⟨vs', h1, h2⟩ := results_list hr ht _ _ hm
    simp only [Sem.run_bind, Sem.run_map]
    rw [h1]
    simp only [Result.andThen_ok]
    obtain ⟨hl, hg⟩ := h2
    match vs', hl with
    | [v'], _ => exact ⟨v', rfl, hg 0 _ _ rfl rfl⟩
  · rename_i vs hne hm
    simp at hv; subst hv
    obtain ⟨vs', h1, h2⟩ := results_list hr ht _ _ hm
    simp only [Sem.run_bind, Sem.run_map]
    rw [h1]
    simp only [Result.andThen_ok]
    obtain ⟨hl, hg⟩ := h2
    have hne1 : vs.length ≠ 1 := by
      intro h1
      match vs, h1 with
      | [v], _ => exact hne v rfl
    have hs : ¬ vs'.toArray.size = 1 := by simpa [← hl] using hne1
    refine ⟨.tuple vs'.toArray, by simp only [dif_neg hs]; rfl, .tuple _ _ (by simpa using hl) (by simpa using hne1) ?_⟩
    intro i x y hx hy
    exact hg i x y (by simpa using hx) (by simpa using hy)
  · simp at hv

/-- A function whose canonical run comes to K. -/
theorem SCalls_of (hm : P.follows .mixedOrders = true) {f : FuncId} {fn : Func} {c : Code} {ann : Nat → List Tmp} {args : List Value} {h : Hp} {K : Value → Hp → Prop}
    (hf : P.funcs[f]? = some fn) (hb : fn.body = some c) (hc : mayCall fn = true) (hx : bodyX P alP (SCalls P) ann fn c args h K) : SCalls P f args h K := by
  refine ⟨⟨fn, hf, by rw [hb]; rfl, hc⟩, fun base σ w rargs hr hl => ?_⟩
  refine calls_of_wp hf hb ?_
  have ht : TRel σ (args ++ List.replicate (fn.ntmps - args.length) undef) (rargs ++ Array.replicate (fn.ntmps - rargs.size) undef) := by
    have hlen : args.length = rargs.size := by simpa using hl.1
    refine ⟨by simp [hlen], fun i => ?_⟩
    rw [Array.getD_eq_getD_getElem?, List.getD_eq_getElem?_getD, List.getElem?_append, Array.getElem?_append]
    by_cases hi : i < args.length
    · rw [if_pos hi, if_pos (by rw [← hlen]; exact hi)]
      have h1 : rargs.toList[i]? = some (rargs[i]'(by rw [← hlen]; exact hi)) := by simp [hlen ▸ hi]
      have h2 : args[i]? = some args[i] := by simp [hi]
      have := hl.2 i _ _ h2 h1
      simpa [hi, hlen ▸ hi] using this
    · rw [if_neg hi, if_neg (by rw [← hlen]; exact hi), List.getElem?_replicate, Array.getElem?_replicate, hlen]
      split <;> exact VRel.undef σ
  refine xC_sound hm c hx hr ht ?_
  intro e σ' tm' h' a' w' he hr' ht' hd _ hk
  have hd' : a'.defers = [] := hd
  have fin : opt False (resultsOf P fn tm' h') (fun v => K v h') → a'.defers = [] ∧ ∃ v, (results fn a'.tmps).run P w' = .ok v w' ∧ ∃ v0 v0' h0 σ0, Ending.returned v = .returned v0' ∧ K v0 h0 ∧ VRel σ0 v0 v0' ∧ HR base σ0 h0 w' ∧ Ext base σ h w σ0 h0 w' := by
    intro hk
    cases hv : resultsOf P fn tm' h' with
    | none => simp [hv, opt] at hk
    | some v =>
      simp only [hv, opt] at hk
      obtain ⟨v', h1, h2⟩ := results_run hr' ht' hv
      exact ⟨hd', v', h1, v, v', h', σ', rfl, hk, h2, hr', he⟩
  cases e with
  | normal => exact fin hk
  | ret => exact fin hk
  | exit id => exact hk.elim
  | goto l => exact hk.elim
  | panic x => exact hk.elim
  | outgrown => exact hk.elim

end
end Go.Cn
