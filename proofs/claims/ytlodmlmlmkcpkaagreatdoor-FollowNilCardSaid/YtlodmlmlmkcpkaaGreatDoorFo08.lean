/- Joined: CnT, CnU. -/
import Derived.Test.YtlodmlmlmkcpkaaGreatDoorFo07
import Derived.Laws.Sem
/- The canonical semantics: functions. -/
set_option linter.unusedVariables false
set_option linter.unusedSimpArgs false
namespace Go.Cn
section
variable {P : Program}

theorem cell_run {σ : Sg} {base : Nat} {h : Hp} {w : World} (hr : HR base σ h w) {t : TypeId} {x x' v : Value} (hl : cload P t x h = some v) (hx : VRel σ x x') :
    ∃ v', (do loadVar t (← asAddr x') : Sem Value).run P w = .ok v' w ∧ VRel σ v v' := by
  obtain ⟨v', h1, h2⟩ := cload_run hr hl hx
  refine ⟨v', ?_, h2⟩
  unfold cload at hl
  split at hl
  · obtain ⟨_, e, he, rfl⟩ := hx.ptr_inv
    exact h1
  · simp at hl

def resG (P : Program) (tm : List Value) (h : Hp) : ResultVar → Option Value
  | .tmp t => some (tm.getD t undef)
  | .cell a t => cload P t (tm.getD a undef) h

def resS (tmps : Array Value) : ResultVar → Sem Value
  | .tmp t => pure (tmps.getD t undef)
  | .cell a t => do loadVar t (← asAddr (tmps.getD a undef))

theorem results_list {σ : Sg} {base : Nat} {h : Hp} {w : World} (hr : HR base σ h w) {tm : List Value} {tmps : Array Value} (ht : TRel σ tm tmps) :
    ∀ (rs : List ResultVar) (vs : List Value), rs.mapM (resG P tm h) = some vs → ∃ vs', (rs.mapM (resS tmps)).run P w = .ok vs' w ∧ LRel σ vs vs'
  | [], vs, hv => by simp at hv; subst hv; exact ⟨[], rfl, LRel.nil σ⟩
  | r :: rs, vs, hv => by
    rw [List.mapM_cons] at hv
    rw [Option.bind_eq_bind, Option.bind_eq_some_iff] at hv
    obtain ⟨v, h1, hv⟩ := hv
    rw [Option.bind_eq_bind, Option.bind_eq_some_iff] at hv
    obtain ⟨vs1, h2, hv⟩ := hv
    simp at hv; subst hv
    obtain ⟨vs', h3, h4⟩ := results_list hr ht rs vs1 h2
    have h5 : ∃ v', (resS tmps r).run P w = .ok v' w ∧ VRel σ v v' := by
      cases r with
      | tmp t => simp [resG] at h1; subst h1; exact ⟨_, rfl, ht.2 t⟩
      | cell a t => exact cell_run hr h1 (ht.2 a)
    obtain ⟨v', h5, h6⟩ := h5
    refine ⟨v' :: vs', ?_, LRel.cons h6 h4⟩
    rw [List.mapM_cons]
    simp only [Sem.run_bind]
    rw [h5, Result.andThen_ok, h3]
    rfl

theorem results_eq (fn : Func) (tmps : Array Value) : results fn tmps = (do let vs ← List.toArray <$> fn.results.toList.mapM (resS tmps); pure (if h : vs.size = 1 then vs[0] else .tuple vs)) := by
  rw [← Array.mapM_eq_mapM_toList]
  unfold results
  congr 2

theorem resultsOf_eq (fn : Func) (tm : List Value) (h : Hp) : resultsOf P fn tm h = match fn.results.toList.mapM (resG P tm h) with
    | some [v] => some v
    | some vs => some (.tuple vs.toArray)
    | none => none := by
  unfold resultsOf
  congr 2

theorem results_run {σ : Sg} {base : Nat} {h : Hp} {w : World} (hr : HR base σ h w) {tm : List Value} {tmps : Array Value} (ht : TRel σ tm tmps) {fn : Func} {v : Value} (hv : resultsOf P fn tm h = some v) :
    ∃ v', (results fn tmps).run P w = .ok v' w ∧ VRel σ v v' := by
  rw [resultsOf_eq] at hv
  rw [results_eq]
  split at hv
  · rename_i v0 hm
    simp at hv; subst hv
    obtain ⟨vs', h1, h2⟩ := results_list hr ht _ _ hm
    simp only [Sem.run_bind, Sem.run_map]
    rw [h1]
    simp only [Result.andThen_ok]
    obtain ⟨hl, hg⟩ := h2
    match vs', hl with
    | [v'], _ => exact ⟨v', rfl, hg 0 _ _ rfl rfl⟩
  · rename_i vs hne hm
    simp at hv; subst hv
    obtain ⟨vs', h1, h2⟩ := results_list hr ht _ _ hm
    simp only [Sem.run_bind, Sem.run_map]
    rw [h1]
    simp only [Result.andThen_ok]
    obtain ⟨hl, hg⟩ := h2
    have hne1 : vs.length ≠ 1 := by
      intro h1
      match vs, h1 with
      | [v], _ => exact hne v rfl
    have hs : ¬ vs'.toArray.size = 1 := by simpa [← hl] using hne1
    refine ⟨.tuple vs'.toArray, by simp only [dif_neg hs]; rfl, .tuple _ _ (by simpa using hl) (by simpa using hne1) ?_⟩
    intro i x y hx hy
    exact hg i x y (by simpa using hx) (by simpa using hy)
  · simp at hv

/-- The marks are come to: their blocks are shut. -/
theorem leaves_marks {fn : Func} {tmps : Array Value} {R : Ending → World → Prop} {F : Fence} {n : Nat} (base : Nat) (σ : Sg) (h : Hp) (w0 : World) (σ0 : Sg) (h0 : Hp) :
    ∀ (ms : List Nat) (w : World), ms.Nodup → (∀ r ∈ ms, w0.heap.size ≤ r ∧ w.heap[r]? = some (.deferred (some [])) ∧ ∀ b e, σ b = some e → e.rb ≠ r) → HR base σ h w → Ext base σ0 h0 w0 σ h w → base ≤ w0.heap.size →
    (∀ w', HR base σ h w' → Ext base σ0 h0 w0 σ h w' → ∃ v, (results fn tmps).run P w' = .ok v w' ∧ R (.returned v) w') → LeavesInM F n P fn tmps R (ms.map mk) .returning w
  | [], w, _, _, hr, he, _, hk => hk w hr he
  | r :: ms, w, hnd, hms, hr, he, hb, hk => by
    obtain ⟨q1, q2, q3⟩ := hms r (by simp)
    refine ⟨by simp, .inl ⟨r, _, rfl, run_takeDeferred q2, ?_⟩⟩
    have hother : ∀ k, k ≠ r → (w.putObj r (.deferred none)).heap[k]? = w.heap[k]? := fun k hk => World.putObj_heap_other hk
    have hr' : HR base σ h (w.putObj r (.deferred none)) := by
      refine ⟨by simpa using hr.base_le, fun b e hb => by simpa using hr.dom b e hb, hr.fresh, ?_, hr.grp, hr.gdom, hr.stack, hr.nest, hr.apart, ?_⟩
      · intro b e cs t g h1 h2 h3
        exact (hr.cell b e cs t g h1 h2 h3).grown (hother _ (q3 b e h1))
      · intro b e o h1 h2 h3
        obtain ⟨p1, p2, ⟨x, p3, p4⟩, p5⟩ := hr.oth b e o h1 h2 h3
        exact ⟨p1, p2, ⟨x, by rw [hother _ (q3 b e h1)]; exact p3, p4⟩, p5⟩
    have he' : Ext base σ0 h0 w0 σ h (w.putObj r (.deferred none)) := by
      refine ⟨he.le, he.os, he.tape, he.output, by simpa using he.size, fun k hk => by rw [hother k (by omega)]; exact he.below k hk, fun k hk hno => by rw [hother k (by omega)]; exact he.other k hk hno, he.img, he.next, he.untouched⟩
    have hnd' := List.nodup_cons.1 hnd
    refine leaves_marks base σ h w0 σ0 h0 ms _ hnd'.2 ?_ hr' he' hb hk
    intro r' hr''
    obtain ⟨k1, k2, k3⟩ := hms r' (by simp [hr''])
    exact ⟨k1, by rw [hother r' (by rintro rfl; exact hnd'.1 hr'')]; exact k2, k3⟩

/-- A function whose canonical run comes to K. -/
theorem SCalls_of (hm : P.follows .mixedOrders = true) {f : FuncId} {fn : Func} {c : Code} {ann : Nat → List Tmp} {args : List Value} {h : Hp} {K : Value → Hp → Prop}
    (hf : P.funcs[f]? = some fn) (hb : fn.body = some c) (hc : mayCall fn = true) (hx : bodyX P alP (SCalls P) f ann fn c args h K) : SCalls P f args h K := by
  refine .inl ⟨⟨fn, hf, by rw [hb]; rfl, hc⟩, fun base σ w rargs hr hl => ?_⟩
  refine callsIn_free' (ro := none) (callsIn_of_wp_marks hf hb trivial ?_)
  have ht : TRel σ (args ++ List.replicate (fn.ntmps - args.length) undef) (rargs ++ Array.replicate (fn.ntmps - rargs.size) undef) := by
    have hlen : args.length = rargs.size := by simpa using hl.1
    refine ⟨by simp [hlen], fun i => ?_⟩
    rw [Array.getD_eq_getD_getElem?, List.getD_eq_getElem?_getD, List.getElem?_append, Array.getElem?_append]
    by_cases hi : i < args.length
    · rw [if_pos hi, if_pos (by rw [← hlen]; exact hi)]
      have h1 : rargs.toList[i]? = some (rargs[i]'(by rw [← hlen]; exact hi)) := by simp [hlen ▸ hi]
      have h2 : args[i]? = some args[i] := by simp [hi]
      have := hl.2 i _ _ h2 h1
      simpa [hi, hlen ▸ hi] using this
    · rw [if_neg hi, if_neg (by rw [← hlen]; exact hi), List.getElem?_replicate, Array.getElem?_replicate, hlen]
      split <;> exact VRel.undef σ
  refine xC_sound hm c hx (show CxRel ⟨f, none⟩ σ none from rfl) hr ht ?_
  intro e σ' tm' h' a' w' he hr' ht' hmk _ hk
  have fin : opt False (resultsOf P fn tm' h') (fun v => K v h') → LeavesInM (freeF none) 0 P fn a'.tmps (Post base σ h w K) a'.defers .returning w' := by
    intro hk
    cases hv : resultsOf P fn tm' h' with
    | none => simp [hv, opt] at hk
    | some v =>
      simp only [hv, opt] at hk
      obtain ⟨ms, hd, hnd, hms⟩ := hmk
      have hd' : a'.defers = ms.map mk := by simpa using hd
      rw [hd']
      refine leaves_marks base σ' h' w σ h ms w' hnd hms hr' he hr.base_le ?_
      intro w2 hr2 he2
      obtain ⟨v', h1, h2⟩ := results_run hr2 ht' hv
      exact ⟨v', h1, v, v', h', σ', rfl, hk, h2, hr2, he2⟩
  cases e with
  | normal => exact fin hk
  | ret => exact fin hk
  | exit id => exact hk.elim
  | goto l => exact hk.elim
  | panic x => exact hk.elim
  | outgrown => exact hk.elim

/-! ### Rounds -/
theorem setArgs_rel {σ : Sg} : ∀ (ps : List Tmp) (args rargs : List Value) (tm : List Value) (tmps : Array Value), LRel σ args rargs → TRel σ tm tmps →
    TRel σ (setArgs ps args tm) ((ps.zip rargs).foldl (fun tmps (t, a) => tmps.setIfInBounds t a) tmps)
  | [], args, rargs, tm, tmps, _, ht => by simpa [setArgs] using ht
  | t :: ps, [], rargs, tm, tmps, hl, ht => by
    have : rargs = [] := List.eq_nil_of_length_eq_zero hl.1.symm
    subst this; simpa [setArgs] using ht
  | t :: ps, v :: args, rargs, tm, tmps, hl, ht => by
    match rargs, hl with
    | u :: rargs, hl =>
      have hv : VRel σ v u := hl.2 0 v u rfl rfl
      have hl' : LRel σ args rargs := ⟨by simpa using hl.1, fun i x y hx hy => hl.2 (i + 1) x y (by simpa using hx) (by simpa using hy)⟩
      simp only [setArgs, List.zip_cons_cons, List.foldl_cons]
      refine setArgs_rel ps args rargs _ _ hl' ?_
      have := TRel.put (a := { tmps := tmps, defers := [] }) ht (some t) hv
      exact this
    | [], hl => simp [LRel] at hl

theorem SCalls_of_round (hm : P.follows .mixedOrders = true) {ann : FuncId → Nat → List Tmp} {l : Nat} {args : List Value} {h : Hp} {K : Value → Hp → Prop}
    (hx : roundX P alP (SCalls P) ann l args h K) : SCalls P (P.funcs.size + l) args h K := by
  refine .inr ⟨l, rfl, fun base σ w rargs e hr hl he => ?_⟩
  unfold roundX at hx
  split at hx
  rotate_left; · exact hx.elim
  rename_i r hlr
  split at hx
  rotate_left; · exact hx.elim
  rename_i hlen
  obtain ⟨r', q1, q2, q3, q4, q5, q6, q7, q8⟩ := hr.loopAt he (loopAt_ob hlr)
  have hps : r'.params.size = r.params.length := by rw [← q6]; simp
  have hra : rargs.size = args.length := by have := hl.1; simp at this; omega
  refine ⟨r', q1, by omega, ?_⟩
  rw [q7, q8]
  refine roundIn_of_wpIn trivial ?_
  have ht : TRel σ (setArgs r.params args r.tm) (roundTmps r' rargs) := by
    have := setArgs_rel r.params args rargs.toList r.tm r'.tmps hl q5
    unfold roundTmps
    rw [← Array.foldl_toList, Array.toList_zip, q6]
    exact this
  refine xC_sound (cx := ⟨r.fn, some l⟩) (ro := some e.rb) (a := { tmps := roundTmps r' rargs, defers := [] }) hm r.assign hx ⟨e, he, rfl⟩ hr ht ?_
  intro e1 σ1 tm1 h1 a1 w1 he1 hr1 ht1 _ _ hk
  cases e1 with
  | normal =>
    simp only at hk
    split at hk
    rotate_left; · exact hk.elim
    rename_i r2 hl2
    split at hk
    rotate_left; · exact hk.elim
    rename_i hready
    have he' := he1.le _ _ he
    obtain ⟨r2', p1, p2, p3, p4, p5, p6, p7, p8⟩ := hr1.loopAt he' (loopAt_ob hl2)
    obtain ⟨k1, k2⟩ := hr1.setOth (o' := .loop { r2 with state := .busy }) (r' := .loop { r2' with state := .busy }) he' (loopAt_ob hl2) rfl rfl ⟨rfl, p4, p5, p6, p7, p8⟩
    refine ⟨_, run_beginRound p1 (by rw [p3]; exact hready), ?_⟩
    refine xC_sound (cx := ⟨r.fn, some l⟩) (ro := some e.rb) hm r.body hk ⟨e, he', rfl⟩ k1 ht1 ?_
    intro e3 σ3 tm3 h3 a3 w3 he3 hr3 ht3 _ _ hk3
    have he3' := he3.le _ _ he'
    unfold endX at hk3
    split at hk3
    rotate_left; · exact hk3.elim
    rename_i r3 hl3
    obtain ⟨r3', s1, s2, s3, s4, s5, s6, s7, s8⟩ := hr3.loopAt he3' (loopAt_ob hl3)
    have fin : ∀ (jump : Option Code) (b : Bool), jump.isNone = b → K (.bool b) (h3.setOb l (.loop { r3 with state := if jump.isNone then .ready else .done, pending := jump })) →
        ∃ v w4, (Instr.endRound e.rb jump).run P w3 = .ok v w4 ∧ Post base σ h w K (.returned v) w4 := by
      intro jump b hb hkb
      obtain ⟨t1, t2⟩ := hr3.setOth (o' := .loop { r3 with state := if jump.isNone then .ready else .done, pending := jump }) (r' := .loop { r3' with state := if jump.isNone then .ready else .done, pending := jump }) he3' (loopAt_ob hl3) rfl rfl ⟨rfl, rfl, s5, s6, s7, s8⟩
      exact ⟨_, _, run_endRound jump s1, .bool b, _, _, σ3, rfl, hkb, by rw [hb]; exact .bool b, t1, (he1.trans k2).trans (he3.trans t2)⟩
    cases e3 with
    | normal => exact fin none true rfl hk3
    | ret => exact fin (some .ret) false rfl hk3
    | exit id => exact fin (some (.exit id)) false rfl hk3
    | goto t => exact hk3.elim
    | panic x => exact hk3.elim
    | outgrown => exact hk3.elim
  | ret => exact hk.elim
  | exit id => exact hk.elim
  | goto t => exact hk.elim
  | panic x => exact hk.elim
  | outgrown => exact hk.elim

end
end Go.Cn

/- The canonical semantics: what evaluates to true is so. -/
set_option linter.unusedVariables false
set_option linter.unusedSimpArgs false
namespace Go.Cn
section
variable {P : Program}

theorem bytes_eq {a b : ByteArray} (h : a.data.toList = b.data.toList) : a = b := by
  cases a; cases b; simp at h; simp [h]

theorem same_arr {n : Nat} (ih : ∀ (x y : Value), sameV n x y = true → x = y) {a b : Array Value} (h1 : a.size = b.size) (h2 : ((a.toList.zip b.toList).all fun (x, y) => sameV n x y) = true) : a = b := by
  rw [List.all_eq_true] at h2
  refine Array.ext h1 fun i g1 g2 => ?_
  refine ih _ _ (h2 (a[i], b[i]) ?_)
  rw [List.mem_iff_getElem?]
  exact ⟨i, by simp [List.getElem?_zip_eq_some, g1, g2]⟩

theorem sameV_eq : ∀ (n : Nat) (x y : Value), sameV n x y = true → x = y := by
  intro n
  induction n with
  | zero =>
    intro x y h
    cases x <;> cases y <;> simp [sameV] at h <;> first | exact congrArg _ (bytes_eq (by simp [h])) | simp_all
  | succ n ih =>
    intro x y h
    cases x <;> cases y <;> simp only [sameV, Bool.false_eq_true] at h
    case string.string => exact congrArg _ (bytes_eq (by simpa using h))
    case agg.agg a b =>
      simp only [Bool.and_eq_true, beq_iff_eq, List.all_eq_true] at h
      congr 1
      refine Array.ext h.1 fun i h1 h2 => ?_
      refine ih _ _ (h.2 (a[i], b[i]) ?_)
      rw [List.mem_iff_getElem?]
      exact ⟨i, by simp [List.getElem?_zip_eq_some, h1, h2]⟩
    case func.func =>
      simp only [Bool.and_eq_true, beq_iff_eq, decide_eq_true_eq] at h
      obtain ⟨⟨h1, h2, h3⟩, h4, h5⟩ := h
      rw [h1, same_arr ih h2 h3, same_arr ih h4 h5]
    case iface.iface =>
      simp only [Bool.and_eq_true, beq_iff_eq] at h
      rw [h.1, ih _ _ h.2]
    all_goals first | rfl | (simp at h; simp_all)

/-- What a call in evaluation is for. -/
def CallOk (P : Program) (cB : FuncId → List Value → Hp → (Value → Hp → Bool) → Bool) : Prop := ∀ f args h k, cB f args h k = true → SCalls P f args h fun v h' => k v h' = true

theorem opt_ok {α : Type} {m : Nat} {x : Option α} {f : α → Bool} {g : α → Prop} (h : opt (alB m).bot x f = true) (hk : ∀ a, f a = true → g a) : opt alP.bot x g := by
  cases x with
  | none => simp [opt, alB] at h
  | some a => exact hk a h

variable {m : Nat} {cB : FuncId → List Value → Hp → (Value → Hp → Bool) → Bool}

theorem stepX_ok (hc : CallOk P cB) {ops : List Oper} {o : Oper} {tm : List Value} {h : Hp} {k : Value → Hp → Bool} {K : Value → Hp → Prop} (hx : stepX P (alB m) cB ops o tm h k = true) (hk : ∀ v h, k v h = true → K v h) :
    stepX P alP (SCalls P) ops o tm h K := by
  unfold stepX at hx ⊢
  split at hx
  · simp [alB] at hx
  · split at hx
    · exact opt_ok hx fun v => hk v _
    · exact opt_ok hx fun v => hk v _
    · exact opt_ok hx fun r => hk _ _
    · split at hx
      · rename_i hw; try rw [if_pos hw]
        exact opt_ok hx fun fa ha => (hc _ _ _ _ ha).mono hk
      · rename_i hw; try rw [if_neg hw]
        exact hk _ _ hx
    · split at hx
      · rename_i hw; try rw [if_pos hw]
        refine opt_ok hx fun l hl => ?_
        intro r hr
        obtain ⟨x, hx, rfl⟩ := List.mem_map.1 hr
        refine hk _ _ ?_
        have := List.all_eq_true.1 (show (l.map fun r => k r.1 r.2).all id = true from hl) _ (List.mem_map.2 ⟨x, hx, rfl⟩)
        exact this
      · rename_i hw; try rw [if_neg hw]
        exact hk _ _ hx
    · exact opt_ok hx fun r => hk _ _

theorem xOps_ok (hc : CallOk P cB) {ops : List Oper} {k : List Value → Hp → Bool} {K : List Value → Hp → Prop} (hk : ∀ tm h, k tm h = true → K tm h) : ∀ {rest : List Oper} {tm : List Value} {h : Hp}, xOps P (alB m) cB ops rest tm h k = true → xOps P alP (SCalls P) ops rest tm h K
  | [], tm, h, hx => hk _ _ hx
  | o :: rest, tm, h, hx => by
    simp only [xOps] at hx ⊢
    exact stepX_ok hc hx fun v h' => xOps_ok hc hk

theorem payAll_ok {am : Nat} {h : Hp} {r : Bool} {R : Prop} (hr : r = true → R) : ∀ {owed : List Owed}, payAll P (alB m) am h owed r = true → payAll P alP am h owed R
  | [], hx => hr hx
  | d :: owed, hx => by
    unfold payAll at hx ⊢
    simp only [List.foldr_cons] at hx ⊢
    split
    · rename_i hb; rw [if_pos hb] at hx; exact payAll_ok hr hx
    · rename_i hb
      rw [if_neg hb] at hx
      simp only [alB, Bool.and_eq_true, Option.any_eq_true] at hx
      obtain ⟨⟨y, hy, hs⟩, h2⟩ := hx
      exact ⟨by rw [hy, sameV_eq _ _ _ hs], payAll_ok hr h2⟩

theorem xDraw_ok (hc : CallOk P cB) {L : List Oper} {fs : List Inf} {pre : List (Option Value)} {k : List Value → Hp → Bool} {K : List Value → Hp → Prop} (hk : ∀ tm h, k tm h = true → K tm h) :
    ∀ {rest : List Nat} {tm : List Value} {owed : List Owed} {h : Hp}, xDraw P (alB m) cB L fs pre rest tm owed h k = true → xDraw P alP (SCalls P) L fs pre rest tm owed h K
  | [], tm, owed, h, hx => hk _ _ hx
  | i :: rest, tm, owed, h, hx => by
    have ih := fun {tm} {owed} {h} => xDraw_ok hc (L := L) (fs := fs) (pre := pre) hk (rest := rest) (tm := tm) (owed := owed) (h := h)
    simp only [xDraw] at hx ⊢
    split at hx
    · rename_i o f e1 e2
      split at hx
      · simp [alB] at hx
      · split at hx
        · exact ih hx
        · split at hx
          · exact opt_ok hx fun v => ih
          · exact opt_ok hx fun v => ih
          · exact opt_ok hx fun r => payAll_ok ih
          · split at hx
            · rename_i hw; try rw [if_pos hw]
              exact opt_ok hx fun fa ha => (hc _ _ _ _ ha).mono fun v h' => payAll_ok ih
            · rename_i hw; try rw [if_neg hw]
              exact payAll_ok ih hx
          · split at hx
            · rename_i hw; try rw [if_pos hw]
              refine opt_ok hx fun l hl r hr => ?_
              obtain ⟨x, hx, rfl⟩ := List.mem_map.1 hr
              have := List.all_eq_true.1 (show (l.map fun r => payAll P (alB m) f.am r.2 owed (xDraw P (alB m) cB L fs pre rest (put tm o.dst r.1) owed r.2 k)).all id = true from hl) _ (List.mem_map.2 ⟨x, hx, rfl⟩)
              exact payAll_ok ih this
            · rename_i hw; try rw [if_neg hw]
              exact payAll_ok ih hx
          · exact opt_ok hx fun r => ih
    · simp [alB] at hx

theorem xRegion_ok (hc : CallOk P cB) {ops : List Oper} {tm : List Value} {h : Hp} {k : List Value → Hp → Bool} {K : List Value → Hp → Prop} (hk : ∀ tm h, k tm h = true → K tm h) (hx : xRegion P (alB m) cB ops tm h k = true) : xRegion P alP (SCalls P) ops tm h K := by
  unfold xRegion at hx ⊢
  split at hx
  · rename_i ho; rw [if_pos ho]; exact opt_ok hx fun r => xDraw_ok hc hk
  · simp [alB] at hx

theorem loopX_ok {kp : List Tmp} {body : (Exit → List Value → Hp → Bool) → List Value → Hp → Bool} {bodyP : (Exit → List Value → Hp → Prop) → List Value → Hp → Prop}
    (hb : ∀ (k : Exit → List Value → Hp → Bool) (K : Exit → List Value → Hp → Prop), (∀ e tm h, k e tm h = true → K e tm h) → ∀ vals h, body k vals h = true → bodyP K vals h)
    {k : Exit → List Value → Hp → Bool} {K : Exit → List Value → Hp → Prop} (hk : ∀ e tm h, k e tm h = true → K e tm h) : ∀ (n : Nat) (vals : List Value) (h : Hp), loopX (alB m).bot body kp k n vals h = true → loopX alP.bot bodyP kp K n vals h
  | 0, vals, h, hx => by simp [loopX, alB] at hx
  | n + 1, vals, h, hx => by
    unfold loopX at hx ⊢
    refine hb _ _ ?_ vals h hx
    intro e tm h' he
    cases e with
    | normal => exact loopX_ok hb hk n _ h' he
    | exit id => exact hk _ _ _ he
    | goto l => exact hk _ _ _ he
    | ret => exact hk _ _ _ he
    | panic c => exact hk _ _ _ he
    | outgrown => exact hk _ _ _ he

theorem loopW_ok {body : (Exit → List Value → Hp → Bool) → List Value → Hp → Bool} {bodyP : (Exit → List Value → Hp → Prop) → List Value → Hp → Prop}
    (hb : ∀ (k : Exit → List Value → Hp → Bool) (K : Exit → List Value → Hp → Prop), (∀ e tm h, k e tm h = true → K e tm h) → ∀ vals h, body k vals h = true → bodyP K vals h)
    {k : Exit → List Value → Hp → Bool} {K : Exit → List Value → Hp → Prop} (hk : ∀ e tm h, k e tm h = true → K e tm h) : ∀ (n : Nat) (vals : List Value) (h : Hp), loopW (alB m).bot body k n vals h = true → loopW alP.bot bodyP K n vals h
  | 0, vals, h, hx => by simp [loopW, alB] at hx
  | n + 1, vals, h, hx => by
    unfold loopW at hx ⊢
    refine hb _ _ ?_ vals h hx
    intro e tm h' he
    cases e with
    | normal => exact loopW_ok hb hk n _ h' he
    | exit id => exact hk _ _ _ he
    | goto l => exact hk _ _ _ he
    | ret => exact hk _ _ _ he
    | panic c => exact hk _ _ _ he
    | outgrown => exact hk _ _ _ he

theorem xC_ok (hc : CallOk P cB) {cx : Cx} {ann : Nat → List Tmp} : ∀ (c : Code) {k : Exit → List Value → Hp → Bool} {K : Exit → List Value → Hp → Prop} {tm : List Value} {h : Hp}, (∀ e tm h, k e tm h = true → K e tm h) → xC P (alB m) cB cx ann c k tm h = true → xC P alP (SCalls P) cx ann c K tm h
  | .skip, k, K, tm, h, hk, hx => hk _ _ _ hx
  | .exit id, k, K, tm, h, hk, hx => hk _ _ _ hx
  | .ret, k, K, tm, h, hk, hx => hk _ _ _ hx
  | .label l, k, K, tm, h, hk, hx => hk _ _ _ hx
  | .region id ops false, k, K, tm, h, hk, hx => xOps_ok hc (fun tm h => hk _ _ _) hx
  | .region id ops true, k, K, tm, h, hk, hx => xRegion_ok hc (fun tm h => hk _ _ _) hx
  | .seq x y, k, K, tm, h, hk, hx => by
    refine xC_ok hc x ?_ hx
    intro e tm h he
    cases e with
    | normal => exact xC_ok hc y hk he
    | exit id => exact hk _ _ _ he
    | goto l => exact hk _ _ _ he
    | ret => exact hk _ _ _ he
    | panic c => exact hk _ _ _ he
    | outgrown => exact hk _ _ _ he
  | .cond c x y, k, K, tm, h, hk, hx => by
    simp only [xC] at hx ⊢
    split at hx
    · rename_i t he
      cases t with
      | true => simp only [if_true] at hx ⊢; exact xC_ok hc x hk hx
      | false => simp only [Bool.false_eq_true, if_false] at hx ⊢; exact xC_ok hc y hk hx
    · simp [alB] at hx
  | .block id c, k, K, tm, h, hk, hx => by
    refine xC_ok hc c ?_ hx
    intro e tm h he
    cases e with
    | exit i =>
      simp only at he ⊢
      split at he
      · rename_i hi; rw [if_pos hi]; exact hk _ _ _ he
      · rename_i hi; rw [if_neg hi]; exact hk _ _ _ he
    | normal => exact hk _ _ _ he
    | goto l => exact hk _ _ _ he
    | ret => exact hk _ _ _ he
    | panic c => exact hk _ _ _ he
    | outgrown => exact hk _ _ _ he
  | .loop c, k, K, tm, h, hk, hx => by
    simp only [xC] at hx ⊢
    split at hx
    · rename_i hka
      rw [if_pos hka]
      exact ⟨m, loopW_ok (m := m) (body := fun k tm h => xC P (alB m) cB cx ann c k tm h) (bodyP := fun k tm h => xC P alP (SCalls P) cx ann c k tm h) (fun k K hk vals h => xC_ok hc c hk) hk m _ h hx⟩
    rename_i hka
    rw [if_neg hka]
    refine ⟨m, ?_⟩
    have hx' : loopX (alB m).bot (fun k vals h => xC P (alB m) cB cx ann c k (setKeep (ann ((firstRegion c).getD 0)) vals 0 (forget (wr c) (ann ((firstRegion c).getD 0)) tm)) h) (ann ((firstRegion c).getD 0)) k m ((ann ((firstRegion c).getD 0)).map fun t => tm.getD t undef) h = true := hx
    exact loopX_ok (m := m) (body := fun k vals h => xC P (alB m) cB cx ann c k (setKeep (ann ((firstRegion c).getD 0)) vals 0 (forget (wr c) (ann ((firstRegion c).getD 0)) tm)) h)
      (bodyP := fun k vals h => xC P alP (SCalls P) cx ann c k (setKeep (ann ((firstRegion c).getD 0)) vals 0 (forget (wr c) (ann ((firstRegion c).getD 0)) tm)) h)
      (fun k K hk vals h => xC_ok hc c hk) hk m _ h hx'
  | .rangeFunc g ps x y, k, K, tm, h, hk, hx => by
    unfold xC at hx ⊢
    split at hx
    · rename_i hok
      rw [if_pos hok]
      split at hx
      · split at hx
        · rename_i hlt
          rw [if_pos hlt]
          refine (hc _ _ _ _ hx).mono fun v h' he => ?_
          unfold leaveX at he ⊢
          split at he
          · split at he
            · simp [alB] at he
            · rename_i hb
              rw [if_neg hb]
              split at he
              · exact hk _ _ _ he
              · exact hk _ _ _ he
              · exact hk _ _ _ he
              · simp [alB] at he
          · simp [alB] at he
        · simp [alB] at hx
      · simp [alB] at hx
    · simp [alB] at hx
  | .scope c, k, K, tm, h, hk, hx => by
    refine xC_ok hc c ?_ hx
    intro e tm h he
    cases e with
    | goto l => simp [alB] at he
    | normal => exact hk _ _ _ he
    | exit id => exact hk _ _ _ he
    | ret => exact hk _ _ _ he
    | panic c => exact hk _ _ _ he
    | outgrown => exact hk _ _ _ he
  | .goto l, k, K, tm, h, hk, hx => by simp [xC, alB] at hx
  | .refuse s, k, K, tm, h, hk, hx => by simp [xC, alB] at hx

theorem bodyX_ok (hc : CallOk P cB) {f : FuncId} {ann : Nat → List Tmp} {fn : Func} {c : Code} {args : List Value} {h : Hp} {k : Value → Hp → Bool} {K : Value → Hp → Prop} (hk : ∀ v h, k v h = true → K v h) (hx : bodyX P (alB m) cB f ann fn c args h k = true) : bodyX P alP (SCalls P) f ann fn c args h K := by
  refine xC_ok hc c ?_ hx
  intro e tm h he
  cases e with
  | normal => exact opt_ok he fun v => hk v _
  | ret => exact opt_ok he fun v => hk v _
  | exit id => simp [alB] at he
  | goto l => simp [alB] at he
  | panic x => simp [alB] at he
  | outgrown => simp [alB] at he

theorem endX_ok {l : Nat} {k : Value → Hp → Bool} {K : Value → Hp → Prop} (hk : ∀ v h, k v h = true → K v h) {e : Exit} {h : Hp} (he : endX (alB m).bot l k e h = true) : endX alP.bot l K e h := by
  unfold endX at he ⊢
  split at he
  · cases e with
    | normal => exact hk _ _ he
    | ret => exact hk _ _ he
    | exit id => exact hk _ _ he
    | goto t => simp [alB] at he
    | panic x => simp [alB] at he
    | outgrown => simp [alB] at he
  · simp [alB] at he

theorem roundX_ok (hc : CallOk P cB) {ann : FuncId → Nat → List Tmp} {l : Nat} {args : List Value} {h : Hp} {k : Value → Hp → Bool} {K : Value → Hp → Prop} (hk : ∀ v h, k v h = true → K v h)
    (hx : roundX P (alB m) cB ann l args h k = true) : roundX P alP (SCalls P) ann l args h K := by
  unfold roundX at hx ⊢
  split at hx
  · rename_i r hl
    split at hx
    · rename_i hlen
      rw [if_pos hlen]
      refine xC_ok hc r.assign ?_ hx
      intro e tm h1 he
      cases e with
      | normal =>
        simp only at he ⊢
        split at he
        · rename_i r' hl'
          split at he
          · rename_i hready
            rw [if_pos hready]
            exact xC_ok hc r.body (fun e tm h2 he => endX_ok hk he) he
          · simp [alB] at he
        · simp [alB] at he
      | ret => simp [alB] at he
      | exit id => simp [alB] at he
      | goto t => simp [alB] at he
      | panic x => simp [alB] at he
      | outgrown => simp [alB] at he
    · simp [alB] at hx
  · simp [alB] at hx

theorem xF_ok (hm : P.follows .mixedOrders = true) {ann : FuncId → Nat → List Tmp} : ∀ (n : Nat), CallOk P (xF P (alB m) ann n)
  | 0 => fun f args h k hx => by simp [xF, alB] at hx
  | n + 1 => fun f args h k hx => by
    unfold xF at hx
    split at hx
    · rename_i fn hf
      split at hx
      · rename_i c hb
        split at hx
        · rename_i hmc
          exact SCalls_of hm hf hb hmc (bodyX_ok (xF_ok hm n) (fun v h hv => hv) hx)
        · simp [alB] at hx
      · simp [alB] at hx
    · rename_i hf
      have hge : P.funcs.size ≤ f := Array.getElem?_eq_none_iff.1 hf
      have := SCalls_of_round hm (roundX_ok (xF_ok hm n) (fun v h hv => hv) hx)
      rwa [show P.funcs.size + (f - P.funcs.size) = f by omega] at this
end

/-- From the empty heap: a function without arguments, evaluated. -/
theorem HR_empty (base : Nat) (w : World) (h : base ≤ w.heap.size) : HR base (fun _ => none) Hp.empty w := by
  have ho : ∀ b, Hp.empty.ob b = none := fun b => rfl
  have hg : ∀ b, Hp.empty.gs.get b = none := fun b => rfl
  exact ⟨h, by simp, fun b _ => ⟨rfl, rfl⟩, by simp, by simp [ho], by simp, by simp [hg], by simp [hg], by simp, by intro b e o h; simp at h⟩
end Go.Cn
