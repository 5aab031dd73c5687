/- The canonical semantics: aggregates that are built; the law of all operations that look at their operands alone. -/
import Derived.Test.YtfkhjbfddeahaaaCnE
set_option linter.unusedVariables false
set_option linter.unusedSimpArgs false
namespace Go.Cn
section
variable {P : Program} {σ : Sg}

theorem splice_length {cs vs : List Value} {o : Nat} (h : o + vs.length ≤ cs.length) : (splice cs o vs).length = cs.length := by
  simp [splice]; omega

theorem splice_get {cs vs : List Value} {o : Nat} (h : o + vs.length ≤ cs.length) (i : Nat) :
    (splice cs o vs)[i]? = if o ≤ i ∧ i < o + vs.length then vs[i - o]? else cs[i]? := by
  unfold splice
  by_cases h1 : i < o
  · rw [if_neg (by omega), List.append_assoc, List.getElem?_append_left (by simp; omega), List.getElem?_take, if_pos h1]
  · by_cases h2 : i < o + vs.length
    · rw [if_pos ⟨by omega, h2⟩, List.getElem?_append_left (by simp; omega), List.getElem?_append_right (by simp; omega)]
      congr 1; simp; omega
    · rw [if_neg (by omega), List.getElem?_append_right (by simp; omega), List.getElem?_drop]
      congr 1; simp; omega

theorem LRel.splice {cs cs' vs vs' : List Value} {o : Nat} (h : LRel σ cs cs') (hv : LRel σ vs vs') : LRel σ (splice cs o vs) (splice cs' o vs') := by
  unfold Cn.splice
  rw [← hv.1]
  exact ((h.take o).append hv).append (h.drop _)

theorem foldl_set (off : Nat) : ∀ (vs : List Value) (k : Nat) (cells : Array Value), off + k + vs.length ≤ cells.size →
    ((vs.zipIdx k).foldl (fun cs (p : Value × Nat) => cs.setIfInBounds (off + p.2) p.1) cells).toList = Cn.splice cells.toList (off + k) vs
  | [], k, cells, h => by simp [Cn.splice]
  | v :: vs, k, cells, h => by
    simp only [List.length_cons] at h
    simp only [List.zipIdx_cons, List.foldl_cons]
    rw [foldl_set off vs (k + 1) (cells.setIfInBounds (off + k) v) (by simp; omega)]
    apply List.ext_getElem?
    intro i
    rw [splice_get (by simp; omega), splice_get (by simp; omega)]
    simp only [List.length_cons]
    by_cases h1 : i = off + k
    · subst h1
      rw [if_neg (by omega), if_pos (by omega)]
      simp [show off + k < cells.size by omega]
    · by_cases h2 : off + k ≤ i ∧ i < off + k + (vs.length + 1)
      · rw [if_pos (by omega), if_pos h2, show i - (off + k) = (i - (off + (k + 1))) + 1 by omega, List.getElem?_cons_succ]
      · rw [if_neg (by omega), if_neg h2]
        simp [Array.toList_setIfInBounds, List.getElem?_set_ne (Ne.symm h1)]

/-- Parts that are alike. -/
def PRel (σ : Sg) : List (Nat × Value) → List (Nat × Value) → Prop
  | [], [] => True
  | (i, x) :: l, (j, y) :: m => i = j ∧ VRel σ x y ∧ PRel σ l m
  | _, _ => False

theorem fill_rel {place : Nat → Option (Nat × Nat)} : ∀ {parts parts' : List (Nat × Value)} {cells : List Value} {cells' : Array Value} {l : List Value},
    fillL place cells parts = some l → LRel σ cells cells'.toList → PRel σ parts parts' → ∃ l', Instr.fill place cells' parts' = some l' ∧ LRel σ l l'.toList
  | [], [], cells, cells', l, h, hc, _ => by simp [fillL] at h; subst h; exact ⟨cells', rfl, hc⟩
  | (i, x) :: ps, (j, y) :: qs, cells, cells', l, h, hc, hp => by
    obtain ⟨rfl, hxy, hp⟩ := hp
    simp only [fillL] at h
    cases hpl : place i with
    | none => simp [hpl] at h
    | some os =>
      obtain ⟨off, size⟩ := os
      simp only [hpl] at h
      split at h
      · simp at h
      · rename_i hcond
        simp only [Bool.or_eq_true, decide_eq_true_eq, not_or, ne_eq, Bool.not_eq_true] at hcond
        obtain ⟨⟨hu, hsz⟩, hle⟩ := hcond
        have hcells := hxy.cells hu
        have hsz' : x.cells.size = size := by simpa using hsz
        have hys : y.cells.size = x.cells.size := by simpa using hcells.1.symm
        have hlen : cells.length = cells'.size := by simpa using hc.1
        obtain ⟨l', h1, h2⟩ := fill_rel (cells' := y.cells.zipIdx.foldl (fun cs (p : Value × Nat) => cs.setIfInBounds (off + p.2) p.1) cells') h (by
          rw [← Array.foldl_toList, Array.toList_zipIdx, foldl_set off y.cells.toList 0 cells' (by simp; omega)]
          exact LRel.splice hc hcells) hp
        refine ⟨l', ?_, h2⟩
        simp only [Instr.fill, hpl]
        rw [if_neg (by simp; omega)]
        exact h1
  | [], _ :: _, _, _, _, _, _, hp => hp.elim
  | _ :: _, [], _, _, _, _, _, hp => hp.elim

theorem ev_parts {tm : List Value} {a : Act} (h : TRel σ tm a.tmps) : ∀ (ps : List (Nat × Operand)), PRel σ (ps.map fun (i, x) => (i, ev tm x)) (ps.map fun (i, x) => (i, a.eval x))
  | [] => trivial
  | (i, x) :: ps => ⟨rfl, ev_rel h x, ev_parts h ps⟩

theorem places_run (w : World) : ∀ (fs : List Field) (l : List (Nat × Nat)), fs.mapM (fun f => (size? P f.type).map fun n => (f.offset, n)) = some l →
    (fs.mapM (fun f => do pure (f.offset, ← sizeOf f.type) : Field → Sem (Nat × Nat))).run P w = .ok l w
  | [], l, h => by simp at h; subst h; simp
  | f :: fs, l, h => by
    rw [List.mapM_cons] at h
    simp only [bind, Option.bind_eq_some_iff, pure, Option.some.injEq, Option.map_eq_some_iff] at h
    obtain ⟨p, ⟨n, hn, rfl⟩, l', hl', rfl⟩ := h
    have ih := places_run w fs l' hl'
    simp [List.mapM_cons, run_size hn]
    simp at ih
    simp [ih]

/-- A zero value is plain: no hypothesis on it is owed. -/
def zeroOk (z : Value) : Bool := plainV 100 z

theorem zero_rel {z : Value} (h : zeroOk z = true) : LRel σ z.cells.toList z.cells.toList := by
  have hv := plainV_rel σ 100 z h
  refine hv.cells ?_
  cases z <;> first | rfl | skip
  rename_i vs
  simp only [zeroOk, plainV, Bool.and_eq_true] at h
  simpa [isUnk] using h.1

theorem cbuild_run {t : TypeId} {parts : List (Nat × Value)} {parts' : Array (Nat × Value)} {v : Value} (h : cbuild P t parts = some v) (hp : PRel σ parts parts'.toList) (w : World) :
    ∃ v', (Instr.build t parts').run P w = .ok v' w ∧ VRel σ v v' := by
  unfold cbuild at h
  cases hz : zero? P t with
  | none => simp [hz] at h
  | some z =>
    simp only [hz] at h
    split at h
    · simp at h
    · rename_i hzo
      have hzr : LRel σ z.cells.toList z.cells.toList := zero_rel (by simpa [zeroOk] using hzo)
      split at h
      · rename_i fs hu
        split at h
        · rename_i places hpl
          simp only [Option.map_eq_some_iff] at h
          obtain ⟨l, hl, rfl⟩ := h
          obtain ⟨l', h1, h2⟩ := fill_rel hl hzr hp
          have hrun := places_run (P := P) w fs.toList places hpl
          refine ⟨.agg l', ?_, ?_⟩
          · simp only [Instr.build, Sem.run_bind, run_zero hz, Result.andThen_ok, run_underlying hu, Array.mapM_eq_mapM_toList, Sem.run_map, hrun]
            have e : (fun x : Nat => (places.toArray)[x]?) = fun x => places[x]? := by funext x; simp
            simp [e, h1]
          · have := h2.to_agg; simpa using this
        · simp at h
      · rename_i n el hu
        cases hs : size? P el with
        | none => simp [hs] at h
        | some n =>
          simp only [hs, Option.map_eq_some_iff] at h
          obtain ⟨l, hl, rfl⟩ := h
          obtain ⟨l', h1, h2⟩ := fill_rel hl hzr hp
          refine ⟨.agg l', ?_, ?_⟩
          · simp [Instr.build, run_zero hz, run_underlying hu, run_size hs, h1]
          · have := h2.to_agg; simpa using this
      · simp at h

/-- ALL OPERATIONS THAT LOOK AT THEIR OPERANDS ALONE. -/
theorem pop_run {tm : List Value} {a : Act} (ht : TRel σ tm a.tmps) (o : Oper) {v : Value} (h : pop P tm o.op = some v) (w : World) :
    ∃ v', (execOp a.eval o).run P w = .ok (.value v') w ∧ VRel σ v v' := by
  obtain ⟨dst, op, ty, pos, after, guard⟩ := o
  have ev := fun x => ev_rel ht x
  unfold pop at h
  simp only at h
  split at h
  · rename_i x; simp at h; subst h; exact ⟨_, by simp [execOp], ev x⟩
  · rename_i x; simp at h; subst h; exact ⟨_, by simp [execOp], ev x⟩
  · rename_i c x y
    have hc := ev c
    split at h
    · rename_i e; rw [e] at hc; simp at h; subst h; exact ⟨_, by simp [execOp, hc.bool_inv, asBool], ev x⟩
    · rename_i e; rw [e] at hc; simp at h; subst h; exact ⟨_, by simp [execOp, hc.bool_inv, asBool], ev y⟩
    · simp at h
  · rename_i x
    have hx := ev x
    split at h
    · rename_i p e; rw [e] at hx; simp at h; subst h
      obtain ⟨b, o, s⟩ := p
      obtain ⟨rfl, en, he, e2⟩ := hx.ptr_inv
      exact ⟨_, by simp [execOp, e2], .ptr b o en he⟩
    · rename_i t u e; rw [e] at hx; simp at h; subst h
      obtain ⟨u', e2, hu⟩ := hx.iface_inv
      exact ⟨_, by simp [execOp, e2], .iface t u u' hu⟩
    · rename_i f p q e; rw [e] at hx; simp at h; subst h
      obtain ⟨p', q', e2, h1, h2⟩ := hx.func_inv
      exact ⟨_, by simp [execOp, e2], .func _ _ _ _ _ h1.1 h2.1 h1.2 h2.2⟩
    · simp at h
  · rename_i op t x y yt
    have := cbin_run h (ev x) (ev y) w
    refine ⟨v, ?_, ?_⟩
    · simp at this
      simp only [execOp, Sem.run_bind, Sem.run_pure]
      generalize Sem.run P (eqGuard op t x y (a.eval x) (a.eval y)) w = r at this
      cases r with
      | ok u w1 => simp at this; simp [this]
      | halt e w1 => simp at this
    · have known : ∀ {b : Bool}, VRel σ (.bool b) (.bool b) := .bool _
      unfold cbin at h
      split at h
      · split at h
        · unfold shift at h; split at h <;> simp at h; subst h; exact .int _ _
        · unfold shift at h; split at h <;> simp at h; subst h; exact .int _ _
        · split at h
          · unfold intOp at h; split at h <;> simp at h <;> first | (subst h; constructor; done) | (obtain ⟨_, rfl⟩ := h; constructor)
          · simp at h
      · unfold strOp at h; split at h <;> simp at h <;> first | (subst h; constructor; done) | (obtain ⟨_, rfl⟩ := h; constructor)
      · simp at h
      · simp at h
      · split at h
        · split at h
          · simp only [Option.map_eq_some_iff] at h; obtain ⟨r, _, rfl⟩ := h; exact .bool _
          · simp at h
        · split at h
          · simp only [Option.map_eq_some_iff] at h; obtain ⟨r, _, rfl⟩ := h; exact .bool _
          · simp at h
        · simp at h
  · rename_i op t x
    refine ⟨v, by simp [execOp, cun_run h (ev x) w], ?_⟩
    unfold cun at h
    split at h <;> simp at h <;> subst h <;> constructor
  · rename_i s d x
    refine ⟨v, by simp [execOp, cconv_run h (ev x) w], ?_⟩
    unfold cconv at h
    split at h <;> simp at h <;> subst h <;> constructor
  · rename_i t x
    split at h
    · simp at h
    · simp at h
    · rename_i d hd hu
      simp at h; subst h
      refine ⟨.iface t (a.eval x), ?_, .iface _ _ _ (ev x)⟩
      simp only [execOp, Instr.makeInterface, Sem.run_bind, run_underlying hu, Result.andThen_ok]
      cases d <;> first | rfl | (exact absurd rfl (hd _))
  · rename_i fn first captured
    simp at h; subst h
    have h1 := ev_map ht first
    have h2 := ev_map ht captured
    exact ⟨_, by simp [execOp, Instr.makeFunc], .func _ _ _ _ _ h1.1 h2.1 h1.2 h2.2⟩
  · rename_i t x lo hi mx
    obtain ⟨v', hr, hv⟩ := cslice_run h (ev x) (ev_opt ht lo) (ev_opt ht hi) (ev_opt ht mx) w
    exact ⟨v', by simp [execOp, hr], hv⟩
  · rename_i s x f
    obtain ⟨v', hr, hv⟩ := cfieldAddr_run h (ev x) w
    exact ⟨v', by simp [execOp, hr], hv⟩
  · rename_i t x f
    obtain ⟨v', hr, hv⟩ := cfield_run h (ev x) w
    exact ⟨v', by simp [execOp, hr], hv⟩
  · rename_i t x ix
    obtain ⟨v', hr, hv⟩ := cindexAddr_run h (ev x) (ev ix) w
    exact ⟨v', by simp [execOp, hr], hv⟩
  · rename_i t x ix
    obtain ⟨v', hr, hv⟩ := cindex_run h (ev x) (ev ix) w
    exact ⟨v', by simp [execOp, hr], hv⟩
  · rename_i t parts
    obtain ⟨v', hr, hv⟩ := cbuild_run (parts' := parts.map fun (i, x) => (i, a.eval x)) h (by simpa using ev_parts ht parts.toList) w
    exact ⟨v', by simp [execOp, hr], hv⟩
  · rename_i x i
    have hx := ev x
    split at h
    · rename_i vs e
      rw [e] at hx
      split at h
      · simp at h
      · rename_i h1
        obtain ⟨vs', e2, hr⟩ := hx.tuple_inv h1
        obtain ⟨y, hy, hv⟩ := hr.get h
        exact ⟨y, by simp [execOp, Instr.extract, e2, hy], hv⟩
    · simp at h
  · rename_i args ats
    split at h
    · rename_i t ts x xs e1 e2
      have ht0 : ats[0]? = some t := by rw [← Array.getElem?_toList, e1]; rfl
      have hx0 : (args.map a.eval)[0]? = some (a.eval x) := by rw [Array.getElem?_map, ← Array.getElem?_toList, e2]; rfl
      refine ⟨v, ?_, ?_⟩
      · simp [execOp, resolve, invoke, builtin, clen_run h (ev x) ht0 hx0 w]
      · unfold clen at h
        split at h <;> first | (simp at h; subst h; constructor; done) | (split at h <;> simp at h; subst h; constructor) | simp at h
    · simp at h
  · rename_i args ats
    split at h
    · rename_i x y e
      have he : (args.map a.eval).toList = [a.eval x, a.eval y] := by simp [e]
      refine ⟨v, ?_, ?_⟩
      · simp only [execOp, resolve, invoke, builtin, Builtin.max_, Sem.run_bind, Sem.run_pure, Result.andThen_ok, he, List.foldlM_cons, List.foldlM_nil, cmax_run h (ev x) (ev y) w]
      · unfold cmax at h
        split at h <;> first | (split at h <;> simp at h; subst h; constructor) | simp at h
    · simp at h
  · rename_i args ats
    split at h
    · rename_i x y e
      have he : (args.map a.eval).toList = [a.eval x, a.eval y] := by simp [e]
      refine ⟨v, ?_, ?_⟩
      · simp only [execOp, resolve, invoke, builtin, Builtin.min_, Sem.run_bind, Sem.run_pure, Result.andThen_ok, he, List.foldlM_cons, List.foldlM_nil, cmin_run h (ev x) (ev y) w]
      · unfold cmin at h
        split at h <;> first | (split at h <;> simp at h; subst h; constructor) | simp at h
    · simp at h
  · simp at h
end
end Go.Cn
