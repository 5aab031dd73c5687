/- Joined: CoF, CoG, CoH, CoI, CoJ, ShaA, CrcA. -/
import Derived.Test.YtlodmlmlmkcpkaaGreatDoorFo11
import Derived.ChangeCalls
/- The rows of laws over plain data: from a contract over read-only canonical arguments to the row's step. -/
set_option linter.unusedVariables false
set_option linter.unusedSimpArgs false
namespace Go.Cn
open Go.ChangeShapes Go.WideShapes Go.ChangeAt Go.RowKit

section
variable {P : Program} {H : Type} {enc : TypeId × Value → H} {w : World} {B : DataW H → Nat}

/-- Reading again, spare places where the row asks. -/
theorem trod_spare {sp : Nat → Bool} : ∀ (n m : Nat) (t : TypeId) (cs : List Value) (x : DataW H × List MemPlace), simpleT P m t = true → DataW.trod enc P w 0 (fun _ => true) true n t cs = some x →
    (∀ p ∈ x.2, sp p.block = true) → DataW.trod enc P w 0 sp true n t cs = some x
  | 0, m, t, cs, x, _, hx, _ => by simp [DataW.trod] at hx
  | n + 1, 0, t, cs, x, hs, _, _ => by simp [simpleT] at hs
  | n + 1, m + 1, t, cs, x, hs, hx, hp => by
    unfold simpleT at hs
    split at hs
    · rename_i hu
      obtain ⟨b, rfl, rfl⟩ := DataW.trod_bool hu hx
      simp [DataW.trod, hu]
    · rename_i k hu
      obtain ⟨i, rfl, rfl, hw⟩ := DataW.trod_int hu hx
      simp [DataW.trod, hu, hw]
    · rename_i hu
      obtain ⟨s, rfl, rfl, hsz⟩ := DataW.trod_string hu hx
      simp [DataW.trod, hu, hsz]
    · rename_i fs hu
      simp only [Bool.and_eq_true] at hs
      unfold DataW.trod at hx ⊢
      rw [hu] at hx ⊢
      simp only at hx ⊢
      split at hx
      · rename_i hl
        rw [if_pos hl]
        cases hm : fs.toList.mapM fun f => DataW.trod enc P w 0 (fun _ => true) true n f.type ((cs.drop f.offset).take (P.cellsOf f.type)) with
        | none => simp [hm] at hx
        | some xs =>
          simp only [hm, Option.map_some, Option.some.injEq] at hx
          subst hx
          rw [mapM_carry hm fun f y hf hy hfy => trod_spare n m f.type _ y (List.all_eq_true.mp hs.2 f hf) hfy fun p hpy => hp p (List.mem_flatMap.mpr ⟨y, hy, hpy⟩)]
          rfl
      · simp at hx
    · rename_i e hu
      simp only [Bool.and_eq_true, decide_eq_true_eq] at hs
      obtain ⟨⟨_, hpos⟩, hs⟩ := hs
      unfold DataW.trod at hx ⊢
      rw [hu] at hx ⊢
      cases cs with
      | nil => simp at hx
      | cons c cs =>
      cases cs with
      | cons c' cs => cases c <;> simp at hx
      | nil =>
      cases c with
      | slice a l c =>
        cases a with
        | none =>
          cases l with
          | succ l => simp at hx
          | zero => cases c with
            | succ c => simp at hx
            | zero => simpa using hx
        | some a =>
          simp only at hx ⊢
          split at hx
          · rename_i hc
            rw [if_pos hc]
            cases hm : (List.range l).mapM fun i => (w.cells? 0 (a.add (i * P.cellsOf e)) (P.cellsOf e)).bind (DataW.trod enc P w 0 (fun _ => true) true n e) with
            | none => simp [hm] at hx
            | some elems =>
              cases hr : (List.range (c - l)).mapM fun j => (w.cells? 0 (a.add ((l + j) * P.cellsOf e)) (P.cellsOf e)).bind (DataW.trod enc P w 0 (fun _ => true) true n e) with
              | none => simp [hm, hr] at hx
              | some rest =>
                simp only [hm, hr, if_true, Option.bind_some, Option.map_some, Option.some.injEq] at hx
                subst hx
                have carry : ∀ {i : Nat} {y : DataW H × List MemPlace}, (∀ p ∈ y.2, sp p.block = true) → (w.cells? 0 (a.add (i * P.cellsOf e)) (P.cellsOf e)).bind (DataW.trod enc P w 0 (fun _ => true) true n e) = some y →
                    (w.cells? 0 (a.add (i * P.cellsOf e)) (P.cellsOf e)).bind (DataW.trod enc P w 0 sp true n e) = some y := by
                  intro i y hy hb
                  obtain ⟨ck, h1, h2⟩ := Option.bind_eq_some_iff.1 hb
                  rw [h1]
                  exact trod_spare n m e ck y hs h2 hy
                have hin : ∀ y, y ∈ elems ++ rest → ∀ p ∈ y.2, sp p.block = true := fun y hy p hpy => hp p (List.mem_append_right _ (List.mem_flatMap.mpr ⟨y, hy, hpy⟩))
                have h1 : ((List.range l).mapM fun i => (w.cells? 0 (a.add (i * P.cellsOf e)) (P.cellsOf e)).bind (DataW.trod enc P w 0 sp true n e)) = some elems :=
                  mapM_carry hm fun i y _ hy hb => carry (hin y (List.mem_append_left _ hy)) hb
                rw [h1]
                have hel : elems.length = l := by simpa using mapM_some_length hm
                have hrl : rest.length = c - l := by simpa using mapM_some_length hr
                by_cases hcl : c - l = 0
                · have : rest = [] := List.eq_nil_of_length_eq_zero (by omega)
                  subst this
                  simp [hcl]
                · have hsp : sp a.block = true := by
                    refine hp (.cell a.block (a.off + 0)) (List.mem_append_left _ (MemPlace.mem_row.mpr ⟨0, ?_, rfl⟩))
                    exact Nat.mul_pos (by omega) hpos
                  have h2 : ((List.range (c - l)).mapM fun j => (w.cells? 0 (a.add ((l + j) * P.cellsOf e)) (P.cellsOf e)).bind (DataW.trod enc P w 0 sp true n e)) = some rest :=
                    mapM_carry hr fun i y _ hy hb => carry (hin y (List.mem_append_right _ hy)) hb
                  simp [hsp, h2]
          · simp at hx
      | _ => simp at hx
    · rename_i len e hu
      simp only [Bool.and_eq_true] at hs
      unfold DataW.trod at hx ⊢
      rw [hu] at hx ⊢
      simp only at hx ⊢
      split at hx
      · rename_i hl
        rw [if_pos hl]
        cases hm : (List.range len).mapM fun i => DataW.trod enc P w 0 (fun _ => true) true n e ((cs.drop (i * P.cellsOf e)).take (P.cellsOf e)) with
        | none => simp [hm] at hx
        | some xs =>
          simp only [hm, Option.map_some, Option.some.injEq] at hx
          subst hx
          rw [mapM_carry hm fun i y hi hy hiy => trod_spare n m e _ y hs.2 hiy fun p hpy => hp p (List.mem_flatMap.mpr ⟨y, hy, hpy⟩)]
          rfl
      · simp at hx
    · simp at hs

theorem trod_again {w' : World} (hb : Below w.heap.size w w') {n m : Nat} {t : TypeId} {cs : List Value} {x : DataW H × List MemPlace} (hs : simpleT P m t = true) (hx : DataW.trod enc P w 0 (fun _ => true) true n t cs = some x)
    (hlt : ∀ p ∈ x.2, p.block < w.heap.size) {sp : Nat → Bool} (hp : ∀ p ∈ x.2, sp p.block = true) : DataW.trod enc P w' 0 sp true n t cs = some x :=
  trod_spare n m t cs x hs (DataW.trod_carry n t cs x hx fun p hpx => hb.same (hlt p hpx)) hp

theorem trodAll_again {w' : World} (hb : Below w.heap.size w w') {m : Nat} : ∀ {ts : List TypeId} {vs : List Value} {ds : List (DataW H)} {ps : List MemPlace}, (∀ t ∈ ts, simpleT P m t = true) →
    DataW.TrodAll enc P w 0 (fun _ => true) true ts vs ds ps → (∀ p ∈ ps, p.block < w.heap.size) → ∀ {sp : Nat → Bool}, (∀ p ∈ ps, sp p.block = true) → DataW.TrodAll enc P w' 0 sp true ts vs ds ps
  | [], [], [], ps, _, h, _, sp, _ => h
  | t :: ts, v :: vs, d :: ds, ps, hs, ⟨p, q, ⟨n, h1⟩, h2, h3⟩, hlt, sp, hp => by
    subst h3
    exact ⟨p, q, ⟨n, trod_again hb (hs t (by simp)) h1 (fun x hx => hlt x (List.mem_append_left _ hx)) (fun x hx => hp x (List.mem_append_left _ hx))⟩,
      trodAll_again hb (fun t ht => hs t (by simp [ht])) h2 (fun x hx => hlt x (List.mem_append_right _ hx)) (fun x hx => hp x (List.mem_append_right _ hx)), rfl⟩

/-- Arguments: values whose cells are good. -/
def FineArgs (P : Program) (h : Hp) (N : Nat) : List TypeId → List Value → Prop
  | [], vs => vs = []
  | t :: ts, vs => ∃ v vs' n cs, vs = v :: vs' ∧ Fine P h N n t cs ∧ (match agg? P t with | some true => v = .agg cs.toArray | _ => cs = [v]) ∧ FineArgs P h N ts vs'

theorem FineArgs.keep {S : Nat → Prop} {h h' : Hp} (k : Keep S h h') {N : Nat} : ∀ {ts : List TypeId} {vs : List Value}, FineArgs P h N ts vs → FineArgs P h' N ts vs
  | [], vs, hg => hg
  | t :: ts, vs, ⟨v, vs', n, cs, h1, h2, h3, h4⟩ => ⟨v, vs', n, cs, h1, h2.keep k, h3, h4.keep k⟩

theorem canonAllT {Q : TypeId → DataW H → Prop} (N m : Nat) (M : MeasT P N Q) : ∀ {ts : List TypeId} {vs : List Value} {ds : List (DataW H)} {ps : List MemPlace}, (∀ t ∈ ts, simpleT P m t = true) → DataW.TrodAll enc P w 0 (fun _ => true) true ts vs ds ps → (∀ (j : Nat) t d, ts[j]? = some t → ds[j]? = some d → Q t d) →
    (∀ (j : Nat) t v, ts[j]? = some t → vs[j]? = some v → Value.okWide P w .any 0 t v) → ∀ (σ : Sg) (h : Hp), HR w.heap.size σ h w → ∃ σ' h' vs', σ.le σ' ∧ HR w.heap.size σ' h' w ∧ Kept h h' ∧ LRel σ' vs' vs ∧ FineArgs P h' N ts vs'
  | [], [], [], ps, _, _, _, _, σ, h, hr => ⟨σ, h, [], Sg.le_refl σ, hr, Keep.refl _ _, LRel.nil σ, rfl⟩
  | t :: ts, v :: vs, d :: ds, ps, hs, ⟨p, q, ⟨n, h1⟩, h2, h3⟩, hB, hval, σ, h, hr => by
    have hv := hval 0 t v (by simp) (by simp)
    have hcell : ∀ u (x : Value), Cell.okWide P w .any 0 u x → ∀ a l c, x = .slice (some a) l c → 0 < w.heap.size := by
      intro u x hx a l c e
      subst e
      have hok : Cell.ok P w .any 0 u (.slice (some a) l c) := by
        unfold Cell.okWide at hx
        split at hx <;> first | exact hx | (rename_i h; simp at h)
      unfold Cell.ok at hok
      split at hok <;> simp_all
      obtain ⟨_, _, _, _, row, cells, h5, _⟩ := hok
      unfold World.shape? at h5
      split at h5
      · rename_i hh; have := (Array.getElem?_eq_some_iff.1 hh).1; omega
      · simp at h5
    have hz : ∀ a l c, Value.slice (some a) l c ∈ v.cells.toList → 0 < w.heap.size := by
      intro a l c hm
      unfold Value.okWide at hv
      split at hv
      · obtain ⟨cs, rfl, _, tys, _, _, h5⟩ := hv
        obtain ⟨i, hi⟩ := List.getElem?_of_mem hm
        simp only [Value.cells, Array.getElem?_toList] at hi
        obtain ⟨u, _, h6⟩ := h5 i _ hi
        exact hcell u _ h6 a l c rfl
      · obtain ⟨cs, rfl, _, tys, _, _, h5⟩ := hv
        obtain ⟨i, hi⟩ := List.getElem?_of_mem hm
        simp only [Value.cells, Array.getElem?_toList] at hi
        obtain ⟨u, _, h6⟩ := h5 i _ hi
        exact hcell u _ h6 a l c rfl
      · cases v with
        | slice a' l' c' =>
          simp [Value.cells] at hm
          obtain ⟨rfl, rfl, rfl⟩ := hm
          exact hcell t _ hv a l c rfl
        | agg cs =>
          have hok : Cell.ok P w .any 0 t (.agg cs) := by
            unfold Cell.okWide at hv
            split at hv <;> first | exact hv | (rename_i h; simp at h)
          unfold Cell.ok at hok
          split at hok <;> simp_all
        | _ => simp [Value.cells] at hm
    obtain ⟨σ1, h1', c1, l1, r1, k1, e1, g1⟩ := canonT N M n m t v.cells.toList (d, p) (hs t (by simp)) h1 (hB 0 t d rfl rfl) hz σ h hr
    obtain ⟨σ2, h2', vs2, l2, r2, k2, e2, g2⟩ := canonAllT N m M (fun t ht => hs t (by simp [ht])) h2 (fun j t d ht hd => hB (j + 1) t d (by simpa using ht) (by simpa using hd)) (fun j t v ht hv => hval (j + 1) t v (by simpa using ht) (by simpa using hv)) σ1 h1' r1
    have hone : agg? P t = some true ∨ agg? P t ≠ some true := by by_cases hx : agg? P t = some true <;> simp [hx]
    rcases hone with ha | ha
    · have hst : ∃ cs, v = .agg cs := by
        unfold agg? at ha
        unfold Value.okWide at hv
        split at ha <;> rename_i hu <;> try (simp at ha)
        · rw [hu] at hv; obtain ⟨cs, h5, _⟩ := hv; exact ⟨cs, h5⟩
        · rw [hu] at hv; obtain ⟨cs, h5, _⟩ := hv; exact ⟨cs, h5⟩
      obtain ⟨cs, rfl⟩ := hst
      refine ⟨σ2, h2', .agg c1.toArray :: vs2, Sg.le_trans l1 l2, r2, k1.trans hr.wf k2 (fun _ _ hf => hf), LRel.cons ?_ e2, .agg c1.toArray, vs2, n, c1, rfl, g1.keep k2, by rw [ha], g2⟩
      have := (e1.mono l2).to_agg
      simpa [Value.cells] using this
    · have hst : v.cells = #[v] := by
        cases v with
        | agg cs =>
          exfalso
          unfold agg? at ha
          unfold Value.okWide at hv
          cases hu : P.underlying t with
          | none =>
            rw [hu] at hv
            simp only [Cell.okWide, Cell.ok, hu] at hv
          | some u =>
            rw [hu] at hv ha
            cases u <;> simp [Cell.okWide, Cell.ok, hu] at hv ha
        | _ => rfl
      rw [hst] at e1
      have hl := e1.1
      cases c1 with
      | nil => simp at hl
      | cons c1 r =>
        cases r with
        | cons _ _ => simp at hl
        | nil =>
          refine ⟨σ2, h2', c1 :: vs2, Sg.le_trans l1 l2, r2, k1.trans hr.wf k2 (fun _ _ hf => hf), LRel.cons ((e1.2 0 c1 v (by simp) (by simp)).mono l2) e2, c1, vs2, n, [c1], rfl, g1.keep k2, ?_, g2⟩
          split
          · rename_i hx; exact absurd hx ha
          · rfl

/-- THE STEP OF A LAW's ROW: plain data in, true out, all as it was. -/
theorem law_contractT {Q : TypeId → DataW H → Prop} {f : FuncId} {fn : Func} {s : ChangeSpec} (hflt : f < P.funcs.size) (N m : Nat) (M : MeasT P N Q) {tb : TypeId} (hsimple : ∀ t ∈ fn.params.toList, simpleT P m t = true) (hvars : s.vars = [])
    (hfn : ∀ ds : List (DataW H), ds.length = fn.params.toList.length → (s.fn H ds).results = [.lit (.bool true)] ∧ (s.fn H ds).args = ds ∧ (s.fn H ds).vars = []) (hres : fn.resultTypes = #[tb]) (htb : P.underlying tb = some .bool)
    (main : ∀ (h : Hp) (vs : List Value), Wf h → FineArgs P h N fn.params.toList vs → SCalls P f vs h fun v _ => v = .bool true)
    {W : World} {base : Nat} {args : Array Value} {ds gs : List (DataW H)} {before : List MemPlace}
    (hval : ∀ (j : Nat) t v, fn.params[j]? = some t → args[j]? = some v → Value.okWide P W .any base t v) (hW : DataW.Whole enc P fn.params.toList s.vars false W args.toList ds gs before) (hB : ∀ (j : Nat) t d, fn.params.toList[j]? = some t → ds[j]? = some d → Q t d) :
    Calls P f args W fun e W' => ∃ v, e = .returned v ∧ s.post enc P fn false true false false W args v W' := by
  have hW' := hW
  obtain ⟨p, q, hA, hV, rfl, hfz, hnd⟩ := hW
  rw [hvars] at hV
  obtain ⟨rfl, rfl⟩ := trodVars_none hV
  have hlen := trodAll_length hA
  have hokany : ∀ (t : TypeId) v, Value.okWide P W .any base t v → Value.okWide P W .any 0 t v := fun t v h => h
  obtain ⟨σ, h, vs, _, hr, _, hl, hg⟩ := canonAllT N m M hsimple hA hB (fun j t v ht hv => hokany t v (hval j t v (by simpa using ht) (by simpa using hv))) (fun _ => none) Hp.empty (HR_empty _ W (Nat.le_refl _))
  simp only [List.append_nil] at hW'
  refine (((main h vs hr.wf hg).func hflt).2 W.heap.size σ W args hr hl).mono ?_
  rintro e W' ⟨v, v', h', σ', rfl, rfl, hv, _, he⟩
  have : v' = .bool true := hv.bool_inv
  subst this
  have hb : Below W.heap.size W W' := he.toBelow
  obtain ⟨hf1, hf2, hf3⟩ := hfn ds hlen.2
  have hlt : ∀ x ∈ p, x.block < W.heap.size := fun x hx => hW'.lt x (by simpa using hx)
  refine ⟨_, rfl, post_of_below (pa := p) (pv := []) hW' (fun b sp hd => ?_) (fun sp hsp => ?_) (fun sp _ => ?_) (by simp) hb ?_⟩
  · simp only [List.append_nil]
    rw [hf1, hres]
    exact trodAll_cons_mk (shut_bool htb _) trodAll_mk0
  · simp only [List.append_nil]
    rw [hf2]
    exact trodAll_again hb hsimple hA hlt fun x hx => hsp x (by simpa using hx)
  · simp only [List.append_nil]
    rw [hf3, hvars]
    exact rfl
  · rw [hres]
    intro j t r ht hr2
    have : j = 0 := by
      cases j with
      | zero => rfl
      | succ j => simp at ht
    subst this
    simp at ht; subst ht
    have : r = .bool true := by
      simp [Value.resultList] at hr2
      first | exact hr2.symm | (simp_all)
    subst this
    exact okWide_bool_mk htb _

theorem law_contract {f : FuncId} {fn : Func} {s : ChangeSpec} (hflt : f < P.funcs.size) (M : Meas B) (N m : Nat) {tb : TypeId} (hsimple : ∀ t ∈ fn.params.toList, simpleT P m t = true) (hvars : s.vars = [])
    (hfn : ∀ ds : List (DataW H), ds.length = fn.params.toList.length → (s.fn H ds).results = [.lit (.bool true)] ∧ (s.fn H ds).args = ds ∧ (s.fn H ds).vars = []) (hres : fn.resultTypes = #[tb]) (htb : P.underlying tb = some .bool)
    (main : ∀ (h : Hp) (vs : List Value), Wf h → FineArgs P h N fn.params.toList vs → SCalls P f vs h fun v _ => v = .bool true)
    {W : World} {base : Nat} {args : Array Value} {ds gs : List (DataW H)} {before : List MemPlace}
    (hval : ∀ (j : Nat) t v, fn.params[j]? = some t → args[j]? = some v → Value.okWide P W .any base t v) (hW : DataW.Whole enc P fn.params.toList s.vars false W args.toList ds gs before) (hB : ∀ d ∈ ds, B d ≤ N) :
    Calls P f args W fun e W' => ∃ v, e = .returned v ∧ s.post enc P fn false true false false W args v W' :=
  law_contractT hflt N m (M.typed P N) hsimple hvars hfn hres htb main hval hW fun j t d _ hd => hB d (List.mem_of_getElem? hd)
end
end Go.Cn

/- Reasoning over canonical heaps: single cells of a block; slices that own their memory, with room behind them. -/
set_option linter.unusedVariables false
set_option linter.unusedSimpArgs false
namespace Go.Cn

/-! ### 1. One cell of a block -/
theorem take_one {α : Type} {CS : List α} {o : Nat} {v : α} (h : CS[o]? = some v) : (CS.drop o).take 1 = [v] := by
  obtain ⟨ho, hv⟩ := List.getElem?_eq_some_iff.mp h
  rw [List.drop_eq_getElem_cons ho, hv]; rfl

theorem Blk.one {h : Hp} {b : Nat} {g : Option Nat} {CS : List Value} (hb : Blk h b g CS) {o : Nat} {v : Value} (hv : CS[o]? = some v) : h.cellsAt b o 1 = some [v] := by
  have ho := (List.getElem?_eq_some_iff.mp hv).1
  rw [hb.cells (by omega), take_one hv]

theorem splice_one {CS : List Value} {o : Nat} (ho : o < CS.length) (v : Value) : splice CS o [v] = CS.set o v := by
  rw [List.set_eq_take_append_cons_drop, if_pos ho]
  simp [splice]

theorem Blk.set {h : Hp} {b g : Nat} {CS : List Value} (hb : Blk h b (some g) CS) {o : Nat} (ho : o < CS.length) {v : Value} (hv : isCell v = true) :
    ∃ h', h.store b o [v] = some h' ∧ Blk h' b (some g) (CS.set o v) ∧ Keep (· = g) h h' ∧ h'.next = h.next ∧ (Wf h → Wf h') := by
  obtain ⟨h', h1, h2, h3, h4, h5⟩ := hb.store (o := o) (vs := [v]) (by simp; omega) (by simp [hv])
  rw [splice_one ho] at h2
  exact ⟨h', h1, h2, h3, h4, h5⟩

theorem splice_take {CS vs : List Value} {i n : Nat} (hi : i + vs.length ≤ n) (hn : n ≤ CS.length) : splice (CS.take n) i vs = (splice CS i vs).take n := by
  apply List.ext_getElem?
  intro j
  rw [splice_get (by rw [List.length_take]; omega), List.getElem?_take, List.getElem?_take, splice_get (by omega)]
  split <;> split <;> first | rfl | omega | skip

/-! ### 2. Slices that own their memory -/
/-- Two groups are not the same one. -/
def Ap (x y : Option Nat) : Prop := ∀ g, x = some g → y ≠ some g
theorem Ap.symm {x y : Option Nat} (h : Ap x y) : Ap y x := fun g hy hx => h g hx hy
theorem Ap.nl (x : Option Nat) : Ap none x := fun g h => by simp at h
theorem Ap.nr (x : Option Nat) : Ap x none := fun g h => by simp

/-- A slice that owns its memory: empty, or a block of group g of c elements, of which the first l are its own. -/
def Ow (h : Hp) (w : Nat) (g : Option Nat) (a : Option Addr) (l c : Nat) (cs : List Value) : Prop :=
  (g = none ∧ l = 0 ∧ c = 0 ∧ cs = [] ∧ (a = none ∨ ∃ b o, a = some ⟨b, o, none⟩)) ∨
  ∃ b sp g' CS, g = some g' ∧ a = some ⟨b, 0, sp⟩ ∧ (sp = none ∨ sp = some w) ∧ l ≤ c ∧ 0 < c ∧ Blk h b (some g') CS ∧ CS.length = c * w ∧ cs = CS.take (l * w)

theorem Ow.nil (h : Hp) (w : Nat) : Ow h w none none 0 0 [] := .inl ⟨rfl, rfl, rfl, rfl, .inl rfl⟩

section
variable {h : Hp} {w : Nat} {g : Option Nat} {a : Option Addr} {l c : Nat} {cs : List Value}

theorem Ow.sl (s : Ow h w g a l c cs) : Sl h w g a l c cs := by
  rcases s with ⟨rfl, rfl, rfl, rfl, ha⟩ | ⟨b, sp, g', CS, rfl, rfl, hsp, hl, hc, hb, hlen, rfl⟩
  · refine ⟨Nat.le_refl _, by simp, ?_⟩
    rcases ha with rfl | ⟨b, o, rfl⟩
    · exact ⟨rfl, rfl⟩
    · exact ⟨.inl rfl, fun h0 => by omega⟩
  · have : l * w ≤ c * w := Nat.mul_le_mul_right w hl
    exact ⟨hl, by rw [List.length_take]; omega, hsp, fun _ => ⟨CS, hb, by omega, by rw [List.drop_zero]⟩⟩

theorem Ow.keep {S : Nat → Prop} {h' : Hp} (k : Keep S h h') (s : Ow h w g a l c cs) (hn : ∀ x, g = some x → ¬ S x) : Ow h' w g a l c cs := by
  rcases s with h1 | ⟨b, sp, g', CS, rfl, rfl, hsp, hl, hc, hb, hlen, rfl⟩
  · exact .inl h1
  · exact .inr ⟨b, sp, g', CS, rfl, rfl, hsp, hl, hc, k.blk hb fun x hx => by simp at hx; subst hx; exact hn _ rfl, hlen, rfl⟩

theorem Ow.glt (wf : Wf h) (s : Ow h w g a l c cs) : ∀ x, g = some x → x < h.next := by
  rcases s with ⟨rfl, _⟩ | ⟨b, sp, g', CS, rfl, rfl, hsp, hl, hc, hb, hlen, rfl⟩
  · simp
  · intro x hx; simp at hx; subst hx; exact hb.glt wf

/-- What stays of a slice that is cut behind its k-th element. -/
theorem Ow.cut (s : Ow h w g a l c cs) {k : Nat} (hk : k ≤ l) : Ow h w g a k c (cs.take (k * w)) := by
  rcases s with ⟨rfl, rfl, rfl, rfl, ha⟩ | ⟨b, sp, g', CS, rfl, rfl, hsp, hl, hc, hb, hlen, rfl⟩
  · have : k = 0 := by omega
    subst this
    exact .inl ⟨rfl, rfl, rfl, by simp, ha⟩
  · have : k * w ≤ l * w := Nat.mul_le_mul_right w hk
    exact .inr ⟨b, sp, g', CS, rfl, rfl, hsp, by omega, hc, hb, hlen, by rw [List.take_take, Nat.min_eq_left this]⟩

/-- Cells of an element are written. -/
theorem Ow.store (s : Ow h w g a l c cs) {i : Nat} {vs : List Value} (hi : i + vs.length ≤ l * w) (hl0 : 0 < l) (hv : vs.all isCell = true) :
    a.isSome = true ∧ ∃ h', h.store (blk a) (off a + i) vs = some h' ∧ Ow h' w g a l c (splice cs i vs) ∧ Keep (fun x => g = some x) h h' ∧ h'.next = h.next ∧ (Wf h → Wf h') := by
  rcases s with ⟨rfl, rfl, rfl, rfl, ha⟩ | ⟨b, sp, g', CS, rfl, rfl, hsp, hl, hc, hb, hlen, rfl⟩
  · omega
  · have hlw : l * w ≤ c * w := Nat.mul_le_mul_right w hl
    obtain ⟨h', h1, h2, h3, h4, h5⟩ := hb.store (o := i) (vs := vs) (by omega) hv
    have e0 : off (some ⟨b, 0, sp⟩) + i = i := by simp [off]
    refine ⟨rfl, h', by rw [e0]; exact h1, .inr ⟨b, sp, g', _, rfl, rfl, hsp, hl, hc, h2, ?_, ?_⟩, ⟨h3.next, h3.ro, fun b c t g hb hn => h3.rw b c t g hb fun he => hn (by rw [he]), fun b o hb hi hn => h3.oth b o hb hi fun he => hn (by rw [he])⟩, h4, h5⟩
    · rw [splice_length (by omega)]; exact hlen
    · exact splice_take hi (by omega)
end

section
variable {P : Program}
/-- append to a slice that owns its memory. -/
theorem Ow.append {h : Hp} (wf : Wf h) {t xt elem : TypeId} {w bytes : Nat} (ht : AppT P t xt elem w bytes) {g : Option Nat} {a : Option Addr} {l c : Nat} {cs : List Value} (s : Ow h w g a l c cs)
    {x : Value} {n : Nat} {new : List Value} (hx : dataOf w x h = some (n, new)) (hnl : new.length = n * w) (hv : new.all isCell = true) (hr : roomy (l + n) bytes = true) :
    ∃ a' c' g' h', cappend P t xt (.slice a l c) x h = some (.slice a' (l + n) c', h') ∧ Ow h' w g' a' (l + n) c' (cs ++ new) ∧ (g' = g ∨ ∃ y, g' = some y ∧ h.next ≤ y) ∧ Keep (fun x => g = some x) h h' ∧ Wf h' := by
  obtain ⟨i, z, e1, e2, e3, e4, e5⟩ := ht.info
  obtain ⟨u, e6, e7⟩ := ht.other
  have hp := ht.pos
  have hb := ht.bpos
  have hlc : l ≤ c := by rcases s with ⟨_, h1, h2, _⟩ | ⟨_, _, _, _, _, _, _, h1, _⟩ <;> omega
  have main : cappend P t xt (.slice a l c) x h = if n = 0 then some (.slice a l c, h) else
      (match (Value.slice a l c) with
        | .slice none 0 0 => some (.slice (some ⟨h.next, 0, some w⟩) n n, h.alloc new elem)
        | .slice (some ⟨b, o, sp⟩) l c =>
          if l + n ≤ c then (h.store b (o + l * w) new).map fun h' => (.slice (some ⟨b, o, sp⟩) (l + n) c, h')
          else match sp with
            | none => if l = 0 then some (.slice (some ⟨h.next, 0, some w⟩) n n, h.alloc new elem) else
              (h.cellsAt b o (l * w)).map fun old => (.slice (some ⟨h.next, 0, some w⟩) (l + n) (l + n), h.alloc (old ++ new) elem)
            | some k => if k = w then (h.extend b o (o + l * w) new).map fun h' => (.slice (some ⟨h.next, 0, some w⟩) (l + n) (l + n), h') else none
        | _ => none) := by
    unfold cappend
    rw [ht.under]
    dsimp only
    rw [e1, e6]
    have hb1 : ¬ (w = 0) := by omega
    have hb2 : ¬ (bytes = 0) := by omega
    cases u with
    | int k => exact absurd rfl (e7 k)
    | _ =>
      dsimp only
      rw [e2, hx]
      by_cases hn : n = 0
      · simp [hn, hlc]
      · simp only [hn, if_false, slen, e3, e4, e5, Option.map_some, decide_true, Bool.not_true, hr, Bool.false_or, Bool.or_false, hb1, hb2, decide_false, Bool.false_eq_true]
        cases a <;> rfl
  rw [main]
  by_cases hn : n = 0
  · subst hn
    have : new = [] := by simpa using hnl
    subst this
    simp only [if_true, Nat.add_zero, List.append_nil]
    exact ⟨a, c, g, h, rfl, s, .inl rfl, Keep.refl _ _, wf⟩
  · simp only [hn, if_false]
    have fresh : ∀ (cs' : List Value) (k : Nat), cs'.length = k * w → 0 < k → Ow (h.alloc cs' elem) w (some h.next) (some ⟨h.next, 0, some w⟩) k k cs' ∧ Keep (fun x => g = some x) h (h.alloc cs' elem) ∧ Wf (h.alloc cs' elem) := by
      intro cs' k hk h0
      exact ⟨.inr ⟨h.next, some w, h.next, cs', rfl, rfl, .inr rfl, Nat.le_refl _, h0, alloc_blk wf cs' elem, hk, by rw [← hk, List.take_length]⟩, (alloc_keep wf cs' elem).mono wf fun _ _ hf => hf.elim, alloc_wf wf cs' elem⟩
    rcases s with ⟨rfl, rfl, rfl, rfl, ha⟩ | ⟨b, sp, g', CS, rfl, rfl, hsp, hl, hc, hblk, hlen, rfl⟩
    · obtain ⟨f1, f2, f3⟩ := fresh new n hnl (by omega)
      rcases ha with rfl | ⟨b, o, rfl⟩
      · simp only [Nat.zero_add, List.nil_append]
        exact ⟨_, _, _, _, rfl, f1, .inr ⟨_, rfl, Nat.le_refl _⟩, f2, f3⟩
      · simp only [Nat.zero_add, List.nil_append]
        rw [if_neg (by omega)]
        simp only [if_true]
        exact ⟨_, _, _, _, rfl, f1, .inr ⟨_, rfl, Nat.le_refl _⟩, f2, f3⟩
    · have hlw : l * w ≤ c * w := Nat.mul_le_mul_right w hl
      have htl : (CS.take (l * w)).length = l * w := by rw [List.length_take]; omega
      simp only [Nat.zero_add]
      by_cases hroom : l + n ≤ c
      · rw [if_pos hroom]
        have hlnw : (l + n) * w ≤ c * w := Nat.mul_le_mul_right w hroom
        have hadd : (l + n) * w = l * w + n * w := Nat.add_mul _ _ _
        obtain ⟨h', h1, h2, h3, h4, h5⟩ := hblk.store (o := l * w) (vs := new) (by omega) hv
        rw [h1]
        refine ⟨_, _, _, _, rfl, .inr ⟨b, sp, g', _, rfl, rfl, hsp, hroom, hc, h2, by rw [splice_length (by omega)]; exact hlen, ?_⟩, .inl rfl, ⟨h3.next, h3.ro, fun b c t g hb hn => h3.rw b c t g hb fun he => hn (by rw [he]), fun b o hb hi hn => h3.oth b o hb hi fun he => hn (by rw [he])⟩, h5 wf⟩
        have e : (CS.take (l * w) ++ new).length = (l + n) * w := by rw [List.length_append, htl, hnl, hadd]
        rw [← e]
        exact List.take_left.symm
      · rw [if_neg hroom]
        rcases hsp with rfl | rfl
        · simp only
          by_cases hl0 : l = 0
          · subst hl0
            obtain ⟨f1, f2, f3⟩ := fresh new n hnl (by omega)
            simp only [if_true, Nat.zero_add, Nat.zero_mul, List.take_zero, List.nil_append]
            exact ⟨_, _, _, _, rfl, f1, .inr ⟨_, rfl, Nat.le_refl _⟩, f2, f3⟩
          · rw [if_neg hl0, hblk.cells (by omega)]
            obtain ⟨f1, f2, f3⟩ := fresh (CS.take (l * w) ++ new) (l + n) (by rw [List.length_append, htl, Nat.add_mul]; omega) (by omega)
            simp only [List.drop_zero, Option.map_some]
            exact ⟨_, _, _, _, rfl, f1, .inr ⟨_, rfl, Nat.le_refl _⟩, f2, f3⟩
        · simp only [if_true]
          obtain ⟨h', g1, g2, g3, g4, g5, g6⟩ := hblk.extend wf (o := 0) (e := l * w) (new := new) (by omega) (by omega) hv
          rw [g1]
          rw [List.drop_zero, Nat.sub_zero] at g2
          refine ⟨_, _, _, _, rfl, .inr ⟨h.next, some w, g', _, rfl, rfl, .inr rfl, Nat.le_refl _, by omega, g2, by rw [List.length_append, htl, Nat.add_mul]; omega, ?_⟩, .inl rfl, ⟨g4.next, g4.ro, fun b c t g hb hn => g4.rw b c t g hb fun he => hn (by rw [he]), fun b o hb hi hn => g4.oth b o hb hi fun he => hn (by rw [he])⟩, g6⟩
          exact (List.take_of_length_le (by rw [List.length_append, htl, Nat.add_mul]; omega)).symm

/-- append of one element, which lies in a new block. -/
theorem Ow.append1 {h h1 : Hp} (wf : Wf h) {t xt elem e : TypeId} {w bytes : Nat} (ht : AppT P t xt elem w bytes) {g : Option Nat} {a : Option Addr} {l c : Nat} {cs : List Value} (s : Ow h w g a l c cs)
    {new : List Value} (he : h1 = h.alloc new e) (hnl : new.length = w) (hv : new.all isCell = true) (hr : roomy (l + 1) bytes = true) :
    ∃ a' c' g' h', cappend P t xt (.slice a l c) (.slice (some ⟨h.next, 0, none⟩) 1 1) h1 = some (.slice a' (l + 1) c', h') ∧ Ow h' w g' a' (l + 1) c' (cs ++ new) ∧ (g' = g ∨ ∃ y, g' = some y ∧ h.next ≤ y) ∧ Keep (fun x => g = some x) h h' ∧ Wf h' := by
  subst he
  have k := alloc_keep wf new e
  have wf' := alloc_wf wf new e
  have hb := alloc_blk wf new e
  have hd : dataOf w (.slice (some ⟨h.next, 0, none⟩) 1 1) (h.alloc new e) = some (1, new) := by
    simp only [dataOf, Nat.one_mul]
    rw [hb.cells (by omega)]
    simp [← hnl]
  obtain ⟨a', c', g', h', h1, h2, h3, h4, h5⟩ := Ow.append wf' ht (s.keep k fun _ _ hf => hf) hd (by omega) hv hr
  refine ⟨a', c', g', h', h1, h2, ?_, (k.mono wf (S' := fun x => g = some x) fun _ _ hf => hf.elim).trans wf h4 (fun _ _ hg => hg), h5⟩
  rcases h3 with h3 | ⟨y, h3, h6⟩
  · exact .inl h3
  · exact .inr ⟨y, h3, by rw [alloc_next] at h6; omega⟩
end

/-! ### 3. Tests -/
theorem ltI_iff {a b : Int} : ltI a b = true ↔ a < b := by simp only [ltI, decide_eq_true_eq]
theorem leI_iff {a b : Int} : leI a b = true ↔ a ≤ b := by simp only [leI, decide_eq_true_eq]
theorem gtI_iff {a b : Int} : gtI a b = true ↔ a > b := by simp only [gtI, decide_eq_true_eq]
theorem geI_iff {a b : Int} : geI a b = true ↔ a ≥ b := by simp only [geI, decide_eq_true_eq]
theorem eqI_iff {a b : Int} : eqI a b = true ↔ a = b := by simp only [eqI, beq_iff_eq]
theorem neI_iff {a b : Int} : neI a b = true ↔ a ≠ b := by simp only [neI, bne_iff_ne]
theorem notB_iff {b : Bool} : notB b = true ↔ b = false := by cases b <;> simp [notB]
theorem andB_iff {a b : Bool} : andB a b = true ↔ a = true ∧ b = true := by cases a <;> cases b <;> simp [andB]
theorem or_iff {a b : Bool} : sel a true b = true ↔ a = true ∨ b = true := by cases a <;> cases b <;> simp [sel]
theorem and_iff {a b : Bool} : sel a b false = true ↔ a = true ∧ b = true := by cases a <;> cases b <;> simp [sel]
theorem natI_eq (n : Nat) : natI n = (n : Int) := rfl

/-! ### 4. New slices -/
section
variable {P : Program}
theorem make_slice {h : Hp} (wf : Wf h) {t elem : TypeId} {w bytes : Nat} (ht : AppT P t t elem w bytes) {z : Value} (hz : zero? P elem = some z) (hp : plainV 100 z = true) {n : Int} {m : Nat} (hn : n = m) (hm : bytes * m ≤ 140737488355328) :
    ∃ h', cmakeSlice P t (.int .i64 n) (.int .i64 n) h = some (.slice (some ⟨h.next, 0, none⟩) m m, h') ∧ h' = h.alloc (zeroCells z.cells.toList m) elem := by
  obtain ⟨i, z', e1, e2, e3, e4, e5⟩ := ht.info
  have hpos := ht.pos
  have hbp := ht.bpos
  have ez : z' = z := by simp [zero?, e1, e4] at hz; exact hz
  subst ez
  subst hn
  refine ⟨_, ?_, rfl⟩
  unfold cmakeSlice
  rw [ht.under]
  dsimp only
  rw [e1]
  dsimp only
  rw [e4]
  dsimp only
  have h1 : (0 : Int) ≤ (m : Int) ∧ (m : Int) ≤ (m : Int) ∧ (i.bytes : Int) * (m : Int) ≤ 2 ^ 47 ∧ (m : Int) ≤ IntKind.i64.max := by
    have h2 : ((i.bytes * m : Nat) : Int) ≤ 140737488355328 := by rw [e3]; exact Int.ofNat_le.mpr hm
    have h3 : m ≤ bytes * m := Nat.le_mul_of_pos_left m hbp
    have h4 : IntKind.i64.max = 9223372036854775807 := rfl
    refine ⟨by omega, Int.le_refl _, by push_cast at h2; exact h2, by rw [h4]; omega⟩
  rw [if_pos h1]
  have h5 : (decide (z'.cells.size = i.size) && !decide (i.size = 0) && plainV 100 z') = true := by
    rw [hp, e5, e2]
    have : ¬ w = 0 := by omega
    simp only [this, decide_true, decide_false, Bool.not_false, Bool.and_self]
  show (if (decide (z'.cells.size = i.size) && !decide (i.size = 0) && plainV 100 z') = true then _ else _) = _
  rw [if_pos h5]
  rfl
end
end Go.Cn

/- Reasoning over canonical heaps: lists that only grow at their end and shrink at their front; a list that has grown, and what it was. -/
set_option linter.unusedVariables false
set_option linter.unusedSimpArgs false
namespace Go.Cn

section
variable {P : Program}

/-- What append does. -/
theorem cappend_eq {h : Hp} {t xt elem : TypeId} {w bytes : Nat} (ht : AppT P t xt elem w bytes) {a : Option Addr} {l c : Nat} {x : Value} {n : Nat} {new : List Value} (hlc : l ≤ c) (hx : dataOf w x h = some (n, new)) (hnl : new.length = n * w) (hr : roomy (l + n) bytes = true) :
    cappend P t xt (.slice a l c) x h = if n = 0 then some (.slice a l c, h) else
      (match (Value.slice a l c) with
        | .slice none 0 0 => some (.slice (some ⟨h.next, 0, some w⟩) n n, h.alloc new elem)
        | .slice (some ⟨b, o, sp⟩) l c =>
          if l + n ≤ c then (h.store b (o + l * w) new).map fun h' => (.slice (some ⟨b, o, sp⟩) (l + n) c, h')
          else match sp with
            | none => if l = 0 then some (.slice (some ⟨h.next, 0, some w⟩) n n, h.alloc new elem) else
              (h.cellsAt b o (l * w)).map fun old => (.slice (some ⟨h.next, 0, some w⟩) (l + n) (l + n), h.alloc (old ++ new) elem)
            | some k => if k = w then (h.extend b o (o + l * w) new).map fun h' => (.slice (some ⟨h.next, 0, some w⟩) (l + n) (l + n), h') else none
        | _ => none) := by
  obtain ⟨i, z, e1, e2, e3, e4, e5⟩ := ht.info
  obtain ⟨u, e6, e7⟩ := ht.other
  have hp := ht.pos
  have hb := ht.bpos
  unfold cappend
  rw [ht.under]
  dsimp only
  rw [e1, e6]
  have hb1 : ¬ (w = 0) := by omega
  have hb2 : ¬ (bytes = 0) := by omega
  cases u with
  | int k => exact absurd rfl (e7 k)
  | _ =>
    dsimp only
    rw [e2, hx]
    by_cases hn : n = 0
    · simp [hn, hlc]
    · simp only [hn, if_false, slen, e3, e4, e5, Option.map_some, decide_true, Bool.not_true, hr, Bool.false_or, Bool.or_false, hb1, hb2, decide_false, Bool.false_eq_true]
      cases a <;> rfl

theorem one_data {h : Hp} (wf : Wf h) {new : List Value} {w : Nat} (hnl : new.length = w) (e : TypeId) : dataOf w (.slice (some ⟨h.next, 0, none⟩) 1 1) (h.alloc new e) = some (1, new) := by
  have hb := alloc_blk wf new e
  simp only [dataOf, Nat.one_mul]
  rw [hb.cells (by omega)]
  simp [← hnl]

/-! ### 1. A list that begins anywhere in its block, and ends with it -/
def Ol (h : Hp) (w : Nat) (g : Option Nat) (a : Option Addr) (l : Nat) (cs : List Value) : Prop :=
  ∃ b o sp g' CS, g = some g' ∧ a = some ⟨b, o, sp⟩ ∧ (sp = none ∨ sp = some w) ∧ 0 < l ∧ Blk h b (some g') CS ∧ CS.length = o + l * w ∧ cs = CS.drop o

section
variable {h : Hp} {w : Nat} {g : Option Nat} {a : Option Addr} {l : Nat} {cs : List Value}
theorem Ol.sl (s : Ol h w g a l cs) : Sl h w g a l l cs := by
  obtain ⟨b, o, sp, g', CS, rfl, rfl, hsp, hl, hb, hlen, rfl⟩ := s
  refine ⟨Nat.le_refl _, by rw [List.length_drop]; omega, hsp, fun _ => ⟨CS, hb, by omega, ?_⟩⟩
  exact List.take_of_length_le (by rw [List.length_drop]; omega)
theorem Ol.keep {S : Nat → Prop} {h' : Hp} (k : Keep S h h') (s : Ol h w g a l cs) (hn : ∀ x, g = some x → ¬ S x) : Ol h' w g a l cs := by
  obtain ⟨b, o, sp, g', CS, rfl, rfl, hsp, hl, hb, hlen, rfl⟩ := s
  exact ⟨b, o, sp, g', CS, rfl, rfl, hsp, hl, k.blk hb fun x hx => by simp at hx; subst hx; exact hn _ rfl, hlen, rfl⟩
theorem Ol.glt (wf : Wf h) (s : Ol h w g a l cs) : ∀ x, g = some x → x < h.next := by
  obtain ⟨b, o, sp, g', CS, rfl, rfl, hsp, hl, hb, hlen, rfl⟩ := s
  intro x hx; simp at hx; subst hx; exact hb.glt wf
theorem Ol.tail (s : Ol h w g a l cs) (h1 : 1 < l) : Ol h w g (a.map fun a => ⟨a.block, a.off + 1 * w, a.spot⟩) (l - 1) (cs.drop w) := by
  obtain ⟨b, o, sp, g', CS, rfl, rfl, hsp, hl, hb, hlen, rfl⟩ := s
  refine ⟨b, o + 1 * w, sp, g', CS, rfl, rfl, hsp, by omega, hb, ?_, by rw [List.drop_drop, Nat.one_mul]⟩
  have : l * w = w + (l - 1) * w := by
    obtain ⟨m, rfl⟩ : ∃ m, l = m + 1 := ⟨l - 1, by omega⟩
    rw [Nat.succ_mul, Nat.add_sub_cancel]; omega
  omega
theorem Ol.append1 {h1 : Hp} (wf : Wf h) {t xt elem e : TypeId} {bytes : Nat} (ht : AppT P t xt elem w bytes) (s : Ol h w g a l cs)
    {new : List Value} (he : h1 = h.alloc new e) (hnl : new.length = w) (hv : new.all isCell = true) (hr : roomy (l + 1) bytes = true) :
    ∃ a' g' h', cappend P t xt (.slice a l l) (.slice (some ⟨h.next, 0, none⟩) 1 1) h1 = some (.slice a' (l + 1) (l + 1), h') ∧ Ol h' w g' a' (l + 1) (cs ++ new) ∧ (g' = g ∨ ∃ y, g' = some y ∧ h.next ≤ y) ∧ Keep (fun x => g = some x) h h' ∧ Wf h' := by
  subst he
  have k := alloc_keep wf new e
  have wf' := alloc_wf wf new e
  have s1 := s.keep k fun _ _ hf => hf
  rw [cappend_eq ht (Nat.le_refl _) (one_data wf hnl e) (by omega) hr, if_neg (by omega)]
  obtain ⟨b, o, sp, g', CS, rfl, rfl, hsp, hl, hb, hlen, rfl⟩ := s1
  simp only
  rw [if_neg (by omega)]
  rcases hsp with rfl | rfl
  · simp only
    rw [if_neg (by omega), hb.cells (by omega)]
    have hold : ((CS.drop o).take (l * w)) = CS.drop o := List.take_of_length_le (by rw [List.length_drop]; omega)
    rw [hold]
    simp only [Option.map_some]
    have f1 := alloc_blk wf' (CS.drop o ++ new) elem
    refine ⟨_, _, _, rfl, ⟨_, 0, some w, _, _, rfl, rfl, .inr rfl, by omega, f1, by rw [List.length_append, List.length_drop, Nat.succ_mul]; omega, rfl⟩, .inr ⟨_, rfl, by rw [alloc_next]; omega⟩, ?_, alloc_wf wf' _ _⟩
    exact (k.trans wf (alloc_keep wf' _ _) fun _ _ hf => hf).mono wf fun _ _ hf => hf.elim
  · simp only [if_true]
    obtain ⟨h', g1, g2, g3, g4, g5, g6⟩ := hb.extend wf' (o := o) (e := o + l * w) (new := new) (by omega) (by omega) hv
    rw [g1]
    have hold : (CS.drop o).take (o + l * w - o) = CS.drop o := List.take_of_length_le (by rw [List.length_drop]; omega)
    rw [hold] at g2
    refine ⟨_, _, _, rfl, ⟨_, 0, some w, _, _, rfl, rfl, .inr rfl, by omega, g2, by rw [List.length_append, List.length_drop, Nat.succ_mul]; omega, rfl⟩, .inl rfl, ?_, g6⟩
    exact ((k.mono wf (S' := fun x => some g' = some x) fun _ _ hf => hf.elim).trans wf (S' := fun x => some g' = some x) (g4.mono wf' fun x _ hx => by rw [hx]) fun x hx he => he)
end

/-! ### 2. A list that has grown, and what it was -/
/-- The blocks of a group that stay behind an append to block b. -/
theorem extend_chain {h h' : Hp} {b g e : Nat} {cs new : List Value} (hb : Blk h b (some g) cs) (hx : h.extend b 0 e new = some h') (hlt : b ≠ h.next) :
    ∃ rest, h'.gs.get g = some (h.next :: rest) ∧ b ∈ rest ∧ (e = cs.length → ∀ b0 l, h.gs.get g = some l → b0 ∈ l.dropWhile (· != b) → b0 ∈ rest) ∧ ∀ x, x ≠ h.next → x ≠ b → h'.ob x = h.ob x := by
  obtain ⟨t, h1, h2⟩ := hb
  obtain ⟨cs0, t0, g0, rest, hE⟩ := Hp.extend_spec hx hlt
  have e1 := hE.old
  rw [h1] at e1
  simp at e1
  obtain ⟨rfl, rfl, rfl⟩ := e1
  refine ⟨rest, by rw [hE.gs, if_pos rfl], ?_, fun he b0 l hl hm => ?_, fun x hn hnb => by rw [hE.ob, if_neg hn, if_neg hnb]⟩
  · rcases hE.rest with ⟨_, e2⟩ | e2
    · rw [e2]; exact Hp.below_self h2
    · rw [e2]; simp
  · have hb' : h.below b g = l.dropWhile (· != b) := by unfold Hp.below; rw [hl]
    -- the other way of an append is not taken where the list ends with its block
    have : rest = h.below b g := by
      have hex := hx
      unfold Hp.extend at hex
      rw [h1] at hex
      simp only at hex
      split at hex
      · simp only [Option.some.injEq] at hex
        have hg := hE.gs g
        rw [if_pos rfl] at hg
        rw [← hex] at hg
        simp only [if_pos he] at hg
        rw [Hp.gs_setGs, if_pos rfl] at hg
        simp only [Option.some.injEq, List.cons.injEq, true_and] at hg
        exact hg.symm
      · simp at hex
    rw [this, hb']; exact hm
end
end Go.Cn

/- A call that answers a plain value and leaves what it may look at: its contract over a small heap of its own serves over every heap that holds a copy of that heap, wherever it lies. -/
set_option linter.unusedVariables false
set_option linter.unusedSimpArgs false
namespace Go.Cn

/-- Blocks of the small heap, and where they lie in the large one. -/
abbrev Rho := Nat → Option Nat
def Rho.sg (ρ : Rho) (σ : Sg) : Sg := fun b => (ρ b).bind σ

theorem plain_any {v v' : Value} {σ σ' : Sg} (hp : plainV 100 v = true) (h : VRel σ v v') : VRel σ' v v' :=
  ((plainV_rel (fun _ => none) 100 v hp).pull (fun b e hb => by simp at hb) h).mono fun b e hb => by simp at hb
theorem Rho.sg_at {ρ : Rho} {b b1 : Nat} (h : ρ b = some b1) (σ : Sg) : ρ.sg σ b = σ b1 := by unfold Rho.sg; rw [h]; rfl

/-- A value of the small heap, and what it is in the large one. -/
inductive RV (ρ : Rho) : Value → Value → Prop where
  | plain (v : Value) : plainV 100 v = true → RV ρ v v
  | ptr (b b1 o : Nat) : ρ b = some b1 → RV ρ (.pointer (some ⟨b, o, none⟩)) (.pointer (some ⟨b1, o, none⟩))
  | map (b b1 : Nat) : ρ b = some b1 → RV ρ (.map (some b)) (.map (some b1))
  | iface (t : TypeId) (x y : Value) : RV ρ x y → RV ρ (.iface t x) (.iface t y)
  | func (f : FuncId) (xs ys : List Value) : xs.length = ys.length → (∀ (i : Nat) x y, xs[i]? = some x → ys[i]? = some y → RV ρ x y) → RV ρ (.func (.func f) #[] xs.toArray) (.func (.func f) #[] ys.toArray)
  | agg (xs ys : List Value) : xs.length = ys.length → (∀ (i : Nat) x y, xs[i]? = some x → ys[i]? = some y → RV ρ x y) → RV ρ (.agg xs.toArray) (.agg ys.toArray)

theorem RV.int {ρ : Rho} (k : IntKind) (n : Int) : RV ρ (.int k n) (.int k n) := .plain _ rfl
theorem RV.bool {ρ : Rho} (b : Bool) : RV ρ (.bool b) (.bool b) := .plain _ rfl
theorem RV.string {ρ : Rho} (s : ByteArray) : RV ρ (.string s) (.string s) := .plain _ rfl
theorem RV.mono {ρ ρ' : Rho} (h : ∀ b b1, ρ b = some b1 → ρ' b = some b1) {x y : Value} (hv : RV ρ x y) : RV ρ' x y := by
  induction hv with
  | plain v hp => exact .plain v hp
  | ptr b b1 o hb => exact .ptr b b1 o (h _ _ hb)
  | map b b1 hb => exact .map b b1 (h _ _ hb)
  | iface t x y _ ih => exact .iface t x y ih
  | func f xs ys hl _ ih => exact .func f xs ys hl ih
  | agg xs ys hl _ ih => exact .agg xs ys hl ih

theorem LRel.of_get {σ : Sg} {xs : List Value} {l : Array Value} (h1 : xs.toArray.size = l.size) (h2 : ∀ (i : Nat) x y, xs.toArray[i]? = some x → l[i]? = some y → VRel σ x y) : LRel σ xs l.toList :=
  ⟨by simpa using h1, fun i x y hx hy => h2 i x y (by simpa using hx) (by simpa using hy)⟩

theorem RV.iff {ρ : Rho} {x y : Value} (hv : RV ρ x y) : ∀ (σ : Sg) v', VRel σ y v' ↔ VRel (ρ.sg σ) x v' := by
  have lists : ∀ {xs ys : List Value}, xs.length = ys.length → (∀ (i : Nat) x y, xs[i]? = some x → ys[i]? = some y → ∀ (σ : Sg) v', VRel σ y v' ↔ VRel (ρ.sg σ) x v') → ∀ {σ : Sg} {l : List Value}, LRel σ ys l ↔ LRel (ρ.sg σ) xs l := by
    intro xs ys hl ih σ l
    constructor
    · rintro ⟨h1, h2⟩
      refine ⟨hl.trans h1, fun i x v' hx hv => ?_⟩
      have hi : i < ys.length := by rw [← hl]; exact (List.getElem?_eq_some_iff.1 hx).1
      exact (ih i x _ hx (List.getElem?_eq_getElem hi) σ v').1 (h2 i _ v' (List.getElem?_eq_getElem hi) hv)
    · rintro ⟨h1, h2⟩
      refine ⟨hl.symm.trans h1, fun i y v' hy hv => ?_⟩
      have hi : i < xs.length := by rw [hl]; exact (List.getElem?_eq_some_iff.1 hy).1
      exact (ih i _ y (List.getElem?_eq_getElem hi) hy σ v').2 (h2 i _ v' (List.getElem?_eq_getElem hi) hv)
  induction hv with
  | plain v hp => exact fun σ v' => ⟨plain_any hp, plain_any hp⟩
  | ptr b b1 o h =>
    intro σ v'
    constructor
    · intro hv
      obtain ⟨_, e, he, rfl⟩ := hv.ptr_inv
      exact .ptr b o e (by rw [Rho.sg_at h]; exact he)
    · intro hv
      obtain ⟨_, e, he, rfl⟩ := hv.ptr_inv
      exact .ptr b1 o e (by rw [← Rho.sg_at h σ]; exact he)
  | map b b1 h =>
    intro σ v'
    constructor
    · intro hv
      obtain ⟨e, he, rfl⟩ := hv.map_inv
      exact .map b e (by rw [Rho.sg_at h]; exact he)
    · intro hv
      obtain ⟨e, he, rfl⟩ := hv.map_inv
      exact .map b1 e (by rw [← Rho.sg_at h σ]; exact he)
  | iface t x y _ ih =>
    intro σ v'
    constructor
    · intro hv
      obtain ⟨w, rfl, hw⟩ := hv.iface_inv
      exact .iface t x w ((ih σ w).1 hw)
    · intro hv
      obtain ⟨w, rfl, hw⟩ := hv.iface_inv
      exact .iface t y w ((ih σ w).2 hw)
  | func f xs ys hl _ ih =>
    intro σ v'
    have hy : isYield (.func f) = false := rfl
    constructor
    · intro hv
      obtain ⟨p, q, rfl, hp, hq⟩ := hv.func_inv hy
      have hx := (lists hl ih).1 (LRel.of_get hq.1 hq.2)
      exact .func _ _ _ _ _ hy hp.1 (by simpa using hx.1) (fun i x y hx _ => by simp at hx) (fun i x y h1 h2 => hx.2 i x y (by simpa using h1) (by simpa using h2))
    · intro hv
      obtain ⟨p, q, rfl, hp, hq⟩ := hv.func_inv hy
      have hx := (lists hl ih).2 (LRel.of_get hq.1 hq.2)
      exact .func _ _ _ _ _ hy hp.1 (by simpa using hx.1) (fun i x y hx _ => by simp at hx) (fun i x y h1 h2 => hx.2 i x y (by simpa using h1) (by simpa using h2))
  | agg xs ys hl _ ih =>
    intro σ v'
    constructor
    · intro hv
      obtain ⟨q, rfl, hq⟩ := hv.agg_inv
      have hx := (lists hl ih).1 (LRel.of_get hq.1 hq.2)
      exact .agg _ _ (by simpa using hx.1) (fun i x y h1 h2 => hx.2 i x y (by simpa using h1) (by simpa using h2))
    · intro hv
      obtain ⟨q, rfl, hq⟩ := hv.agg_inv
      have hx := (lists hl ih).2 (LRel.of_get hq.1 hq.2)
      exact .agg _ _ (by simpa using hx.1) (fun i x y h1 h2 => hx.2 i x y (by simpa using h1) (by simpa using h2))

/-- Lists of values, pointwise. -/
def RL (ρ : Rho) (xs ys : List Value) : Prop := xs.length = ys.length ∧ ∀ (i : Nat) x y, xs[i]? = some x → ys[i]? = some y → RV ρ x y
theorem RL.nil {ρ : Rho} : RL ρ [] [] := ⟨rfl, by simp⟩
theorem RL.cons {ρ : Rho} {x y : Value} {xs ys : List Value} (h : RV ρ x y) (hl : RL ρ xs ys) : RL ρ (x :: xs) (y :: ys) := by
  refine ⟨by simp [hl.1], fun i a b ha hb => ?_⟩
  cases i with
  | zero => simp at ha hb; subst ha; subst hb; exact h
  | succ i => simp at ha hb; exact hl.2 i a b ha hb
theorem RL.plain {ρ : Rho} {l : List Value} (h : l.all (plainV 100) = true) : RL ρ l l := by
  refine ⟨rfl, fun i x y hx hy => ?_⟩
  rw [hx] at hy
  cases hy
  exact RV.plain _ (List.all_eq_true.1 h x (List.mem_of_getElem? hx))
theorem RL.append {ρ : Rho} {xs ys xs' ys' : List Value} (h : RL ρ xs ys) (h' : RL ρ xs' ys') : RL ρ (xs ++ xs') (ys ++ ys') := by
  refine ⟨by simp [h.1, h'.1], fun i a b ha hb => ?_⟩
  by_cases hi : i < xs.length
  · rw [List.getElem?_append_left hi] at ha
    rw [List.getElem?_append_left (by rw [← h.1]; exact hi)] at hb
    exact h.2 i a b ha hb
  · rw [List.getElem?_append_right (by omega)] at ha
    rw [List.getElem?_append_right (by rw [← h.1]; omega), ← h.1] at hb
    exact h'.2 _ a b ha hb
theorem RL.mono {ρ ρ' : Rho} (h : ∀ b b1, ρ b = some b1 → ρ' b = some b1) {xs ys : List Value} (hl : RL ρ xs ys) : RL ρ' xs ys := ⟨hl.1, fun i x y hx hy => (hl.2 i x y hx hy).mono h⟩

theorem RL.rel {ρ : Rho} {xs ys : List Value} (h : RL ρ xs ys) {σ : Sg} {l : List Value} : LRel σ ys l ↔ LRel (ρ.sg σ) xs l := by
  constructor
  · rintro ⟨h1, h2⟩
    refine ⟨h.1.trans h1, fun i x v' hx hv => ?_⟩
    have hi : i < ys.length := by rw [← h.1]; exact (List.getElem?_eq_some_iff.1 hx).1
    exact ((h.2 i x _ hx (List.getElem?_eq_getElem hi)).iff σ v').1 (h2 i _ v' (List.getElem?_eq_getElem hi) hv)
  · rintro ⟨h1, h2⟩
    refine ⟨h.1.symm.trans h1, fun i y v' hy hv => ?_⟩
    have hi : i < xs.length := by rw [h.1]; exact (List.getElem?_eq_some_iff.1 hy).1
    exact ((h.2 i _ y (List.getElem?_eq_getElem hi) hy).iff σ v').2 (h2 i _ v' (List.getElem?_eq_getElem hi) hv)

/-- The large heap holds a copy of the small one. -/
structure Emb (ρ : Rho) (h0 h : Hp) : Prop where
  wf : Wf h0
  st : ∀ g, h0.gs.get g = none
  own : ∀ b cs t g, h0.ob b = some (.cells cs t (some g)) → g = b
  inj : ∀ b b' b1, ρ b = some b1 → ρ b' = some b1 → b = b'
  ex : ∀ b b1, ρ b = some b1 → ∃ o, h0.ob b = some o
  gs1 : ∀ b b1 cs t g, ρ b = some b1 → h0.ob b = some (.cells cs t (some g)) → h.gs.get b1 = none
  cells : ∀ b b1 cs t g, ρ b = some b1 → h0.ob b = some (.cells cs t g) → ∃ cs1 t1, h.ob b1 = some (.cells cs1 t1 (g.map fun _ => b1)) ∧ RL ρ cs cs1
  oth : ∀ b b1 o, ρ b = some b1 → h0.ob b = some o → o.isOth = true → ∃ c, o = .map [] c ∧ h.ob b1 = some (.map [] c)

theorem Rho.sg_some {ρ : Rho} {σ : Sg} {b : Nat} {e : En} (h : ρ.sg σ b = some e) : ∃ b1, ρ b = some b1 ∧ σ b1 = some e := by
  unfold Rho.sg at h
  cases hb : ρ b with
  | none => rw [hb] at h; simp at h
  | some b1 => rw [hb] at h; exact ⟨b1, rfl, h⟩

theorem Emb.live {ρ : Rho} {h0 h : Hp} (em : Emb ρ h0 h) {b : Nat} {cs : List Value} {t : TypeId} {g : Option Nat} (hb : h0.ob b = some (.cells cs t g)) : h0.live b g = true := by
  cases g with
  | none => rfl
  | some g =>
    have := em.own b cs t g hb
    subst this
    simp [Hp.live, em.st]
theorem Emb.live1 {ρ : Rho} {h0 h : Hp} (em : Emb ρ h0 h) {b b1 : Nat} (hb : ρ b = some b1) {cs : List Value} {t : TypeId} {g : Option Nat} (ho : h0.ob b = some (.cells cs t g)) : h.live b1 (g.map fun _ => b1) = true := by
  cases g with
  | none => rfl
  | some g => simp [Hp.live, em.gs1 b b1 cs t g hb ho]

theorem oth_empty {σ σ' : Sg} {c : Nat} {r : Obj} (h : OthRel σ (.map [] c) r) : OthRel σ' (.map [] c) r := by
  cases r <;> first | exact h.elim | skip
  obtain ⟨h1, h2⟩ := h
  refine ⟨h1, ?_⟩
  generalize hl : (_ : Array MapEntry).toList = l at h2 ⊢
  cases h2
  exact .nil

theorem Emb.hr {ρ : Rho} {h0 h : Hp} (em : Emb ρ h0 h) {base : Nat} {σ : Sg} {w : World} (hr : HR base σ h w) : HR base (ρ.sg σ) h0 w := by
  refine ⟨hr.base_le, ?_, em.wf.fresh, ?_, em.wf.grp, ?_, em.wf.stack, ?_, ?_, ?_⟩
  · intro b e he
    obtain ⟨b1, h1, h2⟩ := Rho.sg_some he
    obtain ⟨o, h3⟩ := em.ex b b1 h1
    exact ⟨em.wf.lt h3, (hr.dom b1 e h2).2⟩
  · intro b e cs t g he hob _
    obtain ⟨b1, h1, h2⟩ := Rho.sg_some he
    obtain ⟨cs1, t1, h3, h4⟩ := em.cells b b1 cs t g h1 hob
    obtain ⟨⟨c, el, fr, k1, k2, k3, k4, k5⟩, k6⟩ := hr.cell b1 e cs1 t1 _ h2 h3 (em.live1 h1 hob)
    refine ⟨⟨c, el, fr, k1, k2, by rw [h4.1]; exact k3, fun i v hv => ?_, fun hg => k5 (by cases g <;> simp at hg ⊢)⟩, ?_⟩
    · have hi : i < cs1.length := by rw [← h4.1]; exact (List.getElem?_eq_some_iff.1 hv).1
      obtain ⟨v', n1, n2⟩ := k4 i _ (List.getElem?_eq_getElem hi)
      exact ⟨v', n1, ((h4.2 i v _ hv (List.getElem?_eq_getElem hi)).iff σ v').1 n2⟩
    · cases g with
      | none => exact k6
      | some g => exact k6
  · intro b e cs t g he hob
    have := em.own b cs t g hob
    subst this
    exact ⟨e, he⟩
  · intro g l hg
    rw [em.st] at hg
    simp at hg
  · intro b1 b2 e1 e2 cs1 cs2 t1 t2 g1 g2 s1 s2 o1 o2 l1 l2 hrb
    obtain ⟨c1, p1, p2⟩ := Rho.sg_some s1
    obtain ⟨c2, q1, q2⟩ := Rho.sg_some s2
    obtain ⟨ds1, u1, p3, p4⟩ := em.cells b1 c1 cs1 t1 _ p1 o1
    obtain ⟨ds2, u2, q3, q4⟩ := em.cells b2 c2 cs2 t2 _ q1 o2
    have := hr.apart c1 c2 e1 e2 ds1 ds2 u1 u2 c1 c2 p2 q2 p3 q3 (em.live1 p1 o1) (em.live1 q1 o2) hrb
    subst this
    have e1 := em.own b1 cs1 t1 g1 o1
    have e2 := em.own b2 cs2 t2 g2 o2
    rw [e1, e2]
    exact em.inj _ _ _ p1 q1
  · intro b e o he hob hoth
    obtain ⟨b1, h1, h2⟩ := Rho.sg_some he
    obtain ⟨c, rfl, h3⟩ := em.oth b b1 o h1 hob hoth
    obtain ⟨k1, k2, ⟨r, k3, k4⟩, k5⟩ := hr.oth b1 e _ h2 h3 rfl
    refine ⟨k1, k2, ⟨r, k3, oth_empty k4⟩, fun b' e' hb' hrb => ?_⟩
    obtain ⟨b1', m1, m2⟩ := Rho.sg_some hb'
    have := k5 b1' e' m2 hrb
    subst this
    exact em.inj _ _ _ m1 h1

section
variable {P : Program}
theorem SCalls.reloc {f : FuncId} {args0 args : List Value} {h0 h : Hp} {ρ : Rho} {K : Value → Prop} (hf : f < P.funcs.size) (hc : SCalls P f args0 h0 fun v h' => K v ∧ plainV 100 v = true ∧ Stay h0 h') (em : Emb ρ h0 h) (ha : RL ρ args0 args) :
    SCalls P f args h fun v h' => K v ∧ h' = h := by
  have hc := hc.func hf
  refine .inl ⟨hc.1, fun base σ w rargs hr hl => (hc.2 base (ρ.sg σ) w rargs (em.hr hr) (ha.rel.1 hl)).mono ?_⟩
  rintro e w' ⟨v, v', h1, σ1, rfl, ⟨hk, hp, hst⟩, hv, hr1, he⟩
  have hr0 := em.hr hr
  -- what is not in the small heap stays; what is in it reads the same
  have same : ∀ b1 e, σ b1 = some e → (∀ b, ρ b ≠ some b1) → (∀ b b2 e2, ρ b = some b2 → σ b2 = some e2 → e2.rb ≠ e.rb) → w'.heap[e.rb]? = w.heap[e.rb]? := by
    intro b1 e hb hn hq
    refine he.other e.rb (hr.dom b1 e hb).2 fun b e2 hs => ?_
    obtain ⟨b2, m1, m2⟩ := Rho.sg_some hs
    exact hq b b2 e2 m1 m2
  refine ⟨v, v', h, σ, rfl, ⟨hk, rfl⟩, plain_any hp hv, ?_, ?_⟩
  · refine ⟨Nat.le_trans hr.base_le he.size, fun b e hb => ⟨(hr.dom b e hb).1, Nat.lt_of_lt_of_le (hr.dom b e hb).2 he.size⟩, hr.fresh, ?_, hr.grp, hr.gdom, hr.stack, hr.nest, hr.apart, ?_⟩
    · intro b1 e cs t g hb hob hlv
      have L := hr.cell b1 e cs t g hb hob hlv
      by_cases hin : ∃ b, ρ b = some b1
      · obtain ⟨b, hρ⟩ := hin
        obtain ⟨o, ho⟩ := em.ex b b1 hρ
        have hno : o.isOth = false := by
          cases hx : o.isOth with
          | false => rfl
          | true =>
            obtain ⟨c, rfl, h3⟩ := em.oth b b1 o hρ ho hx
            rw [hob] at h3; simp at h3
        obtain ⟨cs0, t0, g0, rfl⟩ : ∃ cs0 t0 g0, o = .cells cs0 t0 g0 := by
          cases o with
          | cells a b c => exact ⟨a, b, c, rfl⟩
          | _ => simp [Ob.isOth] at hno
        obtain ⟨cs1, t1, h3, h4⟩ := em.cells b b1 cs0 t0 g0 hρ ho
        rw [hob] at h3
        simp only [Option.some.injEq, Ob.cells.injEq] at h3
        obtain ⟨rfl, rfl, rfl⟩ := h3
        have hs0 : (ρ.sg σ) b = some e := by rw [Rho.sg_at hρ]; exact hb
        obtain ⟨k1, k2⟩ := hst.cell b cs0 t0 g0 ho (em.live ho)
        obtain ⟨⟨c, el, fr, m1, m2, m3, m4, m5⟩, m6⟩ := hr1.cell b e cs0 t0 g0 (he.le _ _ hs0) k1 k2
        obtain ⟨⟨c0, el0, fr0, n1, n2, n3, n4, n5⟩, n6⟩ := L
        refine ⟨⟨c, el, fr, m1, m2, by rw [← h4.1]; exact m3, fun i y hy => ?_, fun hg => m5 (by cases g0 <;> simp at hg ⊢)⟩, n6⟩
        have hi : i < cs0.length := by rw [h4.1]; exact (List.getElem?_eq_some_iff.1 hy).1
        obtain ⟨v2, q1, q2⟩ := m4 i _ (List.getElem?_eq_getElem hi)
        obtain ⟨v1, q3, q4⟩ := n4 i y hy
        have rv := h4.2 i _ y (List.getElem?_eq_getElem hi) hy
        exact ⟨v2, q1, (rv.iff σ v2).2 (((rv.iff σ v1).1 q4).pull he.le q2)⟩
      · have hn : ∀ b, ρ b ≠ some b1 := fun b hb' => hin ⟨b, hb'⟩
        cases g with
        | none =>
          have hlt : e.rb < base := L.side
          obtain ⟨⟨c, el, fr, m1, m2⟩, m6⟩ := L
          exact ⟨⟨c, el, fr, by rw [he.below _ hlt]; exact m1, m2⟩, m6⟩
        | some gg =>
          have hge : base ≤ e.rb := L.side
          have hw : w'.heap[e.rb]? = w.heap[e.rb]? := by
            refine same b1 e hb hn fun b b2 e2 m1 m2 hrb => ?_
            obtain ⟨o, ho⟩ := em.ex b b2 m1
            cases hx : o.isOth with
            | true =>
              obtain ⟨c, rfl, h3⟩ := em.oth b b2 o m1 ho hx
              obtain ⟨_, _, _, p5⟩ := hr.oth b2 e2 _ m2 h3 rfl
              have := p5 b1 e hb hrb.symm
              subst this
              exact hn b m1
            | false =>
              obtain ⟨cs0, t0, g0, rfl⟩ : ∃ cs0 t0 g0, o = .cells cs0 t0 g0 := by
                cases o with
                | cells a b c => exact ⟨a, b, c, rfl⟩
                | _ => simp [Ob.isOth] at hx
              obtain ⟨cs1, t1, h3, h4⟩ := em.cells b b2 cs0 t0 g0 m1 ho
              cases g0 with
              | none =>
                have L2 := hr.cell b2 e2 cs1 t1 _ m2 h3 (em.live1 m1 ho)
                have : e2.rb < base := L2.side
                omega
              | some g0 =>
                have := hr.apart b1 b2 e e2 cs cs1 t t1 gg b2 hb m2 hob h3 hlv (em.live1 m1 ho) hrb.symm
                subst this
                simp only [Hp.live, em.gs1 b gg _ _ _ m1 ho, beq_iff_eq] at hlv
                subst hlv
                exact hn b m1
          obtain ⟨⟨c, el, fr, m1, m2⟩, m6⟩ := L
          exact ⟨⟨c, el, fr, by rw [hw]; exact m1, m2⟩, m6⟩
    · intro b1 e o hb hob hoth
      obtain ⟨p1, p2, ⟨r0, p3, p4⟩, p5⟩ := hr.oth b1 e o hb hob hoth
      by_cases hin : ∃ b, ρ b = some b1
      · obtain ⟨b, hρ⟩ := hin
        obtain ⟨o0, ho⟩ := em.ex b b1 hρ
        have hx : o0.isOth = true := by
          cases hx : o0.isOth with
          | true => rfl
          | false =>
            obtain ⟨cs0, t0, g0, rfl⟩ : ∃ cs0 t0 g0, o0 = .cells cs0 t0 g0 := by
              cases o0 with
              | cells a b c => exact ⟨a, b, c, rfl⟩
              | _ => simp [Ob.isOth] at hx
            obtain ⟨cs1, t1, h3, h4⟩ := em.cells b b1 cs0 t0 g0 hρ ho
            rw [hob] at h3
            simp only [Option.some.injEq] at h3
            rw [h3] at hoth
            simp [Ob.isOth] at hoth
        obtain ⟨c, rfl, h3⟩ := em.oth b b1 o0 hρ ho hx
        rw [hob] at h3
        simp only [Option.some.injEq] at h3
        subst h3
        have hs0 : (ρ.sg σ) b = some e := by rw [Rho.sg_at hρ]; exact hb
        obtain ⟨_, _, ⟨r1, q3, q4⟩, _⟩ := hr1.oth b e _ (he.le _ _ hs0) (hst.oth b _ ho rfl) rfl
        exact ⟨p1, p2, ⟨r1, q3, oth_empty q4⟩, p5⟩
      · have hn : ∀ b, ρ b ≠ some b1 := fun b hb' => hin ⟨b, hb'⟩
        have hw : w'.heap[e.rb]? = w.heap[e.rb]? := by
          refine same b1 e hb hn fun b b2 e2 m1 m2 hrb => ?_
          have := p5 b2 e2 m2 hrb
          subst this
          exact hn b m1
        exact ⟨p1, p2, ⟨r0, by rw [hw]; exact p3, p4⟩, p5⟩
  · refine ⟨Sg.le_refl σ, he.os, he.tape, he.output, he.size, he.below, fun k hk hno => ?_, fun b e h1 h2 => by rw [h1] at h2; simp at h2, Nat.le_refl _, fun b _ hb => ⟨rfl, rfl, hb⟩⟩
    refine he.other k hk fun b e hs => ?_
    obtain ⟨b2, m1, m2⟩ := Rho.sg_some hs
    exact hno b2 e m2

/-- A call of plain arguments that answers a plain value: evaluated over the empty heap, it serves over every heap. -/
theorem SCalls.bare {f : FuncId} {args : List Value} {h : Hp} {K : Value → Prop} (hf : f < P.funcs.size) (hp : args.all (plainV 100) = true) (hc : SCalls P f args Hp.empty fun v _ => K v ∧ plainV 100 v = true) : SCalls P f args h fun v h' => K v ∧ h' = h := by
  refine SCalls.reloc (h0 := Hp.empty) (ρ := fun _ => none) hf (hc.mono fun v h' hk => ⟨hk.1, hk.2, ⟨fun b cs t g hb => ?_, fun b o hb => ?_⟩⟩) ?_ (RL.plain hp)
  · exact absurd hb (by simp [show Hp.empty.ob b = none from rfl])
  · exact absurd hb (by simp [show Hp.empty.ob b = none from rfl])
  · refine ⟨⟨fun b _ => ⟨rfl, rfl⟩, fun b cs t g hb => ?_, fun g l hg => ?_⟩, fun g => rfl, fun b cs t g hb => ?_, by simp, by simp, by simp, by simp, by simp⟩
    · exact absurd hb (by simp [show Hp.empty.ob b = none from rfl])
    · exact absurd hg (by simp [show Hp.empty.gs.get g = none from rfl])
    · exact absurd hb (by simp [show Hp.empty.ob b = none from rfl])

/-- Evaluated fast, with laws. -/
theorem bareK (hm : P.follows .mixedOrders = true) {m n : Nat} {nat : FuncId → List Value → Hp → Option (Option Value)} (hn : NatOk P nat) {f : FuncId} {args : List Value} (hf : f < P.funcs.size) (hp : args.all (plainV 100) = true) {K : Value → Bool}
    (hx : xK P m nat n f args Hp.empty (fun v _ => plainV 100 v && K v) = true) (h : Hp) : SCalls P f args h fun v h' => K v = true ∧ h' = h := by
  rw [xK_eq] at hx
  refine SCalls.bare hf hp ((xG_ok hm hn n f args Hp.empty _ hx).mono fun v h' hv => ?_)
  simp only [Bool.and_eq_true] at hv
  exact ⟨hv.2, hv.1⟩
end
end Go.Cn

/- Small heaps, laid block by block beside the large heap that holds them; evaluation of calls over them where leaves are not known. -/
set_option linter.unusedVariables false
set_option linter.unusedSimpArgs false
namespace Go.Cn

/-- A block of a group of its own, that no append has gone on from. -/
def Own1 (h : Hp) (b : Nat) (cs : List Value) : Prop := (∃ t, h.ob b = some (.cells cs t (some b))) ∧ h.gs.get b = none
/-- An empty map. -/
def Map0 (h : Hp) (b : Nat) : Prop := h.ob b = some (.map [] 0)

theorem new_own {h h1 : Hp} (wf : Wf h) {cs : List Value} {e : TypeId} (he : h1 = h.alloc cs e) : Own1 h1 h.next cs := by
  subst he
  exact ⟨⟨e, by rw [Hp.ob_alloc, if_pos rfl]⟩, (wf.fresh _ (Nat.le_refl _)).2⟩
theorem Own1.blk {h : Hp} {b : Nat} {cs : List Value} (o : Own1 h b cs) : Blk h b (some b) cs := by
  obtain ⟨⟨t, h1⟩, h2⟩ := o
  exact ⟨t, h1, by simp [Hp.live, h2]⟩

theorem newOb_wf {h : Hp} (wf : Wf h) {o : Ob} (hi : o.isOth = true) : Wf (h.newOb o) := by
  refine ⟨fun b hb => ?_, fun b c t g hb => ?_, fun g l hg b hb => ?_⟩
  · have hb' : h.next + 1 ≤ b := hb
    exact ⟨by rw [Hp.ob_newOb, if_neg (by omega)]; exact (wf.fresh b (by omega)).1, (wf.fresh b (by omega)).2⟩
  · rw [Hp.ob_newOb] at hb
    show g < h.next + 1
    split at hb
    · simp at hb; subst hb; simp [Ob.isOth] at hi
    · have := wf.grp _ _ _ _ hb; omega
  · obtain ⟨c, t, h1⟩ := wf.stack g l hg b hb
    exact ⟨c, t, by rw [Hp.ob_newOb, if_neg (by have := wf.lt h1; omega)]; exact h1⟩
theorem newOb_keep {h : Hp} (wf : Wf h) (o : Ob) : Kept h (h.newOb o) := by
  refine ⟨Nat.le_succ _, fun b c t hb => ?_, fun b c t g hb _ => ⟨?_, rfl⟩, fun b o' hb _ _ => by rw [Hp.ob_newOb, if_neg (by have := wf.lt hb; omega)]; exact hb⟩
  · rw [Hp.ob_newOb, if_neg (by have := wf.lt hb; omega)]; exact hb
  · rw [Hp.ob_newOb, if_neg (by have := wf.lt hb; omega)]; exact hb
theorem new_map {h h1 : Hp} (wf : Wf h) (he : h1 = h.newOb (.map [] 0)) : Map0 h1 h.next ∧ Kept h h1 ∧ h1.next = h.next + 1 ∧ Wf h1 := by
  subst he
  exact ⟨by unfold Map0; rw [Hp.ob_newOb, if_pos rfl], newOb_keep wf _, rfl, newOb_wf wf rfl⟩

theorem Own1.keep {h h' : Hp} (k : Kept h h') {b : Nat} {cs : List Value} (o : Own1 h b cs) : Own1 h' b cs := by
  obtain ⟨⟨t, h1⟩, h2⟩ := o
  obtain ⟨h3, h4⟩ := k.rw _ _ _ _ h1 id
  exact ⟨⟨t, h3⟩, h4.trans h2⟩

theorem Emb.empty (h : Hp) : Emb (fun _ => none) Hp.empty h :=
  ⟨⟨fun b _ => ⟨rfl, rfl⟩, fun b cs t g hb => absurd hb (by simp [show Hp.empty.ob b = none from rfl]), fun g l hg => absurd hg (by simp [show Hp.empty.gs.get g = none from rfl])⟩, fun g => rfl,
    fun b cs t g hb => absurd hb (by simp [show Hp.empty.ob b = none from rfl]), by simp, by simp, by simp, by simp, by simp⟩

def Rho.put (ρ : Rho) (b b1 : Nat) : Rho := fun x => if x = b then some b1 else ρ x
theorem Rho.put_self {ρ : Rho} {b b1 : Nat} : ρ.put b b1 b = some b1 := by unfold Rho.put; rw [if_pos rfl]
theorem Rho.put_ne {ρ : Rho} {b b1 x : Nat} (h : x ≠ b) : ρ.put b b1 x = ρ x := by unfold Rho.put; rw [if_neg h]

theorem Emb.lt {ρ : Rho} {h0 h : Hp} (em : Emb ρ h0 h) {b b1 : Nat} (hb : ρ b = some b1) : b < h0.next := by
  obtain ⟨o, ho⟩ := em.ex b b1 hb
  exact em.wf.lt ho

theorem Emb.put_le {ρ : Rho} {h0 h : Hp} (em : Emb ρ h0 h) (b1 : Nat) : ∀ b c, ρ b = some c → ρ.put h0.next b1 b = some c := fun b c hb => by
  have := em.lt hb
  rw [Rho.put_ne (by omega)]; exact hb

/-- One object more. -/
theorem Emb.obj {ρ : Rho} {h0 h1 h : Hp} (em : Emb ρ h0 h) {b1 : Nat} {o : Ob} (hob : ∀ b, h1.ob b = if b = h0.next then some o else h0.ob b) (hgs : h1.gs = h0.gs) (wf : Wf h1) (hn : ∀ b, ρ b ≠ some b1) (hg : o.isOth = false → h.gs.get b1 = none)
    (hown : ∀ cs t g, o = .cells cs t (some g) → g = h0.next)
    (hc : ∀ cs t g, o = .cells cs t g → ∃ cs1 t1, h.ob b1 = some (.cells cs1 t1 (g.map fun _ => b1)) ∧ RL (ρ.put h0.next b1) cs cs1) (hm : o.isOth = true → ∃ c, o = .map [] c ∧ h.ob b1 = some (.map [] c)) : Emb (ρ.put h0.next b1) h1 h := by
  have cases : ∀ b c, ρ.put h0.next b1 b = some c → (b = h0.next ∧ c = b1) ∨ (b ≠ h0.next ∧ ρ b = some c) := by
    intro b c hb
    by_cases e : b = h0.next
    · subst e; rw [Rho.put_self] at hb; simp at hb; exact .inl ⟨rfl, hb.symm⟩
    · rw [Rho.put_ne e] at hb; exact .inr ⟨e, hb⟩
  refine ⟨wf, fun g => by rw [hgs]; exact em.st g, fun b cs t g hb => ?_, fun b b' c h1' h2' => ?_, fun b c hb => ?_, fun b c cs t g hb ho => ?_, fun b c cs t g hb ho => ?_, fun b c o' hb ho hi => ?_⟩
  · rw [hob] at hb
    split at hb
    · rename_i e; subst e; simp at hb; exact hown _ _ _ hb
    · exact em.own b cs t g hb
  · rcases cases b c h1' with ⟨e1, e2⟩ | ⟨e1, e2⟩ <;> rcases cases b' c h2' with ⟨e3, e4⟩ | ⟨e3, e4⟩
    · rw [e1, e3]
    · subst e2; exact absurd e4 (hn b')
    · subst e4; exact absurd e2 (hn b)
    · exact em.inj _ _ _ e2 e4
  · rcases cases b c hb with ⟨e1, e2⟩ | ⟨e1, e2⟩
    · exact ⟨o, by rw [hob, if_pos e1]⟩
    · obtain ⟨o', ho⟩ := em.ex b c e2
      exact ⟨o', by rw [hob, if_neg e1]; exact ho⟩
  · rcases cases b c hb with ⟨e1, e2⟩ | ⟨e1, e2⟩
    · rw [hob, if_pos e1] at ho
      simp at ho
      subst e2
      exact hg (by rw [ho]; rfl)
    · rw [hob, if_neg e1] at ho
      exact em.gs1 b c cs t g e2 ho
  · rcases cases b c hb with ⟨e1, e2⟩ | ⟨e1, e2⟩
    · rw [hob, if_pos e1] at ho
      simp at ho
      subst e2
      exact hc _ _ _ ho
    · rw [hob, if_neg e1] at ho
      obtain ⟨cs1, t1, h3, h4⟩ := em.cells b c cs t g e2 ho
      exact ⟨cs1, t1, h3, h4.mono (em.put_le b1)⟩
  · rcases cases b c hb with ⟨e1, e2⟩ | ⟨e1, e2⟩
    · rw [hob, if_pos e1] at ho
      simp at ho
      subst ho e2
      exact hm hi
    · rw [hob, if_neg e1] at ho
      exact em.oth b c o' e2 ho hi

theorem Emb.alloc {ρ : Rho} {h0 h : Hp} (em : Emb ρ h0 h) {b1 : Nat} {cs cs1 : List Value} (t : TypeId) (ow : Own1 h b1 cs1) (hn : ∀ b, ρ b ≠ some b1) (hl : RL (ρ.put h0.next b1) cs cs1) : Emb (ρ.put h0.next b1) (h0.alloc cs t) h := by
  obtain ⟨⟨t1, h1⟩, h2⟩ := ow
  refine em.obj (o := .cells cs t (some h0.next)) (Hp.ob_alloc h0 cs t) rfl (alloc_wf em.wf cs t) hn (fun _ => h2) (fun cs' t' g e => ?_) (fun cs' t' g e => ?_) (fun hi => by simp [Ob.isOth] at hi)
  · simp at e; exact e.2.2.symm
  · simp at e
    obtain ⟨rfl, rfl, rfl⟩ := e
    exact ⟨cs1, t1, h1, hl⟩
theorem Emb.newMap {ρ : Rho} {h0 h : Hp} (em : Emb ρ h0 h) {b1 : Nat} (m : Map0 h b1) (hn : ∀ b, ρ b ≠ some b1) : Emb (ρ.put h0.next b1) (h0.newOb (.map [] 0)) h :=
  em.obj (o := .map [] 0) (Hp.ob_newOb h0 _) rfl (newOb_wf em.wf rfl) hn (fun hi => by simp [Ob.isOth] at hi) (fun cs' t' g e => by simp at e) (fun cs' t' g e => by simp at e) (fun _ => ⟨0, rfl, m⟩)

theorem Map0.keep {h h' : Hp} (k : Kept h h') {b : Nat} (m : Map0 h b) : Map0 h' b := k.oth _ _ m rfl id

section
variable {P : Program}
/-- Evaluated fast, over a small heap, with leaves that are not known: the result, and that the small heap stays. -/
theorem relocK (hm : P.follows .mixedOrders = true) {m n : Nat} {nat : FuncId → List Value → Hp → Option (Option Value)} (hn : NatOk P nat) {f : FuncId} {args0 args : List Value} {h0 h : Hp} {ρ : Rho} {exp : Value} (hf : f < P.funcs.size)
    (em : Emb ρ h0 h) (ha : RL ρ args0 args) (g : Bool → Bool) (hg : g true = true)
    (hx : ∀ K : Value → List (Option Ob) → List Bool → Bool, xK P m nat n f args0 h0 (fun v h' => K v ((List.range h0.next).map h'.ob) ((List.range h0.next).map fun b => h'.live b (some b))) = g (K exp ((List.range h0.next).map h0.ob) ((List.range h0.next).map fun b => h0.live b (some b))))
    (hp : plainV 100 exp = true) : SCalls P f args h fun v h' => v = exp ∧ h' = h := by
  classical
  have h1 := hx fun v obs lives => decide (v = exp ∧ obs = (List.range h0.next).map h0.ob ∧ lives = (List.range h0.next).map fun b => h0.live b (some b))
  rw [xK_eq] at h1
  have h2 : xG P (alB m) nat (fun _ => annE) n f args0 h0 (fun v h' => decide (v = exp ∧ (List.range h0.next).map h'.ob = (List.range h0.next).map h0.ob ∧ ((List.range h0.next).map fun b => h'.live b (some b)) = (List.range h0.next).map fun b => h0.live b (some b))) = true := by
    rw [h1]; simp [hg]
  refine SCalls.reloc (K := fun v => v = exp) hf ((xG_ok hm hn n f args0 h0 _ h2).mono fun v h' hv => ?_) em ha
  simp only [decide_eq_true_eq] at hv
  obtain ⟨e1, e2, e3⟩ := hv
  have at1 : ∀ b, b < h0.next → h'.ob b = h0.ob b := by
    intro b hb
    have := congrArg (fun l => l[b]?) e2
    simpa [hb] using this
  have at2 : ∀ b, b < h0.next → h'.live b (some b) = h0.live b (some b) := by
    intro b hb
    have := congrArg (fun l => l[b]?) e3
    simpa [hb] using this
  refine ⟨e1, by rw [e1]; exact hp, fun b cs t g hb hl => ?_, fun b o hb _ => ?_⟩
  · have hlt := em.wf.lt hb
    refine ⟨by rw [at1 b hlt]; exact hb, ?_⟩
    cases g with
    | none => rfl
    | some g =>
      have := em.own b cs t g hb
      subst this
      rw [at2 g hlt]; exact hl
  · rw [at1 b (em.wf.lt hb)]; exact hb

/-- Evaluated fast, over no heap, with leaves that are not known. -/
theorem bareV (hm : P.follows .mixedOrders = true) {m n : Nat} {nat : FuncId → List Value → Hp → Option (Option Value)} (hn : NatOk P nat) {f : FuncId} {args : List Value} {exp : Value} (hf : f < P.funcs.size) (hpa : args.all (plainV 100) = true)
    (hx : ∀ K : Value → Bool, xK P m nat n f args Hp.empty (fun v _ => K v) = K exp) (hp : plainV 100 exp = true) (h : Hp) : SCalls P f args h fun v h' => v = exp ∧ h' = h := by
  classical
  have h1 := hx fun v => decide (v = exp)
  rw [xK_eq] at h1
  have h2 : xG P (alB m) nat (fun _ => annE) n f args Hp.empty (fun v _ => decide (v = exp)) = true := by rw [h1]; simp
  refine SCalls.bare (K := fun v => v = exp) hf hpa ((xG_ok hm hn n f args Hp.empty _ h2).mono fun v h' hv => ?_)
  simp only [decide_eq_true_eq] at hv
  exact ⟨hv, by rw [hv]; exact hp⟩
end
end Go.Cn

/- sha256 on whole numbers, plainly; what the machine's word operations come to on them. -/
set_option linter.unusedVariables false
namespace Go.Cn.Sha
open Go Go.Cn

/-! ### The hash -/
def rot (n x : Nat) : Nat := (x >>> n) ||| ((x <<< (32 - n)) % 4294967296)
def add (a b : Nat) : Nat := (a + b) % 4294967296
def s0 (x : Nat) : Nat := (rot 7 x ^^^ rot 18 x) ^^^ (x >>> 3)
def s1 (x : Nat) : Nat := (rot 17 x ^^^ rot 19 x) ^^^ (x >>> 10)
def S0 (x : Nat) : Nat := (rot 2 x ^^^ rot 13 x) ^^^ rot 22 x
def S1 (x : Nat) : Nat := (rot 6 x ^^^ rot 11 x) ^^^ rot 25 x
def ch (e f g : Nat) : Nat := (e &&& f) ^^^ ((4294967295 ^^^ e) &&& g)
def maj (a b c : Nat) : Nat := ((a &&& b) ^^^ (a &&& c)) ^^^ (b &&& c)

/-- The next word of the plan (the last one first). -/
def wnext (r : List Nat) : Nat := add (add (add (r.getD 15 0) (s0 (r.getD 14 0))) (r.getD 6 0)) (s1 (r.getD 1 0))
def plan : Nat → List Nat → List Nat
  | 0, r => r
  | n + 1, r => plan n (wnext r :: r)

structure St where
  a : Nat
  b : Nat
  c : Nat
  d : Nat
  e : Nat
  f : Nat
  g : Nat
  h : Nat

def t1 (s : St) (k w : Nat) : Nat := add (add (add (add s.h (S1 s.e)) (ch s.e s.f s.g)) k) w
def round (s : St) (k w : Nat) : St := ⟨add (add (t1 s k w) (S0 s.a)) (maj s.a s.b s.c), s.a, s.b, s.c, add s.d (t1 s k w), s.e, s.f, s.g⟩
def rounds : List Nat → List Nat → St → St
  | k :: ks, w :: ws, s => rounds ks ws (round s k w)
  | _, _, s => s

def K : List Nat := [1116352408, 1899447441, 3049323471, 3921009573, 961987163, 1508970993, 2453635748, 2870763221, 3624381080, 310598401, 607225278, 1426881987, 1925078388, 2162078206, 2614888103, 3248222580, 3835390401, 4022224774, 264347078, 604807628, 770255983, 1249150122, 1555081692, 1996064986, 2554220882, 2821834349, 2952996808, 3210313671, 3336571891, 3584528711, 113926993, 338241895, 666307205, 773529912, 1294757372, 1396182291, 1695183700, 1986661051, 2177026350, 2456956037, 2730485921, 2820302411, 3259730800, 3345764771, 3516065817, 3600352804, 4094571909, 275423344, 430227734, 506948616, 659060556, 883997877, 958139571, 1322822218, 1537002063, 1747873779, 1955562222, 2024104815, 2227730452, 2361852424, 2428436474, 2756734187, 3204031479, 3329325298]
def H0 : List Nat := [1779033703, 3144134277, 1013904242, 2773480762, 1359893119, 2600822924, 528734635, 1541459225]

def word (a b c d : Nat) : Nat := (((a <<< 24) % 4294967296 ||| (b <<< 16) % 4294967296) ||| (c <<< 8) % 4294967296) ||| d
def words : List Nat → List Nat
  | a :: b :: c :: d :: r => word a b c d :: words r
  | _ => []

def ofSt (s : St) : List Nat := [s.a, s.b, s.c, s.d, s.e, s.f, s.g, s.h]
def toSt : List Nat → St
  | [a, b, c, d, e, f, g, h] => ⟨a, b, c, d, e, f, g, h⟩
  | _ => ⟨0, 0, 0, 0, 0, 0, 0, 0⟩

/-- One block of 64 bytes. -/
def block (hs : List Nat) (bs : List Nat) : List Nat := List.zipWith add hs (ofSt (rounds K (plan 48 (words bs).reverse).reverse (toSt hs)))

def blocks : (n : Nat) → List Nat → List Nat → List Nat
  | 0, hs, _ => hs
  | n + 1, hs, bs => blocks n (block hs (bs.take 64)) (bs.drop 64)

def zeros (n : Nat) : Nat := (119 - n % 64) % 64
def lenBytes (n : Nat) : List Nat := [56, 48, 40, 32, 24, 16, 8, 0].map fun s => ((n * 8) % 18446744073709551616) >>> s % 256
def pad (bs : List Nat) : List Nat := bs ++ 128 :: (List.replicate (zeros bs.length) 0 ++ lenBytes bs.length)

def outBytes (w : Nat) : List Nat := [(w >>> 24) % 256, (w >>> 16) % 256, (w >>> 8) % 256, w % 256]
def sum (bs : List Nat) : List Nat := ((blocks ((pad bs).length / 64) H0 (pad bs)).map outBytes).flatten

/-! ### Words -/
def W32 (n : Nat) : Prop := n < 4294967296

theorem wrap_u32 (n : Nat) : IntKind.u32.wrap (n : Int) = ((n % 4294967296 : Nat) : Int) := by
  unfold IntKind.wrap
  simp [IntKind.bits, IntKind.signed]
theorem wrap_u64 (n : Nat) : IntKind.u64.wrap (n : Int) = ((n % 18446744073709551616 : Nat) : Int) := by
  unfold IntKind.wrap
  simp [IntKind.bits, IntKind.signed]
theorem wrap_u8 (n : Nat) : IntKind.u8.wrap (n : Int) = ((n % 256 : Nat) : Int) := by
  unfold IntKind.wrap
  simp [IntKind.bits, IntKind.signed]

theorem addW_u32 (a b : Nat) : addW .u32 a b = ((add a b : Nat) : Int) := by
  unfold addW add
  rw [← Int.natCast_add, wrap_u32]
theorem bv32 {a : Nat} (ha : W32 a) : (BitVec.ofInt IntKind.u32.bits (a : Int)).toNat = a := by
  unfold W32 at ha
  simp [IntKind.bits]
  omega
theorem xorW_u32 {a b : Nat} (ha : W32 a) (hb : W32 b) : xorW .u32 a b = ((a ^^^ b : Nat) : Int) := by
  unfold xorW
  rw [BitVec.toNat_xor, bv32 ha, bv32 hb, wrap_u32, Nat.mod_eq_of_lt]
  exact Nat.xor_lt_two_pow (n := 32) ha hb
theorem andW_u32 {a b : Nat} (ha : W32 a) (hb : W32 b) : andW .u32 a b = ((a &&& b : Nat) : Int) := by
  unfold andW
  rw [BitVec.toNat_and, bv32 ha, bv32 hb, wrap_u32, Nat.mod_eq_of_lt]
  exact Nat.and_lt_two_pow (n := 32) _ hb
theorem orW_u32 {a b : Nat} (ha : W32 a) (hb : W32 b) : orW .u32 a b = ((a ||| b : Nat) : Int) := by
  unfold orW
  rw [BitVec.toNat_or, bv32 ha, bv32 hb, wrap_u32, Nat.mod_eq_of_lt]
  exact Nat.or_lt_two_pow (n := 32) ha hb
theorem shrW_nat (k : IntKind) (a n : Nat) (h : n ≤ k.bits) : shrW k a n = ((a >>> n : Nat) : Int) := by
  unfold shrW
  rw [Int.toNat_natCast, Nat.min_eq_left h, Nat.shiftRight_eq_div_pow]
  rw [Int.fdiv_eq_ediv_of_nonneg _ (by exact_mod_cast Nat.zero_le _)]
  push_cast
  rfl
theorem shlW_u32 (a n : Nat) (h : n ≤ 32) : shlW .u32 a n = (((a <<< n) % 4294967296 : Nat) : Int) := by
  unfold shlW
  rw [Int.toNat_natCast, Nat.min_eq_left (show n ≤ IntKind.u32.bits from h), Nat.shiftLeft_eq]
  rw [show ((a : Int) * 2 ^ n) = ((a * 2 ^ n : Nat) : Int) by push_cast; rfl, wrap_u32]
theorem comW_u32 {a : Nat} (ha : W32 a) : comW .u32 a = ((4294967295 ^^^ a : Nat) : Int) := by
  unfold comW
  rw [BitVec.toNat_xor, bv32 ha, wrap_u32, Nat.mod_eq_of_lt]
  · rfl
  · exact Nat.xor_lt_two_pow (n := 32) (by simp [IntKind.signed, IntKind.max, IntKind.bits]) ha

theorem W32.add (a b : Nat) : W32 (add a b) := Nat.mod_lt _ (by omega)
theorem W32.xor {a b : Nat} (ha : W32 a) (hb : W32 b) : W32 (a ^^^ b) := Nat.xor_lt_two_pow (n := 32) ha hb
theorem W32.and {a b : Nat} (hb : W32 b) : W32 (a &&& b) := Nat.and_lt_two_pow (n := 32) _ hb
theorem W32.or {a b : Nat} (ha : W32 a) (hb : W32 b) : W32 (a ||| b) := Nat.or_lt_two_pow (n := 32) ha hb
theorem W32.shr {a : Nat} (n : Nat) (ha : W32 a) : W32 (a >>> n) := Nat.lt_of_le_of_lt (by rw [Nat.shiftRight_eq_div_pow]; exact Nat.div_le_self _ _) ha
theorem W32.mod (a : Nat) : W32 (a % 4294967296) := Nat.mod_lt _ (by omega)
theorem W32.rot {a : Nat} (n : Nat) (ha : W32 a) : W32 (rot n a) := (ha.shr n).or (.mod _)
theorem W32.com {a : Nat} (ha : W32 a) : W32 (4294967295 ^^^ a) := Nat.xor_lt_two_pow (n := 32) (by decide) ha
end Go.Cn.Sha

/- The cyclic sum (EDB88320) on whole numbers, plainly, and by a table that is one large number; that both are one. -/
set_option linter.unusedVariables false
namespace Go.Cn.Crc
open Go Go.Cn Go.Cn.Sha

def poly : Nat := 3988292384
def step1 (r : Nat) : Nat := bif r.testBit 0 then (r >>> 1) ^^^ poly else r >>> 1
def steps : Nat → Nat → Nat
  | 0, r => r
  | n + 1, r => steps n (step1 r)
def feedN : Nat → List Nat → Nat
  | r, [] => r
  | r, b :: bs => feedN (steps 8 (r ^^^ b)) bs

/-- All 256 ways of eight steps, one behind the other. -/
def big : Nat := 191781931866985559621651535760735696673856346713887891597305215034209910220001862487342664719235424489376241530245261416506414575980417952467156150107317449804134056257716516419112328720131160031456481696823125446157373092479201248890302123815375087579814780306302465238014574686590130429322061672822152808302584144548153239526865349163683956765968513272069020595772598256391810863039343892818777390988989484387641140032565380688427043259765038805963005205961532183550801462253286244137065761003679520439085992511812747153023950988237051482297475963397445683294857871623710491443494995887883262049609400235784616301914504614852100915093667425320505522569448617573499542922012206538552994923376999879042244179649278486539688567765080810044274289792776818305348943521622626710878290771699129542630700634428853941830696095884539637866540751870989118613898226745049792152623499445281592614081205541985653143393913751853573884386717370504757525450126884015918318526676861728753890367452704650663987939986219768247293259525516712103938189788961727671665583423846301460611946049409459047739687307696235742781609353855728368690241567495209394945831800246045226053014789794812648147087782064443448838513940732911263420963033260564074243893655912557635729647410566500980880275296686932139551470048159522442188851388406016990108609539131275206406529452392139356697170450224378375281123940131103967815428442222478921241843802992958207175757710557124203243943652857525217714700783116853765558053940146905689184430570662124197438683992896538427266983469967391681636142474704834532560212491641513769109191453119295486434232583946536159882324212284713050838488706228253289835044432504923553683244983660554148621837806481305441008673570324340892415493266799132762194172577680912505944139402575723473831901219655706623634449032441308172682686423497289006274475542693850888413509354855109888442809400614039731828034881315553093408757249612302925815547436960120920974901163960048042280802561087650605423221541518940157925281902321885507580234243366499257305095335897959299004866716736669236430206354864789374467091307116826402984124475471120986056028650311289461216452641219222976814212486281160700097480526596597474635034066400713689500662174516288603424994162219769371242282901951357062625582355266271642761008964271320703341335927815387129432557369825457457303399345465981718607329281771814792602549895867734643022520164827992332349645685502120161683551602918412611264947206183976960
def tab (i : Nat) : Nat := (big >>> (32 * i)) % 4294967296
def fast : Nat → List Nat → Nat
  | r, [] => r
  | r, b :: bs => fast ((r >>> 8) ^^^ tab ((r ^^^ b) % 256)) bs

theorem tab_ok : ∀ i : Fin 256, tab i.val = steps 8 i.val := by decide +kernel

theorem step1_xor (a b : Nat) : step1 (a ^^^ b) = step1 a ^^^ step1 b := by
  unfold step1
  rw [Nat.testBit_xor, Nat.shiftRight_xor_distrib]
  cases a.testBit 0 <;> cases b.testBit 0 <;> simp only [Bool.xor_false, Bool.xor_true, Bool.not_false, Bool.not_true, cond_true, cond_false]
  · rw [Nat.xor_assoc]
  · rw [Nat.xor_assoc, Nat.xor_comm (b >>> 1) poly, Nat.xor_assoc]
  · have : (a >>> 1 ^^^ poly) ^^^ (b >>> 1 ^^^ poly) = (a >>> 1 ^^^ b >>> 1) ^^^ (poly ^^^ poly) := by
      rw [Nat.xor_assoc, ← Nat.xor_assoc poly, Nat.xor_comm poly (b >>> 1), Nat.xor_assoc (b >>> 1), ← Nat.xor_assoc (a >>> 1)]
    rw [this, Nat.xor_self, Nat.xor_zero]
theorem steps_xor : ∀ (n a b : Nat), steps n (a ^^^ b) = steps n a ^^^ steps n b
  | 0, a, b => rfl
  | n + 1, a, b => by
    unfold steps
    rw [step1_xor, steps_xor n]
theorem step1_shl (y n : Nat) : step1 (y <<< (n + 1)) = y <<< n := by
  unfold step1
  have h : (y <<< (n + 1)).testBit 0 = false := by
    rw [Nat.testBit_shiftLeft]
    simp
  rw [h]
  simp only [cond_false]
  rw [Nat.shiftLeft_succ, Nat.mul_comm, Nat.shiftRight_succ, Nat.shiftRight_zero, Nat.mul_div_cancel _ (by omega)]
theorem steps_shl (y : Nat) : ∀ n : Nat, steps n (y <<< n) = y
  | 0 => by simp [steps]
  | n + 1 => by
    unfold steps
    rw [step1_shl, steps_shl y n]
theorem split8 (x : Nat) : x = ((x >>> 8) <<< 8) ^^^ (x % 256) := by
  apply Nat.eq_of_testBit_eq
  intro i
  rw [Nat.testBit_xor, Nat.testBit_shiftLeft, Nat.testBit_shiftRight, show (256 : Nat) = 2 ^ 8 from rfl, Nat.testBit_mod_two_pow]
  by_cases h : i < 8
  · have : ¬ 8 ≤ i := by omega
    simp [h, this]
  · have : 8 ≤ i := by omega
    simp [h, this, show 8 + (i - 8) = i by omega]
theorem steps8 (x : Nat) : steps 8 x = (x >>> 8) ^^^ tab (x % 256) := by
  have h := tab_ok ⟨x % 256, Nat.mod_lt _ (by omega)⟩
  simp only at h
  rw [h]
  conv => lhs; rw [split8 x]
  rw [steps_xor, steps_shl]
theorem fast_eq : ∀ (bs : List Nat) (r : Nat), (∀ b ∈ bs, b < 256) → fast r bs = feedN r bs
  | [], r, h => rfl
  | b :: bs, r, h => by
    unfold fast feedN
    have hb : b < 256 := h b (by simp)
    have e : (r ^^^ b) >>> 8 = r >>> 8 := by
      rw [Nat.shiftRight_xor_distrib, Nat.shiftRight_eq_div_pow b, Nat.div_eq_of_lt hb, Nat.xor_zero]
    rw [fast_eq bs _ fun x hx => h x (by simp [hx]), steps8, e]

theorem step1_ok {r : Nat} (h : W32 r) : W32 (step1 r) := by
  unfold step1
  cases r.testBit 0 with
  | false => exact h.shr 1
  | true => exact (h.shr 1).xor (by unfold W32 poly; omega)
theorem steps_ok : ∀ (n : Nat) {r : Nat}, W32 r → W32 (steps n r)
  | 0, r, h => h
  | n + 1, r, h => steps_ok n (step1_ok h)
theorem steps_succ : ∀ (n r : Nat), steps (n + 1) r = step1 (steps n r)
  | 0, r => rfl
  | n + 1, r => by
    show steps (n + 1) (step1 r) = _
    rw [steps_succ n]
    rfl
theorem feedN_append : ∀ (xs ys : List Nat) (r : Nat), feedN r (xs ++ ys) = feedN (feedN r xs) ys
  | [], ys, r => rfl
  | x :: xs, ys, r => feedN_append xs ys _
theorem feedN_ok : ∀ (bs : List Nat) {r : Nat}, W32 r → (∀ b ∈ bs, b < 256) → W32 (feedN r bs)
  | [], r, h, _ => h
  | b :: bs, r, h, hb => feedN_ok bs (steps_ok 8 (h.xor (by have := hb b (by simp); unfold W32; omega))) fun x hx => hb x (by simp [hx])
end Go.Cn.Crc
