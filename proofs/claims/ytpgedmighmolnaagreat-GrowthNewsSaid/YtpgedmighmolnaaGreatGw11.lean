/- Joined: CoF. -/
import Derived.Test.YtpgedmighmolnaaGreatGw10
import Derived.ChangeCalls
/- The rows of laws over plain data: from a contract over read-only canonical arguments to the row's step. -/
set_option linter.unusedVariables false
set_option linter.unusedSimpArgs false
namespace Go.Cn
open Go.ChangeShapes Go.WideShapes Go.ChangeAt Go.RowKit

section
variable {P : Program} {H : Type} {enc : TypeId × Value → H} {w : World} {B : DataW H → Nat}

/-- Reading again, spare places where the row asks. -/
theorem trod_spare {sp : Nat → Bool} : ∀ (n m : Nat) (t : TypeId) (cs : List Value) (x : DataW H × List MemPlace), simpleT P m t = true → DataW.trod enc P w 0 (fun _ => true) true n t cs = some x →
    (∀ p ∈ x.2, sp p.block = true) → DataW.trod enc P w 0 sp true n t cs = some x
  | 0, m, t, cs, x, _, hx, _ => by simp [DataW.trod] at hx
  | n + 1, 0, t, cs, x, hs, _, _ => by simp [simpleT] at hs
  | n + 1, m + 1, t, cs, x, hs, hx, hp => by
    unfold simpleT at hs
    split at hs
    · rename_i hu
      obtain ⟨b, rfl, rfl⟩ := DataW.trod_bool hu hx
      simp [DataW.trod, hu]
    · rename_i k hu
      obtain ⟨i, rfl, rfl, hw⟩ := DataW.trod_int hu hx
      simp [DataW.trod, hu, hw]
    · rename_i hu
      obtain ⟨s, rfl, rfl, hsz⟩ := DataW.trod_string hu hx
      simp [DataW.trod, hu, hsz]
    · rename_i fs hu
      simp only [Bool.and_eq_true] at hs
      unfold DataW.trod at hx ⊢
      rw [hu] at hx ⊢
      simp only at hx ⊢
      split at hx
      · rename_i hl
        rw [if_pos hl]
        cases hm : fs.toList.mapM fun f => DataW.trod enc P w 0 (fun _ => true) true n f.type ((cs.drop f.offset).take (P.cellsOf f.type)) with
        | none => simp [hm] at hx
        | some xs =>
          simp only [hm, Option.map_some, Option.some.injEq] at hx
          subst hx
          rw [mapM_carry hm fun f y hf hy hfy => trod_spare n m f.type _ y (List.all_eq_true.mp hs.2 f hf) hfy fun p hpy => hp p (List.mem_flatMap.mpr ⟨y, hy, hpy⟩)]
          rfl
      · simp at hx
    · rename_i e hu
      simp only [Bool.and_eq_true, decide_eq_true_eq] at hs
      obtain ⟨⟨_, hpos⟩, hs⟩ := hs
      unfold DataW.trod at hx ⊢
      rw [hu] at hx ⊢
      cases cs with
      | nil => simp at hx
      | cons c cs =>
      cases cs with
      | cons c' cs => cases c <;> simp at hx
      | nil =>
      cases c with
      | slice a l c =>
        cases a with
        | none =>
          cases l with
          | succ l => simp at hx
          | zero => cases c with
            | succ c => simp at hx
            | zero => simpa using hx
        | some a =>
          simp only at hx ⊢
          split at hx
          · rename_i hc
            rw [if_pos hc]
            cases hm : (List.range l).mapM fun i => (w.cells? 0 (a.add (i * P.cellsOf e)) (P.cellsOf e)).bind (DataW.trod enc P w 0 (fun _ => true) true n e) with
            | none => simp [hm] at hx
            | some elems =>
              cases hr : (List.range (c - l)).mapM fun j => (w.cells? 0 (a.add ((l + j) * P.cellsOf e)) (P.cellsOf e)).bind (DataW.trod enc P w 0 (fun _ => true) true n e) with
              | none => simp [hm, hr] at hx
              | some rest =>
                simp only [hm, hr, if_true, Option.bind_some, Option.map_some, Option.some.injEq] at hx
                subst hx
                have carry : ∀ {i : Nat} {y : DataW H × List MemPlace}, (∀ p ∈ y.2, sp p.block = true) → (w.cells? 0 (a.add (i * P.cellsOf e)) (P.cellsOf e)).bind (DataW.trod enc P w 0 (fun _ => true) true n e) = some y →
                    (w.cells? 0 (a.add (i * P.cellsOf e)) (P.cellsOf e)).bind (DataW.trod enc P w 0 sp true n e) = some y := by
                  intro i y hy hb
                  obtain ⟨ck, h1, h2⟩ := Option.bind_eq_some_iff.1 hb
                  rw [h1]
                  exact trod_spare n m e ck y hs h2 hy
                have hin : ∀ y, y ∈ elems ++ rest → ∀ p ∈ y.2, sp p.block = true := fun y hy p hpy => hp p (List.mem_append_right _ (List.mem_flatMap.mpr ⟨y, hy, hpy⟩))
                have h1 : ((List.range l).mapM fun i => (w.cells? 0 (a.add (i * P.cellsOf e)) (P.cellsOf e)).bind (DataW.trod enc P w 0 sp true n e)) = some elems :=
                  mapM_carry hm fun i y _ hy hb => carry (hin y (List.mem_append_left _ hy)) hb
                rw [h1]
                have hel : elems.length = l := by simpa using mapM_some_length hm
                have hrl : rest.length = c - l := by simpa using mapM_some_length hr
                by_cases hcl : c - l = 0
                · have : rest = [] := List.eq_nil_of_length_eq_zero (by omega)
                  subst this
                  simp [hcl]
                · have hsp : sp a.block = true := by
                    refine hp (.cell a.block (a.off + 0)) (List.mem_append_left _ (MemPlace.mem_row.mpr ⟨0, ?_, rfl⟩))
                    exact Nat.mul_pos (by omega) hpos
                  have h2 : ((List.range (c - l)).mapM fun j => (w.cells? 0 (a.add ((l + j) * P.cellsOf e)) (P.cellsOf e)).bind (DataW.trod enc P w 0 sp true n e)) = some rest :=
                    mapM_carry hr fun i y _ hy hb => carry (hin y (List.mem_append_right _ hy)) hb
                  simp [hsp, h2]
          · simp at hx
      | _ => simp at hx
    · rename_i len e hu
      simp only [Bool.and_eq_true] at hs
      unfold DataW.trod at hx ⊢
      rw [hu] at hx ⊢
      simp only at hx ⊢
      split at hx
      · rename_i hl
        rw [if_pos hl]
        cases hm : (List.range len).mapM fun i => DataW.trod enc P w 0 (fun _ => true) true n e ((cs.drop (i * P.cellsOf e)).take (P.cellsOf e)) with
        | none => simp [hm] at hx
        | some xs =>
          simp only [hm, Option.map_some, Option.some.injEq] at hx
          subst hx
          rw [mapM_carry hm fun i y hi hy hiy => trod_spare n m e _ y hs.2 hiy fun p hpy => hp p (List.mem_flatMap.mpr ⟨y, hy, hpy⟩)]
          rfl
      · simp at hx
    · simp at hs

theorem trod_again {w' : World} (hb : Below w.heap.size w w') {n m : Nat} {t : TypeId} {cs : List Value} {x : DataW H × List MemPlace} (hs : simpleT P m t = true) (hx : DataW.trod enc P w 0 (fun _ => true) true n t cs = some x)
    (hlt : ∀ p ∈ x.2, p.block < w.heap.size) {sp : Nat → Bool} (hp : ∀ p ∈ x.2, sp p.block = true) : DataW.trod enc P w' 0 sp true n t cs = some x :=
  trod_spare n m t cs x hs (DataW.trod_carry n t cs x hx fun p hpx => hb.same (hlt p hpx)) hp

theorem trodAll_again {w' : World} (hb : Below w.heap.size w w') {m : Nat} : ∀ {ts : List TypeId} {vs : List Value} {ds : List (DataW H)} {ps : List MemPlace}, (∀ t ∈ ts, simpleT P m t = true) →
    DataW.TrodAll enc P w 0 (fun _ => true) true ts vs ds ps → (∀ p ∈ ps, p.block < w.heap.size) → ∀ {sp : Nat → Bool}, (∀ p ∈ ps, sp p.block = true) → DataW.TrodAll enc P w' 0 sp true ts vs ds ps
  | [], [], [], ps, _, h, _, sp, _ => h
  | t :: ts, v :: vs, d :: ds, ps, hs, ⟨p, q, ⟨n, h1⟩, h2, h3⟩, hlt, sp, hp => by
    subst h3
    exact ⟨p, q, ⟨n, trod_again hb (hs t (by simp)) h1 (fun x hx => hlt x (List.mem_append_left _ hx)) (fun x hx => hp x (List.mem_append_left _ hx))⟩,
      trodAll_again hb (fun t ht => hs t (by simp [ht])) h2 (fun x hx => hlt x (List.mem_append_right _ hx)) (fun x hx => hp x (List.mem_append_right _ hx)), rfl⟩

/-- Arguments: values whose cells are good. -/
def FineArgs (P : Program) (h : Hp) (N : Nat) : List TypeId → List Value → Prop
  | [], vs => vs = []
  | t :: ts, vs => ∃ v vs' n cs, vs = v :: vs' ∧ Fine P h N n t cs ∧ (match agg? P t with | some true => v = .agg cs.toArray | _ => cs = [v]) ∧ FineArgs P h N ts vs'

theorem FineArgs.keep {S : Nat → Prop} {h h' : Hp} (k : Keep S h h') {N : Nat} : ∀ {ts : List TypeId} {vs : List Value}, FineArgs P h N ts vs → FineArgs P h' N ts vs
  | [], vs, hg => hg
  | t :: ts, vs, ⟨v, vs', n, cs, h1, h2, h3, h4⟩ => ⟨v, vs', n, cs, h1, h2.keep k, h3, h4.keep k⟩

theorem canonAll (M : Meas B) (N m : Nat) : ∀ {ts : List TypeId} {vs : List Value} {ds : List (DataW H)} {ps : List MemPlace}, (∀ t ∈ ts, simpleT P m t = true) → DataW.TrodAll enc P w 0 (fun _ => true) true ts vs ds ps → (∀ d ∈ ds, B d ≤ N) →
    (∀ (j : Nat) t v, ts[j]? = some t → vs[j]? = some v → Value.okWide P w .any 0 t v) → ∀ (σ : Sg) (h : Hp), HR w.heap.size σ h w → ∃ σ' h' vs', σ.le σ' ∧ HR w.heap.size σ' h' w ∧ Kept h h' ∧ LRel σ' vs' vs ∧ FineArgs P h' N ts vs'
  | [], [], [], ps, _, _, _, _, σ, h, hr => ⟨σ, h, [], Sg.le_refl σ, hr, Keep.refl _ _, LRel.nil σ, rfl⟩
  | t :: ts, v :: vs, d :: ds, ps, hs, ⟨p, q, ⟨n, h1⟩, h2, h3⟩, hB, hval, σ, h, hr => by
    have hv := hval 0 t v (by simp) (by simp)
    have hcell : ∀ u (x : Value), Cell.okWide P w .any 0 u x → ∀ a l c, x = .slice (some a) l c → 0 < w.heap.size := by
      intro u x hx a l c e
      subst e
      have hok : Cell.ok P w .any 0 u (.slice (some a) l c) := by
        unfold Cell.okWide at hx
        split at hx <;> first | exact hx | (rename_i h; simp at h)
      unfold Cell.ok at hok
      split at hok <;> simp_all
      obtain ⟨_, _, _, _, row, cells, h5, _⟩ := hok
      unfold World.shape? at h5
      split at h5
      · rename_i hh; have := (Array.getElem?_eq_some_iff.1 hh).1; omega
      · simp at h5
    have hz : ∀ a l c, Value.slice (some a) l c ∈ v.cells.toList → 0 < w.heap.size := by
      intro a l c hm
      unfold Value.okWide at hv
      split at hv
      · obtain ⟨cs, rfl, _, tys, _, _, h5⟩ := hv
        obtain ⟨i, hi⟩ := List.getElem?_of_mem hm
        simp only [Value.cells, Array.getElem?_toList] at hi
        obtain ⟨u, _, h6⟩ := h5 i _ hi
        exact hcell u _ h6 a l c rfl
      · obtain ⟨cs, rfl, _, tys, _, _, h5⟩ := hv
        obtain ⟨i, hi⟩ := List.getElem?_of_mem hm
        simp only [Value.cells, Array.getElem?_toList] at hi
        obtain ⟨u, _, h6⟩ := h5 i _ hi
        exact hcell u _ h6 a l c rfl
      · cases v with
        | slice a' l' c' =>
          simp [Value.cells] at hm
          obtain ⟨rfl, rfl, rfl⟩ := hm
          exact hcell t _ hv a l c rfl
        | agg cs =>
          have hok : Cell.ok P w .any 0 t (.agg cs) := by
            unfold Cell.okWide at hv
            split at hv <;> first | exact hv | (rename_i h; simp at h)
          unfold Cell.ok at hok
          split at hok <;> simp_all
        | _ => simp [Value.cells] at hm
    obtain ⟨σ1, h1', c1, l1, r1, k1, e1, g1⟩ := canon M N n m t v.cells.toList (d, p) (hs t (by simp)) h1 (hB d (by simp)) hz σ h hr
    obtain ⟨σ2, h2', vs2, l2, r2, k2, e2, g2⟩ := canonAll M N m (fun t ht => hs t (by simp [ht])) h2 (fun d hd => hB d (by simp [hd])) (fun j t v ht hv => hval (j + 1) t v (by simpa using ht) (by simpa using hv)) σ1 h1' r1
    have hone : agg? P t = some true ∨ agg? P t ≠ some true := by by_cases hx : agg? P t = some true <;> simp [hx]
    rcases hone with ha | ha
    · have hst : ∃ cs, v = .agg cs := by
        unfold agg? at ha
        unfold Value.okWide at hv
        split at ha <;> rename_i hu <;> try (simp at ha)
        · rw [hu] at hv; obtain ⟨cs, h5, _⟩ := hv; exact ⟨cs, h5⟩
        · rw [hu] at hv; obtain ⟨cs, h5, _⟩ := hv; exact ⟨cs, h5⟩
      obtain ⟨cs, rfl⟩ := hst
      refine ⟨σ2, h2', .agg c1.toArray :: vs2, Sg.le_trans l1 l2, r2, k1.trans hr.wf k2 (fun _ _ hf => hf), LRel.cons ?_ e2, .agg c1.toArray, vs2, n, c1, rfl, g1.keep k2, by rw [ha], g2⟩
      have := (e1.mono l2).to_agg
      simpa [Value.cells] using this
    · have hst : v.cells = #[v] := by
        cases v with
        | agg cs =>
          exfalso
          unfold agg? at ha
          unfold Value.okWide at hv
          cases hu : P.underlying t with
          | none =>
            rw [hu] at hv
            simp only [Cell.okWide, Cell.ok, hu] at hv
          | some u =>
            rw [hu] at hv ha
            cases u <;> simp [Cell.okWide, Cell.ok, hu] at hv ha
        | _ => rfl
      rw [hst] at e1
      have hl := e1.1
      cases c1 with
      | nil => simp at hl
      | cons c1 r =>
        cases r with
        | cons _ _ => simp at hl
        | nil =>
          refine ⟨σ2, h2', c1 :: vs2, Sg.le_trans l1 l2, r2, k1.trans hr.wf k2 (fun _ _ hf => hf), LRel.cons ((e1.2 0 c1 v (by simp) (by simp)).mono l2) e2, c1, vs2, n, [c1], rfl, g1.keep k2, ?_, g2⟩
          split
          · rename_i hx; exact absurd hx ha
          · rfl

/-- THE STEP OF A LAW's ROW: plain data in, true out, all as it was. -/
theorem law_contract {f : FuncId} {fn : Func} {s : ChangeSpec} (hflt : f < P.funcs.size) (M : Meas B) (N m : Nat) {tb : TypeId} (hsimple : ∀ t ∈ fn.params.toList, simpleT P m t = true) (hvars : s.vars = [])
    (hfn : ∀ ds : List (DataW H), ds.length = fn.params.toList.length → (s.fn H ds).results = [.lit (.bool true)] ∧ (s.fn H ds).args = ds ∧ (s.fn H ds).vars = []) (hres : fn.resultTypes = #[tb]) (htb : P.underlying tb = some .bool)
    (main : ∀ (h : Hp) (vs : List Value), Wf h → FineArgs P h N fn.params.toList vs → SCalls P f vs h fun v _ => v = .bool true)
    {W : World} {base : Nat} {args : Array Value} {ds gs : List (DataW H)} {before : List MemPlace}
    (hval : ∀ (j : Nat) t v, fn.params[j]? = some t → args[j]? = some v → Value.okWide P W .any base t v) (hW : DataW.Whole enc P fn.params.toList s.vars false W args.toList ds gs before) (hB : ∀ d ∈ ds, B d ≤ N) :
    Calls P f args W fun e W' => ∃ v, e = .returned v ∧ s.post enc P fn false true false false W args v W' := by
  have hW' := hW
  obtain ⟨p, q, hA, hV, rfl, hfz, hnd⟩ := hW
  rw [hvars] at hV
  obtain ⟨rfl, rfl⟩ := trodVars_none hV
  have hlen := trodAll_length hA
  have hokany : ∀ (t : TypeId) v, Value.okWide P W .any base t v → Value.okWide P W .any 0 t v := fun t v h => h
  obtain ⟨σ, h, vs, _, hr, _, hl, hg⟩ := canonAll M N m hsimple hA hB (fun j t v ht hv => hokany t v (hval j t v (by simpa using ht) (by simpa using hv))) (fun _ => none) Hp.empty (HR_empty _ W (Nat.le_refl _))
  simp only [List.append_nil] at hW'
  refine (((main h vs hr.wf hg).func hflt).2 W.heap.size σ W args hr hl).mono ?_
  rintro e W' ⟨v, v', h', σ', rfl, rfl, hv, _, he⟩
  have : v' = .bool true := hv.bool_inv
  subst this
  have hb : Below W.heap.size W W' := he.toBelow
  obtain ⟨hf1, hf2, hf3⟩ := hfn ds hlen.2
  have hlt : ∀ x ∈ p, x.block < W.heap.size := fun x hx => hW'.lt x (by simpa using hx)
  refine ⟨_, rfl, post_of_below (pa := p) (pv := []) hW' (fun b sp hd => ?_) (fun sp hsp => ?_) (fun sp _ => ?_) (by simp) hb ?_⟩
  · simp only [List.append_nil]
    rw [hf1, hres]
    exact trodAll_cons_mk (shut_bool htb _) trodAll_mk0
  · simp only [List.append_nil]
    rw [hf2]
    exact trodAll_again hb hsimple hA hlt fun x hx => hsp x (by simpa using hx)
  · simp only [List.append_nil]
    rw [hf3, hvars]
    exact rfl
  · rw [hres]
    intro j t r ht hr2
    have : j = 0 := by
      cases j with
      | zero => rfl
      | succ j => simp at ht
    subst this
    simp at ht; subst ht
    have : r = .bool true := by
      simp [Value.resultList] at hr2
      first | exact hr2.symm | (simp_all)
    subst this
    exact okWide_bool_mk htb _
end
end Go.Cn
