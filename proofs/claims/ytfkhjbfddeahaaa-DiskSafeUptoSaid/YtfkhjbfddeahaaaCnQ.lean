/- The canonical semantics: a region that draws its order: every order comes to what the canonical order comes to. -/
import Derived.Test.YtfkhjbfddeahaaaCnP
set_option linter.unusedVariables false
set_option linter.unusedSimpArgs false
namespace Go.Cn
section
variable {P : Program} {L : List Oper} {pre : List (Option Value)} {base : Nat} {σ0 : Sg} {h0 : Hp} {w0 : World} {tm0 : List Value} {K : List Value → Hp → Prop} {lst lst' : Nat → Bool} {σ σ' : Sg} {h h' : Hp} {w w' : World} {tmps : Array Value}
  {hist : List Ent} {rest : List Nat} {doneM effs : Nat} {owed : List Owed}

theorem Ord.at : ∀ {rest done : List Nat} {doneM effs : Nat}, Ord P L rest done doneM effs → ∀ i ∈ rest, ∃ done' o f, StepOk P L done' i o f ∧ ∀ x ∈ done, x ∈ done'
  | [], done, doneM, effs, _, i, hi => by simp at hi
  | j :: rest, done, doneM, effs, h, i, hi => by
    obtain ⟨o, f, hs, h2, _⟩ := h.step
    simp at hi
    rcases hi with rfl | hi
    · exact ⟨done, o, f, hs, fun x hx => hx⟩
    · obtain ⟨done', o', f', hs', hsub⟩ := h2.at i hi
      exact ⟨done', o', f', hs', fun x hx => hsub x (by simp [hx])⟩

theorem Ord.disj (h : Ord P L rest (hist.map (·.idx)) doneM effs) {i : Nat} (hi : i ∈ rest) : i ∉ hist.map (·.idx) := by
  obtain ⟨done', o, f, hs, hsub⟩ := h.at i hi
  exact fun hd => hs.new (hsub i hd)

/-- The places that are still to be made. -/
def Pres (P : Program) (L : List Oper) (pre : List (Option Value)) (h0 : Hp) (lst : Nat → Bool) (σ : Sg) (h : Hp) : Prop :=
  ∀ i v, pre.getD i none = some v → lst i = false → ∃ o ty z id, L[i]? = some o ∧ o.op = .alloc ty ∧ zero? P ty = some z ∧ plainV 100 z = true ∧ v = ptr id 0 ∧ h0.next ≤ id ∧ id < h.next ∧ σ id = none ∧
    h.ob id = some (.cells z.cells.toList ty (some id)) ∧ h.gs.get id = none

/-- An operation of the middle has been done in the model too. -/
theorem DI.list (d : DI P L pre base σ0 h0 w0 tm0 K lst σ h w tmps hist rest doneM effs owed) {e : Ent} (he : e ∈ hist) (hl : lst e.idx = false) (ha : ∀ j ∈ ahead e.o, lst j = true)
    (hl' : lst' e.idx = true) (hne : ∀ i, i ≠ e.idx → lst' i = lst i) (hle : σ.le σ') (hr' : HR base σ' h w') (hext : Ext base σ0 h0 w0 σ' h w') (hpres : Pres P L pre h0 lst' σ' h)
    {a : Act} {v' : Value} (hat : a.tmps = tmps) (hv : VRel σ' e.v v') : DI P L pre base σ0 h0 w0 tm0 K lst' σ' h w' (a.put e.o.dst v').tmps hist rest doneM effs owed := by
  subst hat
  have sub : ∀ i, lst i = true → lst' i = true := by
    intro i hi
    by_cases hie : i = e.idx
    · rw [hie]; exact hl'
    · rw [hne i hie]; exact hi
  have back : ∀ i, lst' i = false → lst i = false := by
    intro i hi
    cases hh : lst i with
    | false => rfl
    | true => rw [sub i hh] at hi; simp at hi
  refine ⟨?_, hr', hext, d.ord, d.chain, fun x hx hxe => sub _ (d.effl x hx hxe), ?_, ?_, hpres, d.inj, d.all, ?_, ?_, d.form⟩
  · intro i o ho hi j hj
    by_cases hie : i = e.idx
    · have : o = e.o := by have := d.chain.mem e he; rw [← hie, ho] at this; simpa using this
      subst this
      exact sub j (ha j hj)
    · rw [hne i hie] at hi
      exact sub j (d.closed i o ho hi j hj)
  · intro i hi
    have hni := d.ord.disj hi
    rw [hne i (by rintro rfl; exact hni (List.mem_map.2 ⟨e, he, rfl⟩))]
    exact d.unl i hi
  · exact d.ents.imp fun x hx tm hxl => ⟨back _ hxl, fun hok => hok⟩
  · rw [d.len]; cases e.o.dst <;> simp [Act.put]
  · intro t
    rw [look_put d.closed hl hl' hne d.chain he]
    have hrel := (d.rel t).mono hle
    cases hd : e.o.dst with
    | none => simp only [Act.put]; rw [if_neg (by simp)]; exact hrel
    | some dd =>
      simp only [Act.put, Option.some.injEq]
      by_cases ht : dd = t
      · subst ht
        by_cases hlt : dd < tm0.length
        · rw [if_pos ⟨rfl, hlt⟩, Array.getD_eq_getD_getElem?, Array.getElem?_setIfInBounds_self_of_lt (by rw [← d.len]; exact hlt)]
          exact hv
        · rw [if_neg (fun hh => hlt hh.2)]
          have hs : ¬ dd < a.tmps.size := by rw [← d.len]; exact hlt
          rw [Array.getD_eq_getD_getElem?] at hrel ⊢
          simpa [Array.getElem?_setIfInBounds, hs] using hrel
      · rw [if_neg (fun hh => ht hh.1)]
        rw [Array.getD_eq_getD_getElem?] at hrel ⊢
        rw [Array.getElem?_setIfInBounds_ne ht]
        exact hrel

theorem Pres.mono (hp : Pres P L pre h0 lst σ h) (hext : Ext base σ h w σ' h' w') (hsub : ∀ i, lst' i = false → lst i = false) : Pres P L pre h0 lst' σ' h' := by
  intro i v hv hl
  obtain ⟨o, ty, z, id, h1, h2, h3, h4, h5, h6, h7, h8, h9, h10⟩ := hp i v hv (hsub i hl)
  obtain ⟨u1, u2, u3⟩ := hext.untouched id h7 h8
  exact ⟨o, ty, z, id, h1, h2, h3, h4, h5, h6, Nat.lt_of_lt_of_le h7 hext.next, u3, u1.trans h9, u2.trans h10⟩

theorem mem_split {α : Type} {e : α} : ∀ {l : List α}, e ∈ l → ∃ pr es, l = pr ++ e :: es
  | [], h => by simp at h
  | x :: l, h => by
    simp at h
    rcases h with rfl | h
    · exact ⟨[], l, rfl⟩
    · obtain ⟨pr, es, rfl⟩ := mem_split h
      exact ⟨x :: pr, es, rfl⟩

/-- The slots that an operation of the middle looks at. -/
theorem DI.maskRel (d : DI P L pre base σ0 h0 w0 tm0 K lst σ h w tmps hist rest doneM effs owed) {e : Ent} {pr es : List Ent} (hsp : hist = pr ++ e :: es) (hl : lst e.idx = false) (ha : ∀ j ∈ ahead e.o, lst j = true) :
    TRel σ (maskTm (Oper.looksAt L.toArray e.o) (tmOf tm0 es)) tmps := by
  refine maskTm_rel (by rw [tmOf_length, d.len]) fun t ht => ?_
  rw [tmOf_get, ← look_mid d.closed (tm0 := tm0) hl ha ht d.chain hsp]
  exact d.rel t

theorem DI.maskNext (d : DI P L pre base σ0 h0 w0 tm0 K lst σ h w tmps hist rest doneM effs owed) {i : Nat} {o : Oper} {f : Inf} (hs : StepOk P L (hist.map (·.idx)) i o f) (ha : ∀ j ∈ ahead o, lst j = true) :
    TRel σ (maskTm (Oper.looksAt L.toArray o) (tmOf tm0 hist)) tmps := by
  refine maskTm_rel (by rw [tmOf_length, d.len]) fun t ht => ?_
  rw [tmOf_get, ← look_next d.closed (tm0 := tm0) hs.op hs.inf ha ht d.chain (fun e he g hg hcl => hs.clash e.idx (List.mem_map.2 ⟨e, he, rfl⟩) g hg hcl)]
  exact d.rel t

/-- The first operation that is not listed. -/
theorem first_unlisted {p : Ent → Bool} : ∀ {hist : List Ent}, (∃ e ∈ hist, p e = false) → ∃ pr e es, hist = pr ++ e :: es ∧ p e = false ∧ ∀ x ∈ es, p x = true
  | [], h => by obtain ⟨e, he, _⟩ := h; simp at he
  | x :: hist, h => by
    by_cases hx : ∃ e ∈ hist, p e = false
    · obtain ⟨pr, e, es, rfl, h1, h2⟩ := first_unlisted hx
      exact ⟨x :: pr, e, es, rfl, h1, h2⟩
    · obtain ⟨e, he, hp⟩ := h
      simp at he
      rcases he with rfl | he
      · refine ⟨[], e, hist, rfl, hp, fun y hy => ?_⟩
        cases hyp : p y with
        | true => rfl
        | false => exact absurd ⟨y, hy, hyp⟩ hx
      · exact absurd ⟨e, he, hp⟩ hx

theorem chain_split : ∀ {hist : List Ent}, Chain P L hist → ∀ {pr es : List Ent} {e : Ent}, hist = pr ++ e :: es → ∃ f, StepOk P L (es.map (·.idx)) e.idx e.o f
  | [], _, pr, es, e, h => by simp at h
  | x :: hist, hc, pr, es, e, h => by
    cases pr with
    | nil => simp at h; obtain ⟨rfl, rfl⟩ := h; exact hc.1
    | cons y pr => simp at h; exact chain_split hc.2 h.2
end

theorem mem_ready {ops : Array Oper} {listed : Array Bool} {i : Nat} (hs : listed.size = ops.size) : i ∈ Region.ready .any ops listed ↔ ∃ o, ops.toList[i]? = some o ∧ listed.getD i false = false ∧ ∀ j ∈ ahead o, listed.getD j false = true := by
  unfold Region.ready
  simp only [List.mem_filter, List.mem_range, Bool.and_eq_true, Bool.not_eq_true']
  constructor
  · rintro ⟨h1, h2, h3⟩
    rw [Array.getElem?_eq_getElem h1] at h3
    simp only [Option.map_some, Option.getD_some] at h3
    refine ⟨ops[i], by simp [h1], ?_, ?_⟩
    · rw [Array.getD_eq_getD_getElem?, Array.getElem?_eq_getElem (by omega)] at h2 ⊢
      exact h2
    · intro j hj
      simp only [ahead, List.mem_map, List.mem_filter] at hj
      obtain ⟨e, ⟨he, hb⟩, rfl⟩ := hj
      have := Array.all_eq_true'.1 h3 e (by simpa using he)
      rw [hb] at this
      simpa using this
  · rintro ⟨o, h1, h2, h3⟩
    have hi : i < ops.size := by have := (List.getElem?_eq_some_iff.1 h1).1; simpa using this
    have ho : ops[i]? = some o := by simpa using h1
    refine ⟨hi, ?_, ?_⟩
    · rw [Array.getD_eq_getD_getElem?, Array.getElem?_eq_getElem (by omega)] at h2 ⊢
      exact h2
    · rw [ho]
      simp only [Option.map_some, Option.getD_some]
      refine Array.all_eq_true'.2 fun e he => ?_
      cases hb : Region.binds .any e with
      | false => rfl
      | true => simpa using h3 e.on (List.mem_map.2 ⟨e, List.mem_filter.2 ⟨by simpa using he, hb⟩, rfl⟩)

section
variable {P : Program}

/-- A region's variable is made in the model. -/
theorem late_run {base : Nat} {σ : Sg} {h : Hp} {w : World} (hr : HR base σ h w) {o : Oper} {a : Act} {ty : TypeId} {z : Value} {id : Nat} (hop : o.op = .alloc ty) (hz : zero? P ty = some z) (hp : plainV 100 z = true)
    (hs : σ id = none) (hlt : id < h.next) (hob : h.ob id = some (.cells z.cells.toList ty (some id))) (hgs : h.gs.get id = none) :
    ∃ w' v' e, (execOp a.eval o).run P w = .ok (.value v') w' ∧ VRel (σ.put id e) (ptr id 0) v' ∧ HR base (σ.put id e) h w' ∧ WNew w w' (.cells z.cells ty (0, 0)) ∧ e.rb = w.heap.size := by
  obtain ⟨dst, op, t, pos, after, guard⟩ := o
  simp only at hop
  subst hop
  have hc : LRel σ z.cells.toList z.cells.toList := zero_rel hp
  have hw := WNew.alloc w (.cells z.cells ty)
  have := hr.late hs hlt hob hgs hw (by simp) hc.rel (by simp)
  refine ⟨_, .pointer (some ⟨w.heap.size, 0, none⟩), ⟨w.heap.size, 0, z.cells.size⟩, ?_, ?_, this, hw, rfl⟩
  · simp [execOp, Instr.alloc, run_zero hz, newVar, newRow]
  · exact .ptr id 0 ⟨w.heap.size, 0, z.cells.size⟩ (by unfold Sg.put; rw [if_pos rfl])

theorem draw_any {ops : Array Oper} {pre : List (Option Value)} {base : Nat} {σ0 : Sg} {h0 : Hp} {w0 : World} {tm0 : List Value} {K : List Value → Hp → Prop} {d0 : List Deferred} {Q : Exit → Act → World → Prop}
    (hQ : ∀ σ' tm' h' a' w', Ext base σ0 h0 w0 σ' h' w' → HR base σ' h' w' → TRel σ' tm' a'.tmps → a'.defers = d0 → K tm' h' → Q .normal a' w') :
    ∀ (n : Nat) (listed : Array Bool) (a : Act) (w : World) (σ : Sg) (h : Hp) (hist : List Ent) (rest : List Nat) (doneM effs : Nat) (owed : List Owed), listed.size = ops.size → left ops.size (fun i => listed.getD i false) = n →
      DI P ops.toList pre base σ0 h0 w0 tm0 K (fun i => listed.getD i false) σ h w a.tmps hist rest doneM effs owed → Stops P ops.toList rest → a.defers = d0 → wpAny P .any ops Q n listed a w := by
  intro n
  induction n with
  | zero =>
    intro listed a w σ h hist rest doneM effs owed hsz hleft d hst hdef
    have hall := left_zero hleft
    have hready : Region.ready .any ops listed = [] := by
      cases hr : Region.ready .any ops listed with
      | nil => rfl
      | cons i l =>
        have hi : i ∈ Region.ready .any ops listed := by rw [hr]; simp
        rw [mem_ready hsz] at hi
        obtain ⟨o, h1, h2, _⟩ := hi
        have := hall i (by have := (List.getElem?_eq_some_iff.1 h1).1; simpa using this)
        rw [h2] at this; simp at this
    refine ⟨hready, ?_⟩
    rcases hst with rfl | ⟨j, rest', o, rfl, ho, he⟩
    · have hform := d.form
      simp only [xDraw] at hform
      refine hQ σ _ h a w d.ext d.hr ⟨by rw [tmOf_length, d.len], fun t => ?_⟩ hdef hform
      rw [tmOf_get]
      have := d.rel t
      rw [lookD_congr (q := fun _ => true) (fun e he => ?_)] at this
      · exact this
      · have := d.chain.mem e he
        exact hall e.idx (by have := (List.getElem?_eq_some_iff.1 this).1; simpa using this)
    · have h1 := d.unl j (by simp)
      have h2 := hall j (by have := (List.getElem?_eq_some_iff.1 ho).1; simpa using this)
      rw [h1] at h2; simp at h2
  | succ n ih =>
    intro listed a w σ h hist rest doneM effs owed hsz hleft d hst hdef
    refine ⟨fun hnil => ?_, fun i hi => ?_⟩
    · -- there is always one that may come
      exfalso
      have hex : ∃ i, i ∈ Region.ready .any ops listed := by
        by_cases hu : ∃ e ∈ hist, (fun e : Ent => listed.getD e.idx false) e = false
        · obtain ⟨pr, e, es, hsp, h1, h2⟩ := first_unlisted hu
          obtain ⟨f, hs⟩ := chain_split d.chain hsp
          refine ⟨e.idx, (mem_ready hsz).2 ⟨e.o, hs.op, h1, fun j hj => ?_⟩⟩
          have := hs.ahead j hj
          obtain ⟨x, hx, rfl⟩ := List.mem_map.1 this
          exact h2 x hx
        · have hall : ∀ e ∈ hist, listed.getD e.idx false = true := by
            intro e he
            cases hh : listed.getD e.idx false with
            | true => rfl
            | false => exact absurd ⟨e, he, hh⟩ hu
          cases rest with
          | nil =>
            exfalso
            have : left ops.size (fun i => listed.getD i false) = 0 := by
              unfold left
              rw [List.length_eq_zero_iff, List.filter_eq_nil_iff]
              intro i hi
              have := d.ord.cover i (by simpa using hi)
              simp at this
              obtain ⟨e, he, rfl⟩ := this
              simpa using hall e he
            omega
          | cons j rest =>
            obtain ⟨o, f, hs, _⟩ := d.ord.step
            refine ⟨j, (mem_ready hsz).2 ⟨o, hs.op, d.unl j (by simp), fun x hx => ?_⟩⟩
            have := hs.ahead x hx
            obtain ⟨e, he, rfl⟩ := List.mem_map.1 this
            exact hall e he
      obtain ⟨i, hi⟩ := hex
      rw [hnil] at hi; simp at hi
    · rw [mem_ready hsz] at hi
      obtain ⟨o, ho, hun, hah⟩ := hi
      have hil : i < ops.size := by have := (List.getElem?_eq_some_iff.1 ho).1; simpa using this
      have hoi : ops[i]? = some o := by simpa using ho
      have hsz' : (listed.setIfInBounds i true).size = ops.size := by simpa using hsz
      have hl' : (listed.setIfInBounds i true).getD i false = true := by
        rw [Array.getD_eq_getD_getElem?, Array.getElem?_setIfInBounds_self_of_lt (by omega)]; rfl
      have hne : ∀ j, j ≠ i → (listed.setIfInBounds i true).getD j false = listed.getD j false := by
        intro j hj
        rw [Array.getD_eq_getD_getElem?, Array.getElem?_setIfInBounds_ne (fun e => hj e.symm), Array.getD_eq_getD_getElem?]
      have hleft' : left ops.size (fun j => (listed.setIfInBounds i true).getD j false) = n := by
        have := left_set (n := ops.size) (lst := fun j => listed.getD j false) (lst' := fun j => (listed.setIfInBounds i true).getD j false) hil hun hl' hne
        omega
      have hback : ∀ j, (listed.setIfInBounds i true).getD j false = false → listed.getD j false = false := by
        intro j hj
        by_cases hji : j = i
        · subst hji; exact hun
        · rw [hne j hji] at hj; exact hj
      unfold wpOp
      rw [hoi]
      simp only
      rcases d.ord.cover i (by simpa using hil) with hd | hd
      · -- the canonical run has done it
        obtain ⟨e, he, hei⟩ := List.mem_map.1 hd
        subst hei
        have heo : e.o = o := by have := d.chain.mem e he; rw [ho] at this; simpa using this.symm
        subst heo
        obtain ⟨pr, es, hsp⟩ := mem_split he
        have hok := d.ents.mem hsp hun
        have hmask := d.maskRel hsp hun hah
        have hno := hok.noEff
        obtain ⟨b, hw, hb0, hb1⟩ := hok.want
        have hwm : wants ops.toList (maskTm (Oper.looksAt ops.toList.toArray e.o) (tmOf tm0 es)) e.o = some b := by rw [maskTm_wants]; exact hw
        -- how it goes on
        have go : ∀ σ' v v' h' w', Ext base σ h w σ' h' w' → HR base σ' h' w' → VRel σ' v v' → (v = e.v ∧ h' = h) → wpAny P .any ops Q n (listed.setIfInBounds e.idx true) (a.put e.o.dst v') w' := by
          rintro σ' v v' h' w' hext hr' hv ⟨rfl, rfl⟩
          have hd' := d.list (lst' := fun j => (listed.setIfInBounds e.idx true).getD j false) he hun hah hl' hne hext.le hr' (d.ext.trans hext) (Pres.mono d.pres hext hback) (a := a) rfl hv
          exact ih _ _ _ _ _ _ _ _ _ _ hsz' hleft' hd' hst (by rw [Act.put_defers', hdef])
        cases b with
        | false =>
          rw [wanted_run hmask hwm]
          simp only [Bool.false_eq_true, if_false]
          have := hb0 rfl
          exact go σ undef undef h w (Ext.refl _ _ _ _) d.hr (VRel.undef σ) ⟨this.symm, rfl⟩
        | true =>
          rcases hb1 rfl with hpre | ⟨hpre, hk, hpop⟩ | ⟨hpre, hk, hrop, _⟩
          · -- a place that was made ahead
            rw [wanted_run hmask hwm]
            simp only [if_true]
            left
            obtain ⟨o', ty, z, id, h1, h2, h3, h4, h5, h6, h7, h8, h9, h10⟩ := d.pres e.idx e.v hpre hun
            rw [ho] at h1
            have : e.o = o' := by simpa using h1
            subst this
            obtain ⟨w', v', en, hrun, hv, hr', hnew, hen⟩ := late_run (P := P) (a := a) d.hr h2 h3 h4 h8 h7 h9 h10
            unfold Oper.wp
            rw [hrun]
            have hle : σ.le (σ.put id en) := Sg.put_le h8
            have hext' : Ext base σ0 h0 w0 (σ.put id en) h w' := by
              have x := d.ext
              refine ⟨Sg.le_trans x.le hle, hnew.os.trans x.os, hnew.tape.trans x.tape, hnew.output.trans x.output, ?_, ?_, ?_, ?_, x.next, ?_⟩
              · rw [hnew.heap]; simp; have := x.size; omega
              · intro k hk
                rw [hnew.heap, Array.getElem?_push, if_neg (by have := d.hr.base_le; omega)]
                exact x.below k hk
              · intro k hk hno
                rw [hnew.heap, Array.getElem?_push, if_neg (by have := x.size; omega)]
                exact x.other k hk hno
              · intro b0 e0 hb0 he0
                unfold Sg.put at he0
                split at he0
                · right
                  have : e0 = en := by simpa using he0.symm
                  rw [this, hen]; exact x.size
                · exact x.img b0 e0 hb0 he0
              · intro b0 hb0 hs0
                obtain ⟨y1, y2, y3⟩ := x.untouched b0 hb0 hs0
                refine ⟨y1, y2, ?_⟩
                unfold Sg.put
                rw [if_neg (by omega)]; exact y3
            have hpres' : Pres P ops.toList pre h0 (fun j => (listed.setIfInBounds e.idx true).getD j false) (σ.put id en) h := by
              intro j v hvj hj
              simp only at hj
              obtain ⟨oj, tyj, zj, idj, g1, g2, g3, g4, g5, g6, g7, g8, g9, g10⟩ := d.pres j v hvj (hback j hj)
              refine ⟨oj, tyj, zj, idj, g1, g2, g3, g4, g5, g6, g7, ?_, g9, g10⟩
              unfold Sg.put
              rw [if_neg ?_]
              · exact g8
              · rintro rfl
                have hjne : j ≠ e.idx := by rintro rfl; rw [hl'] at hj; simp at hj
                exact hjne (d.inj j e.idx v hvj (by rw [hpre, h5, g5]))
            have hv2 : VRel (σ.put id en) e.v v' := by rw [h5]; exact hv
            have hd' := d.list (lst' := fun j => (listed.setIfInBounds e.idx true).getD j false) he hun hah hl' hne hle hr' hext' hpres' (a := a) rfl hv2
            exact ih _ _ _ _ _ _ _ _ _ _ hsz' hleft' hd' hst (by rw [Act.put_defers', hdef])
          · refine stepX_sound (k := fun v h' => v = e.v ∧ h' = h) d.hr hmask ?_ go
            unfold stepX
            rw [hwm]
            simp only [hk, if_true]
            rw [← pop_congr maskTm_agree, hpop]
            exact ⟨rfl, trivial⟩
          · refine stepX_sound (k := fun v h' => v = e.v ∧ h' = h) d.hr hmask ?_ go
            unfold stepX
            rw [hwm]
            simp only [hk, if_true]
            rw [← rop_congr maskTm_agree, hrop]
            exact ⟨rfl, trivial⟩
      · -- it is the next change
        rcases hst with rfl | ⟨j, rest', oj, rfl, hoj, hej⟩
        · simp at hd
        · have hunj := d.unl j (by simp)
          obtain ⟨o2, f, hs, hord, heff⟩ := d.ord.step
          have hij : i = j := by
            simp at hd
            rcases hd with hd | hd
            · exact hd
            · exfalso
              obtain ⟨done', o3, f3, hs3, hsub⟩ := hord.at i hd
              have hj := hsub j (by simp)
              have hb := hs3.effs j hj oj hoj hej
              have ho3 : o3 = o := by have := hs3.op; rw [ho] at this; simpa using this.symm
              subst ho3
              have := d.closed.am (P := P) hs3.op hs3.inf hah hb
              rw [hunj] at this; simp at this
          subst hij
          have ho2 : o2 = o := by have := hs.op; rw [ho] at this; simpa using this.symm
          subst ho2
          have hoj' : oj = o2 := by rw [ho] at hoj; simpa using hoj.symm
          subst hoj'
          have hmask := d.maskNext hs hah
          have hform := d.form
          simp only [xDraw, ho, hs.inf] at hform
          cases hw : wants ops.toList (tmOf tm0 hist) oj with
          | none => simp [hw, alP] at hform
          | some b =>
            simp only [hw] at hform
            have hpre : pre.getD i none = none := by
              cases hp : pre.getD i none with
              | none => rfl
              | some v =>
                exfalso
                obtain ⟨o', ty, z, id, h1, h2, _⟩ := d.pres i v hp hun
                rw [ho] at h1
                have : oj = o' := by simpa using h1
                subst this
                simp [isEff, h2, isAlloc] at hej
            simp only [hpre] at hform
            have hwm : wants ops.toList (maskTm (Oper.looksAt ops.toList.toArray oj) (tmOf tm0 hist)) oj = some b := by rw [maskTm_wants]; exact hw
            refine stepX_sound (k := fun v h' => payAll P alP f.am h' owed (xDraw P alP (SCalls P) ops.toList (infos P ops.toList) pre rest' (put (tmOf tm0 hist) oj.dst v) owed h' K)) d.hr hmask ?_ ?_
            · unfold stepX
              rw [hwm]
              simp only
              rw [← eop_congr maskTm_agree, ← callee_congr maskTm_agree]
              split
              · rename_i hk; simp [isEff, hk] at hej
              · rename_i hk; simp [isEff, hk] at hej
              · rename_i hk; simp only [hk] at hform; exact hform
              · rename_i hk
                simp only [hk] at hform
                exact hform
            · rintro σ' v v' h' w' hext hr' hv hk
              obtain ⟨hf, hpay⟩ := payAll_spec hk
              have d' : DI P ops.toList pre base σ0 h0 w0 tm0 K (fun j => (listed.setIfInBounds i true).getD j false) σ' h' w' (a.put oj.dst v').tmps (⟨i, oj, v⟩ :: hist) rest' (doneM ||| 2 ^ i) (if f.eff then effs ||| 2 ^ i else effs) owed := by
                have sub : ∀ x, listed.getD x false = true → (listed.setIfInBounds i true).getD x false = true := by
                  intro x hx
                  by_cases hxi : x = i
                  · rw [hxi]; exact hl'
                  · rw [hne x hxi]; exact hx
                refine ⟨?_, hr', d.ext.trans hext, hord, ⟨⟨f, hs⟩, d.chain⟩, ?_, ?_, ⟨fun hh => ?_, ?_⟩, Pres.mono d.pres hext hback, d.inj, d.all, ?_, ?_, hf⟩
                · intro x ox hox hx y hy
                  simp only at hx ⊢
                  by_cases hxi : x = i
                  · subst hxi
                    rw [ho] at hox
                    have : oj = ox := by simpa using hox
                    subst this
                    exact sub y (hah y hy)
                  · rw [hne x hxi] at hx
                    exact sub y (d.closed x ox hox hx y hy)
                · intro x hx hxe
                  simp at hx
                  rcases hx with rfl | hx
                  · exact hl'
                  · exact sub _ (d.effl x hx hxe)
                · intro x hx
                  have : x ≠ i := by
                    rintro rfl
                    obtain ⟨done', o3, f3, hs3, hsub⟩ := hord.at x hx
                    exact hs3.new (hsub x (by simp))
                  show (listed.setIfInBounds i true).getD x false = false
                  rw [hne x this]
                  exact d.unl x (by simp [hx])
                · have hh' : (listed.setIfInBounds i true).getD i false = false := hh
                  rw [hl'] at hh'; simp at hh'
                · refine d.ents.imp fun x hx tm hxl => ⟨hback _ hxl, fun hok => ⟨hok.noEff, ?_⟩⟩
                  obtain ⟨b2, k1, k2, k3⟩ := hok.want
                  refine ⟨b2, k1, k2, fun hb2 => ?_⟩
                  rcases k3 hb2 with k4 | k4 | ⟨k4, k5, k6, k7⟩
                  · exact .inl k4
                  · exact .inr (.inl k4)
                  · refine .inr (.inr ⟨k4, k5, ?_, k7⟩)
                    rcases hpay _ k7 with k8 | k8
                    · exfalso
                      have := d.closed.am (P := P) hs.op hs.inf hah k8
                      simp only at this
                      rw [hback _ hxl] at this; simp at this
                    · exact k8
                · rw [d.len]; cases oj.dst <;> simp [Act.put]
                · intro t
                  have hlook : lookD tm0 (fun j => (listed.setIfInBounds i true).getD j false) t hist = lookD tm0 (fun j => listed.getD j false) t hist := by
                    refine lookD_congr fun x hx => hne _ fun hxi => ?_
                    exact hs.new (by rw [← hxi]; exact List.mem_map.2 ⟨x, hx, rfl⟩)
                  simp only [lookD, hl', true_and, hlook]
                  have hrel := (d.rel t).mono hext.le
                  cases hdd : oj.dst with
                  | none => simp only [Act.put]; rw [if_neg (by simp)]; exact hrel
                  | some dd =>
                    simp only [Act.put, Option.some.injEq]
                    by_cases ht : dd = t
                    · subst ht
                      by_cases hlt : dd < tm0.length
                      · rw [if_pos ⟨rfl, hlt⟩, Array.getD_eq_getD_getElem?, Array.getElem?_setIfInBounds_self_of_lt (by rw [← d.len]; exact hlt)]
                        exact hv
                      · rw [if_neg (fun hh => hlt hh.2)]
                        have hs' : ¬ dd < a.tmps.size := by rw [← d.len]; exact hlt
                        rw [Array.getD_eq_getD_getElem?] at hrel ⊢
                        simpa [Array.getElem?_setIfInBounds, hs'] using hrel
                    · rw [if_neg (fun hh => ht hh.1)]
                      rw [Array.getD_eq_getD_getElem?] at hrel ⊢
                      rw [Array.getElem?_setIfInBounds_ne ht]
                      exact hrel
              obtain ⟨hist', rest2, dM, ef, ow, d2, hst2⟩ := d'.advance
              exact ih _ _ _ _ _ _ _ _ _ _ hsz' hleft' d2 hst2 (by rw [Act.put_defers', hdef])
end
end Go.Cn
