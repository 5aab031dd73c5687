/- The canonical semantics: a region that draws its order: the state in the middle of a drawn order. -/
import Derived.Test.YtfkhjbfddeahaaaCnN
set_option linter.unusedVariables false
set_option linter.unusedSimpArgs false
namespace Go.Cn
section
variable {P : Program}

/-- An operation that the canonical run has done, and what it wrote. -/
structure Ent where
  idx : Nat
  o : Oper
  v : Value

def tmOf (tm0 : List Value) : List Ent → List Value
  | [] => tm0
  | e :: es => put (tmOf tm0 es) e.o.dst e.v

def lookD (tm0 : List Value) (p : Nat → Bool) (t : Tmp) : List Ent → Value
  | [] => tm0.getD t undef
  | e :: es => if p e.idx = true ∧ e.o.dst = some t ∧ t < tm0.length then e.v else lookD tm0 p t es

theorem put_length (tm : List Value) (d : Option Tmp) (v : Value) : (put tm d v).length = tm.length := by cases d <;> simp [Cn.put]

theorem tmOf_length (tm0 : List Value) : ∀ es, (tmOf tm0 es).length = tm0.length
  | [] => rfl
  | e :: es => by simp only [tmOf]; rw [put_length, tmOf_length tm0 es]

theorem put_get (tm : List Value) (d : Option Tmp) (v : Value) (t : Tmp) : (put tm d v).getD t undef = if d = some t ∧ t < tm.length then v else tm.getD t undef := by
  cases d with
  | none => simp [Cn.put]
  | some d =>
    simp only [Cn.put, Option.some.injEq]
    by_cases hd : d = t
    · subst hd
      by_cases hl : d < tm.length
      · rw [if_pos ⟨rfl, hl⟩, List.getD_eq_getElem?_getD, List.getElem?_set_self hl]; rfl
      · rw [if_neg (fun h => hl h.2), List.set_eq_of_length_le (Nat.le_of_not_lt hl)]
    · rw [if_neg (fun h => hd h.1), List.getD_eq_getElem?_getD, List.getElem?_set_ne hd, List.getD_eq_getElem?_getD]

theorem tmOf_get (tm0 : List Value) (t : Tmp) : ∀ es, (tmOf tm0 es).getD t undef = lookD tm0 (fun _ => true) t es
  | [] => rfl
  | e :: es => by
    simp only [tmOf, lookD, put_get, tmOf_length, tmOf_get tm0 t es, true_and]

def Chain (P : Program) (L : List Oper) : List Ent → Prop
  | [] => True
  | e :: es => (∃ f, StepOk P L (es.map (·.idx)) e.idx e.o f) ∧ Chain P L es

theorem Chain.mem {L : List Oper} : ∀ {es : List Ent}, Chain P L es → ∀ e ∈ es, L[e.idx]? = some e.o
  | [], _, e, h => by simp at h
  | x :: es, h, e, he => by
    simp at he
    rcases he with rfl | he
    · obtain ⟨⟨f, hf⟩, _⟩ := h; exact hf.op
    · exact Chain.mem h.2 e he

/-- Two operations where one writes a slot that the other looks at clash. -/
theorem inf_of {L : List Oper} {i : Nat} {o : Oper} {f : Inf} (ho : L[i]? = some o) (hf : (infos P L)[i]? = some f) :
    (∀ t, f.dm.testBit t = decide (o.dst = some t)) ∧ (∀ t, f.lm.testBit t = decide (t ∈ Oper.looksAt L.toArray o)) := by
  rw [infos_at ho] at hf
  cases hf
  refine ⟨fun t => ?_, fun t => ?_⟩
  · simp only [infOf, testBit_bitsOf]
    cases o.dst with
    | none => simp
    | some d => simp [eq_comm]
  · simp only [infOf, testBit_bitsOf]

theorem clash_wl {f g : Inf} {t : Nat} (h1 : f.dm.testBit t = true) (h2 : g.lm.testBit t = true) : clash f g = true := by
  unfold clash
  simp only [Bool.or_eq_true, Bool.not_eq_true']
  left
  rw [beq_eq_false_iff_ne]
  intro h
  exact and_zero h h1 (by simp [Nat.testBit_or, h2])

theorem clash_lw {f g : Inf} {t : Nat} (h1 : f.lm.testBit t = true) (h2 : g.dm.testBit t = true) : clash f g = true := by
  unfold clash
  simp only [Bool.or_eq_true, Bool.not_eq_true']
  right
  rw [beq_eq_false_iff_ne]
  intro h
  exact and_zero h h2 h1

theorem clash_ww {f g : Inf} {t : Nat} (h1 : f.dm.testBit t = true) (h2 : g.dm.testBit t = true) : clash f g = true := by
  unfold clash
  simp only [Bool.or_eq_true, Bool.not_eq_true']
  left
  rw [beq_eq_false_iff_ne]
  intro h
  exact and_zero h h1 (by simp [Nat.testBit_or, h2])

/-- The listed operations are closed under what they name as ahead of them. -/
def Closed (L : List Oper) (lst : Nat → Bool) : Prop := ∀ i o, L[i]? = some o → lst i = true → ∀ j ∈ ahead o, lst j = true

theorem Closed.am {L : List Oper} {lst : Nat → Bool} (hc : Closed L lst) {i : Nat} {o : Oper} {f : Inf} (ho : L[i]? = some o) (hf : (infos P L)[i]? = some f) (ha : ∀ j ∈ ahead o, lst j = true) {j : Nat} (hj : f.am.testBit j = true) : lst j = true :=
  am_sound (P := P) (D := fun i => lst i = true) hc (i + 1) i (Nat.lt_succ_self i) f o hf ho ha j hj

/-- Behind a clash stands an operation that is listed only if the other is. -/
theorem later_listed {L : List Oper} {lst : Nat → Bool} (hc : Closed L lst) {done : List Nat} {i j : Nat} {o oj : Oper} {f g : Inf} (hs : StepOk P L done i o f) (hj : j ∈ done) (hg : (infos P L)[j]? = some g)
    (hcl : clash g f = true) (hl : lst i = true) : lst j = true :=
  hc.am hs.op hs.inf (hc i o hs.op hl) (hs.clash j hj g hg hcl)

/-- (B) What stands next looks at slots that listed operations wrote. -/
theorem look_next {L : List Oper} {lst : Nat → Bool} (hc : Closed L lst) {tm0 : List Value} {t : Tmp} {i : Nat} {o : Oper} {f : Inf} (ho : L[i]? = some o) (hf : (infos P L)[i]? = some f) (ha : ∀ j ∈ ahead o, lst j = true)
    (ht : t ∈ Oper.looksAt L.toArray o) : ∀ {es : List Ent}, Chain P L es → (∀ e ∈ es, ∀ g, (infos P L)[e.idx]? = some g → clash g f = true → f.am.testBit e.idx = true) →
    lookD tm0 lst t es = lookD tm0 (fun _ => true) t es
  | [], _, _ => rfl
  | e :: es, hch, hcl => by
    have ih := look_next hc (tm0 := tm0) ho hf ha ht hch.2 (fun e' he' => hcl e' (by simp [he']))
    simp only [lookD, ih, true_and]
    by_cases hd : e.o.dst = some t
    · obtain ⟨⟨fe, hse⟩, _⟩ := hch
      have h1 := ((inf_of hse.op hse.inf).1 t)
      have h2 := ((inf_of ho hf).2 t)
      rw [hd] at h1
      simp at h1
      simp [ht] at h2
      have hb := hcl e (by simp) fe hse.inf (clash_wl h1 h2)
      have hl := hc.am ho hf ha hb
      simp [hl]
    · simp [hd]

/-- (A) An operation that is not listed yet and may come now: it looks at slots as the canonical run had them then. -/
theorem look_mid {L : List Oper} {lst : Nat → Bool} (hc : Closed L lst) {tm0 : List Value} {t : Tmp} {e : Ent} (hl : lst e.idx = false) (ha : ∀ j ∈ ahead e.o, lst j = true) (ht : t ∈ Oper.looksAt L.toArray e.o) :
    ∀ {hist : List Ent}, Chain P L hist → ∀ {pre es : List Ent}, hist = pre ++ e :: es → lookD tm0 lst t hist = lookD tm0 (fun _ => true) t es
  | [], _, pre, es, h => by simp at h
  | x :: hist, hch, pre, es, h => by
    cases pre with
    | nil =>
      simp at h
      obtain ⟨rfl, rfl⟩ := h
      obtain ⟨⟨f, hs⟩, hch2⟩ := hch
      simp only [lookD, hl, Bool.false_eq_true, false_and, if_false]
      exact look_next hc hs.op hs.inf ha ht hch2 (fun e' he' g hg hcl => hs.clash e'.idx (List.mem_map.2 ⟨e', he', rfl⟩) g hg hcl)
    | cons y pre =>
      simp at h
      obtain ⟨rfl, rfl⟩ := h
      obtain ⟨⟨f, hs⟩, hch2⟩ := hch
      have ih := look_mid hc (tm0 := tm0) hl ha ht hch2 rfl
      simp only [lookD]
      rw [ih, if_neg ?_]
      rintro ⟨h1, h2, h3⟩
      have hem : e ∈ pre ++ e :: es := by simp
      have heo := hch2.mem e hem
      have hlen : e.idx < (infos P L).length := by rw [infos_length]; exact (List.getElem?_eq_some_iff.1 heo).1
      have hg := List.getElem?_eq_getElem hlen
      have hdx := ((inf_of hs.op hs.inf).1 t)
      rw [h2] at hdx; simp at hdx
      have hle := ((inf_of heo hg).2 t)
      simp [ht] at hle
      have := later_listed hc (oj := e.o) hs (List.mem_map.2 ⟨e, hem, rfl⟩) hg (clash_lw hle hdx) h1
      rw [hl] at this; simp at this

theorem lookD_congr {tm0 : List Value} {p q : Nat → Bool} {t : Tmp} : ∀ {es : List Ent}, (∀ e ∈ es, p e.idx = q e.idx) → lookD tm0 p t es = lookD tm0 q t es
  | [], _ => rfl
  | e :: es, h => by simp only [lookD, h e (by simp), lookD_congr (es := es) fun e' he' => h e' (by simp [he'])]

/-- (C) An operation of the middle is listed: its slot alone changes. -/
theorem look_put {L : List Oper} {lst lst' : Nat → Bool} (hc : Closed L lst) {tm0 : List Value} {t : Tmp} {e : Ent} (hl : lst e.idx = false) (hl' : lst' e.idx = true) (hne : ∀ i, i ≠ e.idx → lst' i = lst i) :
    ∀ {hist : List Ent}, Chain P L hist → e ∈ hist → lookD tm0 lst' t hist = if e.o.dst = some t ∧ t < tm0.length then e.v else lookD tm0 lst t hist
  | [], _, h => by simp at h
  | x :: hist, hch, h => by
    obtain ⟨⟨f, hs⟩, hch2⟩ := hch
    simp at h
    by_cases hxe : x.idx = e.idx
    · have hxe' : x = e := by
        rcases h with h | h
        · exact h.symm
        · exfalso; exact hs.new (by rw [hxe]; exact List.mem_map.2 ⟨e, h, rfl⟩)
      subst hxe'
      have hrest : lookD tm0 lst' t hist = lookD tm0 lst t hist := lookD_congr fun e' he' => hne _ fun heq => hs.new (by rw [← heq]; exact List.mem_map.2 ⟨e', he', rfl⟩)
      simp only [lookD, hl, hl', true_and, Bool.false_eq_true, false_and, if_false, hrest]
    · have he : e ∈ hist := by rcases h with h | h; exact absurd (by rw [h]) hxe; exact h
      have ih := look_put hc (tm0 := tm0) (t := t) hl hl' hne hch2 he
      simp only [lookD, hne _ hxe, ih]
      by_cases hx : lst x.idx = true ∧ x.o.dst = some t ∧ t < tm0.length
      · simp only [hx, and_self, if_true]
        rw [if_neg]
        rintro ⟨h1, h2⟩
        have heo := hch2.mem e he
        have hlen : e.idx < (infos P L).length := by rw [infos_length]; exact (List.getElem?_eq_some_iff.1 heo).1
        have hg := List.getElem?_eq_getElem hlen
        have hdx := ((inf_of hs.op hs.inf).1 t)
        rw [hx.2.1] at hdx; simp at hdx
        have hde := ((inf_of heo hg).1 t)
        rw [h1] at hde; simp at hde
        have := later_listed hc (oj := e.o) hs (List.mem_map.2 ⟨e, he, rfl⟩) hg (clash_ww hde hdx) hx.1
        rw [hl] at this; simp at this
      · simp only [hx, if_false]

/-! ### The slots that an operation does not look at are forgotten -/
def maskTm (looks : List Tmp) (tm : List Value) : List Value := (List.range tm.length).map fun t => if looks.contains t then tm.getD t undef else unk

theorem maskTm_get (looks : List Tmp) (tm : List Value) (t : Tmp) : (maskTm looks tm).getD t undef = if t < tm.length then (if looks.contains t then tm.getD t undef else unk) else undef := by
  unfold maskTm
  rw [List.getD_eq_getElem?_getD, List.getElem?_map]
  by_cases h : t < tm.length
  · rw [List.getElem?_range h, if_pos h]; rfl
  · rw [List.getElem?_eq_none (by simpa using h), if_neg h]; rfl

theorem maskTm_rel {σ : Sg} {looks : List Tmp} {tm : List Value} {tmps : Array Value} (hs : tm.length = tmps.size) (h : ∀ t ∈ looks, VRel σ (tm.getD t undef) (tmps.getD t undef)) : TRel σ (maskTm looks tm) tmps := by
  refine ⟨by simp [maskTm, hs], fun t => ?_⟩
  rw [maskTm_get]
  by_cases hl : t < tm.length
  · rw [if_pos hl]
    split
    · rename_i hc; exact h t (by simpa using hc)
    · exact .unk _
  · rw [if_neg hl, Array.getD_eq_getD_getElem?, Array.getElem?_eq_none (by rw [← hs]; exact Nat.le_of_not_lt hl)]
    exact VRel.undef σ

theorem maskTm_agree {L : Array Oper} {o : Oper} {tm : List Value} : Agree tm (maskTm (Oper.looksAt L o) tm) o.op := by
  intro x hx
  cases x with
  | tmp t =>
    have hm : t ∈ Oper.looksAt L o := by
      unfold Oper.looksAt
      refine List.mem_append.2 (.inl (List.mem_filterMap.2 ⟨.tmp t, hx, rfl⟩))
    simp only [ev]
    rw [maskTm_get]
    by_cases hl : t < tm.length
    · rw [if_pos hl, if_pos (by simpa using hm)]
    · rw [if_neg hl, List.getD_eq_getElem?_getD, List.getElem?_eq_none (Nat.le_of_not_lt hl)]; rfl
  | _ => rfl

theorem maskTm_wants {L : List Oper} {o : Oper} {tm : List Value} : wants L (maskTm (Oper.looksAt L.toArray o) tm) o = wants L tm o := by
  unfold wants
  cases hg : o.guard with
  | none => rfl
  | some jw =>
    obtain ⟨j, want⟩ := jw
    simp only
    cases hd : (L[j]?).bind (·.dst) with
    | none => rfl
    | some d =>
      simp only
      have hm : d ∈ Oper.looksAt L.toArray o := by
        unfold Oper.looksAt
        refine List.mem_append.2 (.inr ?_)
        rw [hg]
        simp only
        have : (L.toArray[j]?).bind (·.dst) = some d := by simpa using hd
        rw [this]; simp
      rw [maskTm_get]
      by_cases hl : d < tm.length
      · rw [if_pos hl, if_pos (by simpa using hm)]
      · rw [if_neg hl, List.getD_eq_getElem?_getD, List.getElem?_eq_none (Nat.le_of_not_lt hl)]; rfl

theorem payAll_spec {am : Nat} {h : Hp} {owed : List Owed} {r : Prop} (hp : payAll P alP am h owed r) : r ∧ ∀ d ∈ owed, am.testBit d.idx = true ∨ rop P d.tm d.op h = some d.v := by
  induction owed with
  | nil => exact ⟨hp, by simp⟩
  | cons d owed ih =>
    unfold payAll at hp
    simp only [List.foldr_cons] at hp
    by_cases hb : am.testBit d.idx = true
    · rw [if_pos hb] at hp
      obtain ⟨h1, h2⟩ := ih hp
      exact ⟨h1, fun x hx => by simp at hx; rcases hx with rfl | hx; exact .inl hb; exact h2 x hx⟩
    · rw [if_neg hb] at hp
      obtain ⟨h0, hp⟩ := hp
      obtain ⟨h1, h2⟩ := ih hp
      exact ⟨h1, fun x hx => by simp at hx; rcases hx with rfl | hx; exact .inr h0; exact h2 x hx⟩
end
end Go.Cn
