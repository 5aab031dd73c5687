/- The canonical semantics: a region that draws its order: the law. -/
import Derived.Test.YtfkhjbfddeahaaaCnO
set_option linter.unusedVariables false
set_option linter.unusedSimpArgs false
namespace Go.Cn
section
variable {P : Program}

/-- What is known of an operation that the canonical run has done and the model has not. -/
structure EntOk (P : Program) (L : List Oper) (pre : List (Option Value)) (owed : List Owed) (h : Hp) (e : Ent) (tm : List Value) : Prop where
  noEff : isEff P e.o.op = false
  want : ∃ b, wants L tm e.o = some b ∧ (b = false → e.v = undef) ∧ (b = true →
    pre.getD e.idx none = some e.v ∨ (pre.getD e.idx none = none ∧ kind P e.o.op = .pure ∧ pop P tm e.o.op = some e.v) ∨
      (pre.getD e.idx none = none ∧ kind P e.o.op = .read ∧ rop P tm e.o.op h = some e.v ∧ ⟨e.idx, e.o.op, tm, e.v⟩ ∈ owed))

def EntsOk (P : Program) (L : List Oper) (pre : List (Option Value)) (owed : List Owed) (h : Hp) (lst : Nat → Bool) (tm0 : List Value) : List Ent → Prop
  | [] => True
  | e :: es => (lst e.idx = false → EntOk P L pre owed h e (tmOf tm0 es)) ∧ EntsOk P L pre owed h lst tm0 es

theorem EntsOk.mem {L : List Oper} {pre : List (Option Value)} {owed : List Owed} {h : Hp} {lst : Nat → Bool} {tm0 : List Value} : ∀ {hist : List Ent}, EntsOk P L pre owed h lst tm0 hist → ∀ {pr es : List Ent} {e : Ent}, hist = pr ++ e :: es → lst e.idx = false →
    EntOk P L pre owed h e (tmOf tm0 es)
  | [], _, pr, es, e, he, _ => by simp at he
  | x :: hist, hok, pr, es, e, he, hl => by
    cases pr with
    | nil => simp at he; obtain ⟨rfl, rfl⟩ := he; exact hok.1 hl
    | cons y pr => simp at he; exact EntsOk.mem hok.2 he.2 hl

theorem EntsOk.imp {L : List Oper} {pre : List (Option Value)} {owed owed' : List Owed} {h h' : Hp} {lst lst' : Nat → Bool} {tm0 : List Value} : ∀ {hist : List Ent}, EntsOk P L pre owed h lst tm0 hist →
    (∀ e ∈ hist, ∀ tm, lst' e.idx = false → lst e.idx = false ∧ (EntOk P L pre owed h e tm → EntOk P L pre owed' h' e tm)) → EntsOk P L pre owed' h' lst' tm0 hist
  | [], _, _ => trivial
  | e :: es, hok, hi => ⟨fun hl => (hi e (by simp) _ hl).2 (hok.1 (hi e (by simp) (tmOf tm0 es) hl).1), EntsOk.imp hok.2 fun e' he' => hi e' (by simp [he'])⟩

/-- The middle of a drawn order. -/
structure DI (P : Program) (L : List Oper) (pre : List (Option Value)) (base : Nat) (σ0 : Sg) (h0 : Hp) (w0 : World) (tm0 : List Value) (K : List Value → Hp → Prop)
    (lst : Nat → Bool) (σ : Sg) (h : Hp) (w : World) (tmps : Array Value) (hist : List Ent) (rest : List Nat) (doneM effs : Nat) (owed : List Owed) : Prop where
  closed : Closed L lst
  hr : HR base σ h w
  ext : Ext base σ0 h0 w0 σ h w
  ord : Ord P L rest (hist.map (·.idx)) doneM effs
  chain : Chain P L hist
  effl : ∀ e ∈ hist, isEff P e.o.op = true → lst e.idx = true
  unl : ∀ i ∈ rest, lst i = false
  ents : EntsOk P L pre owed h lst tm0 hist
  pres : ∀ i v, pre.getD i none = some v → lst i = false → ∃ o ty z id, L[i]? = some o ∧ o.op = .alloc ty ∧ zero? P ty = some z ∧ plainV 100 z = true ∧ v = ptr id 0 ∧ h0.next ≤ id ∧ id < h.next ∧ σ id = none ∧
    h.ob id = some (.cells z.cells.toList ty (some id)) ∧ h.gs.get id = none
  inj : ∀ i j v, pre.getD i none = some v → pre.getD j none = some v → i = j
  all : ∀ i o, L[i]? = some o → isAlloc o.op = true → ∃ v, pre.getD i none = some v
  len : tm0.length = tmps.size
  rel : ∀ t, VRel σ (lookD tm0 lst t hist) (tmps.getD t undef)
  form : xDraw P alP (SCalls P) L (infos P L) pre rest (tmOf tm0 hist) owed h K

def Stops (P : Program) (L : List Oper) (rest : List Nat) : Prop := rest = [] ∨ ∃ j rest' o, rest = j :: rest' ∧ L[j]? = some o ∧ isEff P o.op = true

section
variable {L : List Oper} {pre : List (Option Value)} {base : Nat} {σ0 : Sg} {h0 : Hp} {w0 : World} {tm0 : List Value} {K : List Value → Hp → Prop} {lst : Nat → Bool} {σ : Sg} {h : Hp} {w : World} {tmps : Array Value}

/-- One operation that changes nothing is done in the canonical run. -/
theorem DI.one {hist : List Ent} {i : Nat} {rest : List Nat} {doneM effs : Nat} {owed : List Owed} (d : DI P L pre base σ0 h0 w0 tm0 K lst σ h w tmps hist (i :: rest) doneM effs owed)
    {o : Oper} (ho : L[i]? = some o) (he : isEff P o.op = false) : ∃ e doneM' effs' owed', DI P L pre base σ0 h0 w0 tm0 K lst σ h w tmps (e :: hist) rest doneM' effs' owed' := by
  obtain ⟨o', f, hs, hord, heff⟩ := d.ord.step
  have hoo : o' = o := by have := hs.op; rw [ho] at this; simpa using this.symm
  subst hoo
  have hun : lst i = false := d.unl i (by simp)
  have hform := d.form
  simp only [xDraw, ho, hs.inf] at hform
  have hnc : kind P o'.op ≠ .call := by
    intro hk
    have hal : isAlloc o'.op = true := by simpa [isEff, hk] using he
    cases hop : o'.op <;> simp [hop, isAlloc] at hal
    simp [hop, kind] at hk
  have mk : ∀ (v : Value) (owed' : List Owed), EntOk P L pre owed' h ⟨i, o', v⟩ (tmOf tm0 hist) → (∀ x, x ∈ owed → x ∈ owed') →
      xDraw P alP (SCalls P) L (infos P L) pre rest (put (tmOf tm0 hist) o'.dst v) owed' h K →
      ∃ e doneM' effs' owed', DI P L pre base σ0 h0 w0 tm0 K lst σ h w tmps (e :: hist) rest doneM' effs' owed' := by
    intro v owed' hent hsub hf
    refine ⟨⟨i, o', v⟩, _, _, owed', ⟨d.closed, d.hr, d.ext, hord, ⟨⟨f, hs⟩, d.chain⟩, ?_, fun j hj => d.unl j (by simp [hj]), ⟨fun _ => hent, ?_⟩, d.pres, d.inj, d.all, d.len, ?_, hf⟩⟩
    · intro e hem hee
      simp at hem
      rcases hem with rfl | hem
      · simp only at hee; rw [he] at hee; simp at hee
      · exact d.effl e hem hee
    · refine d.ents.imp fun e hem tm hl => ⟨hl, fun hok => ⟨hok.noEff, ?_⟩⟩
      obtain ⟨b, h1, h2, h3⟩ := hok.want
      refine ⟨b, h1, h2, fun hb => ?_⟩
      rcases h3 hb with h4 | h4 | ⟨h4, h5, h6, h7⟩
      · exact .inl h4
      · exact .inr (.inl h4)
      · exact .inr (.inr ⟨h4, h5, h6, hsub _ h7⟩)
    · intro t
      simp only [lookD, hun, Bool.false_eq_true, false_and, if_false]
      exact d.rel t
  cases hw : wants L (tmOf tm0 hist) o' with
  | none => simp [hw, alP] at hform
  | some b =>
    simp only [hw] at hform
    cases hpre : pre.getD i none with
    | some v =>
      simp only [hpre] at hform
      refine mk _ owed ⟨he, b, hw, fun hb => ?_, fun hb => ?_⟩ (fun _ h => h) hform
      · simp [hb]
      · left; simp only [hb, if_true]; exact hpre
    | none =>
      simp only [hpre] at hform
      split at hform
      · rename_i hk
        cases b with
        | false =>
          simp [opt] at hform
          exact mk undef owed ⟨he, false, hw, fun _ => rfl, fun hb => by simp at hb⟩ (fun _ h => h) hform
        | true =>
          simp only [if_true] at hform
          cases hp : pop P (tmOf tm0 hist) o'.op with
          | none => simp [hp, opt, alP] at hform
          | some v =>
            simp only [hp, opt] at hform
            exact mk v owed ⟨he, true, hw, fun hb => by simp at hb, fun _ => .inr (.inl ⟨hpre, hk, hp⟩)⟩ (fun _ h => h) hform
      · rename_i hk
        cases b with
        | false =>
          simp [opt] at hform
          exact mk undef owed ⟨he, false, hw, fun _ => rfl, fun hb => by simp at hb⟩ (fun _ h => h) hform
        | true =>
          simp only [if_true] at hform
          cases hp : rop P (tmOf tm0 hist) o'.op h with
          | none => simp [hp, opt, alP] at hform
          | some v =>
            simp only [hp, opt] at hform
            exact mk v _ ⟨he, true, hw, fun hb => by simp at hb, fun _ => .inr (.inr ⟨hpre, hk, hp, by simp⟩)⟩ (fun _ h => by simp [h]) hform
      · rename_i hk
        exfalso
        have hal : isAlloc o'.op = true := by simpa [isEff, hk] using he
        obtain ⟨v, hv⟩ := d.all i o' ho hal
        rw [hpre] at hv; simp at hv
      · rename_i hk; exact absurd hk hnc

/-- The canonical run goes on to the next change. -/
theorem DI.advance : ∀ (rest : List Nat) {hist : List Ent} {doneM effs : Nat} {owed : List Owed}, DI P L pre base σ0 h0 w0 tm0 K lst σ h w tmps hist rest doneM effs owed →
    ∃ hist' rest' doneM' effs' owed', DI P L pre base σ0 h0 w0 tm0 K lst σ h w tmps hist' rest' doneM' effs' owed' ∧ Stops P L rest'
  | [], hist, doneM, effs, owed, d => ⟨hist, [], doneM, effs, owed, d, .inl rfl⟩
  | i :: rest, hist, doneM, effs, owed, d => by
    obtain ⟨o, f, hs, _, _⟩ := d.ord.step
    cases he : isEff P o.op with
    | true => exact ⟨hist, i :: rest, doneM, effs, owed, d, .inr ⟨i, rest, o, rfl, hs.op, he⟩⟩
    | false =>
      obtain ⟨e, doneM', effs', owed', d'⟩ := d.one hs.op he
      exact DI.advance rest d'
end

/-- How many operations are not listed yet. -/
def left (n : Nat) (lst : Nat → Bool) : Nat := ((List.range n).filter fun i => !lst i).length

theorem left_zero {n : Nat} {lst : Nat → Bool} (h : left n lst = 0) : ∀ i, i < n → lst i = true := by
  intro i hi
  unfold left at h
  have := List.eq_nil_of_length_eq_zero h
  rw [List.filter_eq_nil_iff] at this
  have := this i (by simpa using hi)
  simpa using this

theorem filter_set : ∀ (l : List Nat) {lst lst' : Nat → Bool} {i : Nat}, l.Nodup → i ∈ l → lst i = false → lst' i = true → (∀ j, j ≠ i → lst' j = lst j) →
    (l.filter fun j => !lst j).length = (l.filter fun j => !lst' j).length + 1
  | [], lst, lst', i, _, h, _, _, _ => by simp at h
  | x :: l, lst, lst', i, hnd, hi, h1, h2, h3 => by
    have hnd' := List.nodup_cons.1 hnd
    by_cases hx : x = i
    · subst hx
      have hsame : (l.filter fun j => !lst j) = l.filter fun j => !lst' j := by
        apply List.filter_congr
        intro j hj
        rw [h3 j (by rintro rfl; exact hnd'.1 hj)]
      simp [List.filter_cons, h1, h2, hsame]
    · have hil : i ∈ l := by simp at hi; rcases hi with h | h; exact absurd h.symm hx; exact h
      have ih := filter_set l hnd'.2 hil h1 h2 h3
      rw [List.filter_cons, List.filter_cons, h3 x hx]
      split <;> simp [ih]

theorem left_set {n : Nat} {lst lst' : Nat → Bool} {i : Nat} (hi : i < n) (h1 : lst i = false) (h2 : lst' i = true) (h3 : ∀ j, j ≠ i → lst' j = lst j) : left n lst = left n lst' + 1 :=
  filter_set _ List.nodup_range (by simpa using hi) h1 h2 h3
end
end Go.Cn
