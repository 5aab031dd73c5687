/- The canonical semantics: a region that draws its order: every order comes to what the canonical order comes to. -/
import Derived.Test.YtfkhjbfddeahaaaCnM
set_option linter.unusedVariables false
set_option linter.unusedSimpArgs false
namespace Go.Cn
section
variable {P : Program}

/-! ### Bits -/
theorem testBit_fold (l : List Nat) : ∀ (s j : Nat), (l.foldl (fun s t => s ||| 2 ^ t) s).testBit j = (s.testBit j || decide (j ∈ l)) := by
  induction l with
  | nil => intro s j; simp
  | cons x l ih =>
    intro s j
    simp only [List.foldl_cons, ih, Nat.testBit_or, Nat.testBit_two_pow, List.mem_cons]
    by_cases h : x = j
    · subst h; simp
    · have : ¬ j = x := fun e => h e.symm
      simp [h, this]

theorem testBit_bitsOf (l : List Nat) (j : Nat) : (bitsOf l).testBit j = decide (j ∈ l) := by
  unfold bitsOf; simp only [pw2_eq]; rw [testBit_fold]; simp

theorem sub_bits {a b : Nat} (h : (a &&& b) = a) {j : Nat} (hj : a.testBit j = true) : b.testBit j = true := by
  have := congrArg (fun x : Nat => x.testBit j) h
  simp [Nat.testBit_and, hj] at this
  exact this

theorem and_zero {a b : Nat} (h : (a &&& b) = 0) {j : Nat} (ha : a.testBit j = true) (hb : b.testBit j = true) : False := by
  have := congrArg (fun x : Nat => x.testBit j) h
  simp [Nat.testBit_and, ha, hb] at this

/-! ### The table -/
theorem infosFrom_spec (ops : List Oper) : ∀ (rest : List Oper) (acc : List Inf), (infosFrom P ops rest acc).length = acc.length + rest.length ∧
    (∀ i, i < acc.length → (infosFrom P ops rest acc)[i]? = acc[i]?) ∧
    (∀ i o, rest[i]? = some o → (infosFrom P ops rest acc)[acc.length + i]? = some (infOf P ops ((infosFrom P ops rest acc).take (acc.length + i)) o))
  | [], acc => by simp [infosFrom]
  | o :: rest, acc => by
    obtain ⟨h1, h2, h3⟩ := infosFrom_spec ops rest (acc ++ [infOf P ops acc o])
    simp only [infosFrom]
    simp only [List.length_append, List.length_cons, List.length_nil] at h1 h2 h3
    refine ⟨by rw [h1, List.length_cons]; omega, ?_, ?_⟩
    · intro i hi
      rw [h2 i (by omega), List.getElem?_append_left hi]
    · intro i o' hi
      cases i with
      | zero =>
        simp at hi; subst hi
        have htake : (infosFrom P ops rest (acc ++ [infOf P ops acc o])).take acc.length = acc := by
          apply List.ext_getElem?
          intro j
          rw [List.getElem?_take]
          split
          · rename_i hj; rw [h2 j (by omega), List.getElem?_append_left hj]
          · rename_i hj; rw [List.getElem?_eq_none (by omega)]
        rw [Nat.add_zero, htake, h2 _ (by omega), List.getElem?_append_right (by omega)]
        simp
      | succ i =>
        simp at hi
        have := h3 i o' hi
        rw [show acc.length + (i + 1) = acc.length + (0 + 1) + i by omega]
        exact this

theorem infos_length (ops : List Oper) : (infos P ops).length = ops.length := by
  have := (infosFrom_spec (P := P) ops ops []).1
  simpa [infos] using this

theorem infos_at {ops : List Oper} {i : Nat} {o : Oper} (h : ops[i]? = some o) : (infos P ops)[i]? = some (infOf P ops ((infos P ops).take i) o) := by
  have := (infosFrom_spec (P := P) ops ops []).2.2 i o h
  simpa [infos] using this

/-- Which operations an operation names as ahead of it. -/
def ahead (o : Oper) : List Nat := (o.after.toList.filter (Region.binds .any)).map (·.on)

theorem am_sound {ops : List Oper} {D : Nat → Prop} (hD : ∀ i o, ops[i]? = some o → D i → ∀ j ∈ ahead o, D j) :
    ∀ (n i : Nat), i < n → ∀ f o, (infos P ops)[i]? = some f → ops[i]? = some o → (∀ j ∈ ahead o, D j) → ∀ j, f.am.testBit j = true → D j
  | 0, i, h => by omega
  | n + 1, i, hin => by
    intro f o hf ho hi j hj
    have ih := am_sound hD n
    rw [infos_at ho] at hf
    cases hf
    simp only [infOf] at hj
    have key : ∀ (l : List Edge) (s : Nat), (∀ e ∈ l, D e.on) → (∀ j, s.testBit j = true → D j) →
        ∀ j, (l.foldl (fun s e => s ||| 2 ^ e.on ||| ((((infos P ops).take i)[e.on]?).map (·.am)).getD 0) s).testBit j = true → D j := by
      intro l
      induction l with
      | nil => intro s _ h2 j hj; exact h2 j hj
      | cons e l ihl =>
        intro s h1 h2 j hj
        simp only [List.foldl_cons] at hj
        refine ihl _ (fun e' he' => h1 e' (by simp [he'])) ?_ j hj
        intro j hj
        simp only [Nat.testBit_or, Nat.testBit_two_pow, Bool.or_eq_true, decide_eq_true_eq] at hj
        rcases hj with (hj | hj) | hj
        · exact h2 j hj
        · rw [← hj]; exact h1 e (by simp)
        · rw [List.getElem?_take] at hj
          split at hj
          · rename_i hlt
            cases hfe : (infos P ops)[e.on]? with
            | none => simp [hfe] at hj
            | some fe =>
              simp [hfe] at hj
              have hlen : e.on < ops.length := by rw [← infos_length (P := P)]; exact (List.getElem?_eq_some_iff.1 hfe).1
              have hoe := List.getElem?_eq_getElem hlen
              refine ih e.on (by omega) fe _ hfe hoe ?_ j hj
              exact hD e.on _ hoe (h1 e (by simp))
          · simp at hj
    refine key _ 0 ?_ (by simp) j hj
    intro e he
    exact hi _ (List.mem_map.2 ⟨e, he, rfl⟩)

/-! ### The order -/
/-- What 'orderOk' says of the operation that stands next. -/
structure StepOk (P : Program) (ops : List Oper) (done : List Nat) (i : Nat) (o : Oper) (f : Inf) : Prop where
  op : ops[i]? = some o
  inf : (infos P ops)[i]? = some f
  new : i ∉ done
  ahead : ∀ j ∈ ahead o, j ∈ done
  effs : ∀ j ∈ done, ∀ oj, ops[j]? = some oj → isEff P oj.op = true → f.am.testBit j = true
  clash : ∀ j ∈ done, ∀ g, (infos P ops)[j]? = some g → clash g f = true → f.am.testBit j = true

structure Ord (P : Program) (ops : List Oper) (rest done : List Nat) (doneM effs : Nat) : Prop where
  ok : orderOk (infos P ops) rest done doneM effs = true
  doneM : ∀ j, doneM.testBit j = decide (j ∈ done)
  effs : ∀ j, effs.testBit j = true ↔ j ∈ done ∧ ∃ o, ops[j]? = some o ∧ isEff P o.op = true

theorem Ord.step {ops : List Oper} {i : Nat} {rest done : List Nat} {doneM effs : Nat} (h : Ord P ops (i :: rest) done doneM effs) :
    ∃ o f, StepOk P ops done i o f ∧ Ord P ops rest (i :: done) (doneM ||| 2 ^ i) (if f.eff then effs ||| 2 ^ i else effs) ∧ f.eff = isEff P o.op := by
  have hok := h.ok
  simp only [orderOk] at hok
  cases hf : (infos P ops)[i]? with
  | none => simp [hf] at hok
  | some f =>
    simp only [hf, Bool.and_eq_true, beq_iff_eq, Bool.not_eq_true'] at hok
    obtain ⟨⟨⟨⟨h1, h2⟩, h3⟩, h4⟩, h5⟩ := hok
    have hlen : i < ops.length := by rw [← infos_length (P := P)]; exact (List.getElem?_eq_some_iff.1 hf).1
    have ho := List.getElem?_eq_getElem hlen
    have hfi := infos_at (P := P) ho
    rw [hf] at hfi
    have hfeq : f = infOf P ops ((infos P ops).take i) ops[i] := by simpa using hfi
    have heff : f.eff = isEff P ops[i].op := by rw [hfeq]; rfl
    refine ⟨ops[i], f, ⟨ho, hf, ?_, ?_, ?_, ?_⟩, ⟨h5, ?_, ?_⟩, heff⟩
    · have := h.doneM i
      rw [h1] at this; simpa using this.symm
    · intro j hj
      have hem : f.em.testBit j = true := by
        rw [hfeq]; simp only [infOf]; rw [testBit_bitsOf]; simpa [Cn.ahead] using hj
      have := sub_bits h2 hem
      rw [h.doneM] at this; simpa using this
    · intro j hj oj hoj he
      have : effs.testBit j = true := (h.effs j).2 ⟨hj, oj, hoj, he⟩
      exact sub_bits h3 this
    · intro j hj g hg hc
      have := List.all_eq_true.1 h4 j hj
      simp only [hg, Bool.or_eq_true, Bool.not_eq_true'] at this
      rcases this with hh | hh
      · rw [hc] at hh; simp at hh
      · exact hh
    · intro j
      rw [Nat.testBit_or, Nat.testBit_two_pow, h.doneM]
      by_cases hj : i = j
      · subst hj; simp
      · have : ¬ j = i := fun e => hj e.symm
        simp [hj, this]
    · intro j
      cases he : f.eff with
      | true =>
        simp only [if_true, Nat.testBit_or, Nat.testBit_two_pow, Bool.or_eq_true, decide_eq_true_eq, h.effs]
        constructor
        · rintro (⟨h6, h7⟩ | rfl)
          · exact ⟨by simp [h6], h7⟩
          · exact ⟨by simp, _, ho, by rw [← heff, he]⟩
        · rintro ⟨h6, h7⟩
          simp at h6
          rcases h6 with rfl | h6
          · right; rfl
          · left; exact ⟨h6, h7⟩
      | false =>
        simp only [Bool.false_eq_true, if_false, h.effs]
        constructor
        · rintro ⟨h6, h7⟩; exact ⟨by simp [h6], h7⟩
        · rintro ⟨h6, o', ho', h7⟩
          simp at h6
          rcases h6 with rfl | h6
          · rw [ho] at ho'; cases ho'; rw [← heff, he] at h7; simp at h7
          · exact ⟨h6, o', ho', h7⟩

theorem Ord.cover {ops : List Oper} : ∀ {rest done : List Nat} {doneM effs : Nat}, Ord P ops rest done doneM effs → ∀ i, i < ops.length → i ∈ done ∨ i ∈ rest
  | [], done, doneM, effs, h, i, hi => by
    left
    have hok := h.ok
    simp only [orderOk, beq_iff_eq, infos_length] at hok
    have := h.doneM i
    rw [hok, Nat.testBit_two_pow_sub_one] at this
    simpa [hi] using this.symm
  | j :: rest, done, doneM, effs, h, i, hi => by
    obtain ⟨o, f, _, h2, _⟩ := h.step
    rcases h2.cover i hi with h3 | h3
    · simp at h3
      rcases h3 with rfl | h3
      · right; simp
      · left; exact h3
    · right; simp [h3]
end
end Go.Cn
