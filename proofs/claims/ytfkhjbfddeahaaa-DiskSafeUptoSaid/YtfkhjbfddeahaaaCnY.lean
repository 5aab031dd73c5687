/- The symbolic run of a region is sound. -/
import Derived.Test.YtfkhjbfddeahaaaCnX
set_option linter.unusedVariables false
set_option linter.unusedSimpArgs false
namespace Go.Cn
section
variable {P : Program} {L : List Oper}

theorem eqw_eq (b w : Bool) : eqw b w = (b == w) := by cases b <;> cases w <;> rfl

theorem wOf_cons (S : SS) (j : Nat) (w : Bool) (r : Ch) : wOf L S ((j, w) :: r) = ((bOf L S j == w) && wOf L S r) := by
  cases r with
  | nil => simp [wOf, eqw_eq]
  | cons x r => simp only [wOf, eqw_eq, andB]

theorem under_iff {S : SS} {ci : Ch} {c : Prop} : under L S ci c ↔ (wOf L S ci = true → c) := by
  cases ci with
  | nil => simp [under, wOf]
  | cons x r => rfl

theorem fin_eq (S : SS) (x : Ch × Value) : fin L S x = if wOf L S x.1 = true then x.2 else undef := by
  unfold fin
  split
  · rename_i h; simp [h, wOf]
  · cases wOf L S x.1 <;> rfl

/-- A chain that the state bears out. -/
def WFC (L : List Oper) (S : SS) (done : List Nat) : Ch → Prop
  | [] => True
  | (j, w) :: r => (j ∈ done ∧ ∃ d b, dstOf L j = some d ∧ d < S.length ∧ S.at d = (r, .bool b)) ∧ WFC L S done r

def InvS (L : List Oper) (S : SS) (done : List Nat) : Prop := ∀ t, WFC L S done (S.at t).1

theorem at_put (S : SS) (d : Option Tmp) (x : Ch × Value) (t : Nat) : (S.put d x).at t = if d = some t ∧ t < S.length then x else S.at t := by
  cases d with
  | none => simp [SS.put, SS.at]
  | some d =>
    simp only [SS.put, SS.at, List.getD_eq_getElem?_getD, List.getElem?_set, Option.some.injEq]
    by_cases h : d = t
    · subst h
      by_cases hl : d < S.length
      · simp [hl]
      · simp [hl]
    · simp [h]

theorem put_len (S : SS) (d : Option Tmp) (x : Ch × Value) : (S.put d x).length = S.length := by
  cases d <;> simp [SS.put]

theorem newDst_ne {o : Oper} {done : List Nat} (h : newDst L done o = true) {j d : Nat} (hj : j ∈ done) (hd : dstOf L j = some d) : o.dst ≠ some d := by
  unfold newDst at h
  cases e : o.dst with
  | none => simp
  | some d' =>
    rw [e] at h
    simp only [List.all_eq_true, decide_eq_true_eq] at h
    intro hh
    exact h j hj (by rw [hd]; exact hh.symm)

theorem WFC.put {S : SS} {done : List Nat} {o : Oper} {x : Ch × Value} {i : Nat} (hn : newDst L done o = true) : ∀ {ch : Ch}, WFC L S done ch → WFC L (S.put o.dst x) (i :: done) ch
  | [], _ => trivial
  | (j, w) :: r, ⟨⟨h1, d, b, h2, h3, h4⟩, h5⟩ => ⟨⟨by simp [h1], d, b, h2, by rw [put_len]; exact h3, by rw [at_put, if_neg (fun hh => newDst_ne hn h1 h2 hh.1)]; exact h4⟩, WFC.put hn h5⟩

theorem wOf_put {S : SS} {done : List Nat} {o : Oper} {x : Ch × Value} (hn : newDst L done o = true) : ∀ {ch : Ch}, WFC L S done ch → wOf L (S.put o.dst x) ch = wOf L S ch
  | [], _ => rfl
  | (j, w) :: r, ⟨⟨h1, d, b, h2, h3, h4⟩, h5⟩ => by
    rw [wOf_cons, wOf_cons, wOf_put hn h5]
    congr 2
    unfold bOf
    rw [h2]
    simp only
    rw [at_put, if_neg (fun hh => newDst_ne hn h1 h2 hh.1)]

theorem chainOf_spec {S : SS} {done : List Nat} (hi : InvS L S done) {o : Oper} {ci : Ch} (h : chainOf L S done o = some ci) : WFC L S done ci := by
  unfold chainOf at h
  split at h
  · simp at h; subst h; trivial
  · rename_i j w hg
    split at h
    · rename_i hd
      split at h
      · rename_i d hj
        split at h
        · rename_i hb
          simp at h; subst h
          simp only [Bool.and_eq_true, decide_eq_true_eq] at hb
          refine ⟨⟨by simpa using hd, d, boolOf (S.at d).2, hj, hb.1, ?_⟩, hi d⟩
          generalize S.at d = cv at hb ⊢
          obtain ⟨c, v⟩ := cv
          simp only at hb ⊢
          cases v <;> simp [isBool] at hb
          rfl
        · simp at h
      · simp at h
    · simp at h

theorem real_at (S : SS) (t : Nat) : (real L S).getD t undef = fin L S (S.at t) := by
  unfold real SS.at
  rw [List.getD_eq_getElem?_getD, List.getD_eq_getElem?_getD, List.getElem?_map]
  cases S[t]? with
  | none => rfl
  | some x => rfl

theorem vals_at (S : SS) (t : Nat) : S.vals.getD t undef = (S.at t).2 := by
  unfold SS.vals SS.at
  rw [List.getD_eq_getElem?_getD, List.getD_eq_getElem?_getD, List.getElem?_map]
  cases S[t]? with
  | none => rfl
  | some x => rfl

theorem real_put {S : SS} {done : List Nat} {o : Oper} {ci : Ch} {v : Value} (hi : InvS L S done) (hn : newDst L done o = true) (hc : WFC L S done ci) :
    real L (S.put o.dst (ci, v)) = put (real L S) o.dst (if wOf L S ci = true then v else undef) := by
  apply List.ext_getElem?
  intro t
  have hl1 : (real L (S.put o.dst (ci, v))).length = S.length := by simp [real, put_len]
  have hl2 : (put (real L S) o.dst (if wOf L S ci = true then v else undef)).length = S.length := by rw [put_length]; simp [real]
  by_cases ht : t < S.length
  · have e1 : (real L (S.put o.dst (ci, v)))[t]? = some ((real L (S.put o.dst (ci, v))).getD t undef) := by rw [List.getD_eq_getElem?_getD, List.getElem?_eq_getElem (by omega)]; rfl
    have e2 : (put (real L S) o.dst (if wOf L S ci = true then v else undef))[t]? = some ((put (real L S) o.dst (if wOf L S ci = true then v else undef)).getD t undef) := by rw [List.getD_eq_getElem?_getD, List.getElem?_eq_getElem (by omega)]; rfl
    rw [e1, e2, put_get, real_at, real_at, at_put]
    congr 1
    by_cases hd : o.dst = some t
    · rw [if_pos ⟨hd, ht⟩, if_pos ⟨hd, by simpa [real] using ht⟩, fin_eq, wOf_put hn hc]
    · rw [if_neg (fun hh => hd hh.1), if_neg (fun hh => hd hh.1), fin_eq, fin_eq, wOf_put hn (hi t)]
  · rw [List.getElem?_eq_none (by omega), List.getElem?_eq_none (by omega)]

theorem InvS.put {S : SS} {done : List Nat} {o : Oper} {ci : Ch} {v : Value} {i : Nat} (hi : InvS L S done) (hn : newDst L done o = true) (hc : WFC L S done ci) : InvS L (S.put o.dst (ci, v)) (i :: done) := by
  intro t
  rw [at_put]
  split
  · exact WFC.put hn hc
  · exact WFC.put hn (hi t)

theorem wOf_suffix {S : SS} : ∀ {ci r : Ch}, r <:+ ci → wOf L S ci = true → wOf L S r = true
  | [], r, h, hw => by simp at h; subst h; rfl
  | (j, w) :: ci, r, h, hw => by
    rcases List.suffix_cons_iff.1 h with h | h
    · rw [h]; exact hw
    · rw [wOf_cons] at hw
      simp only [Bool.and_eq_true] at hw
      exact wOf_suffix h hw.2

theorem okSlot_ev {S : SS} {ci : Ch} (hw : wOf L S ci = true) {x : Operand} (h : okSlot S ci x = true) : ev (real L S) x = ev S.vals x := by
  cases x with
  | tmp t =>
    simp only [okSlot, List.isSuffixOf_iff_suffix] at h
    simp only [ev]
    rw [real_at, vals_at, fin_eq, if_pos (wOf_suffix h hw)]
  | _ => rfl

theorem okArm_ev {S : SS} {ci : Ch} (hw : wOf L S ci = true) {c x : Operand} {b : Bool} (hc : ev S.vals c = .bool b) (h : okArm L S ci c b x = true) : ev (real L S) x = ev S.vals x := by
  unfold okArm at h
  rw [Bool.or_eq_true] at h
  rcases h with h | h
  · exact okSlot_ev hw h
  · split at h
    · rename_i dc t
      split at h
      · rename_i j w r hr
        simp only [Bool.and_eq_true, decide_eq_true_eq, beq_iff_eq, List.isSuffixOf_iff_suffix] at h
        obtain ⟨⟨rfl, hd⟩, hs⟩ := h
        simp only [ev] at hc ⊢
        rw [real_at, vals_at, fin_eq, hr, wOf_cons, wOf_suffix hs hw]
        have : bOf L S j = w := by
          unfold bOf
          rw [hd]
          simp only
          rw [← vals_at, hc]
          rfl
        simp [this]
      · simp at h
    · simp at h

theorem wants_real {S : SS} {done : List Nat} (hi : InvS L S done) {o : Oper} {ci : Ch} (h : chainOf L S done o = some ci) : wants L (real L S) o = some (wOf L S ci) := by
  unfold chainOf at h
  unfold wants
  split at h
  · rename_i hg; simp at h; subst h; rw [hg]; rfl
  · rename_i j w hg
    rw [hg]
    split at h
    · rename_i hdn
      split at h
      · rename_i d hj
        split at h
        · rename_i hb
          simp at h; subst h
          simp only [Bool.and_eq_true, decide_eq_true_eq] at hb
          simp only
          have hj' : (L[j]?).bind (·.dst) = some d := hj
          rw [hj']
          simp only
          rw [real_at, fin_eq, wOf_cons]
          have hbo : bOf L S j = boolOf (S.at d).2 := by unfold bOf; rw [hj]
          rw [hbo]
          generalize S.at d = cv at hb ⊢
          obtain ⟨c, v⟩ := cv
          simp only at hb ⊢
          cases v <;> simp [isBool] at hb
          rename_i b
          by_cases hwr : wOf L S c = true
          · simp [hwr, wantsV, boolOf]
          · simp [hwr, wantsV, boolOf, undef]
        · simp at h
      · simp at h
    · simp at h
end
end Go.Cn
