/- The canonical semantics: slicing, places, parts, aggregates: each answers in the model as here. -/
import Derived.Test.YtfkhjbfddeahaaaCnD
set_option linter.unusedVariables false
set_option linter.unusedSimpArgs false
namespace Go.Cn
section
variable {P : Program} {σ : Sg}

theorem add_plain (g j n : Nat) : (⟨g, j, none⟩ : Addr).add n = ⟨g, j + n, none⟩ := by unfold Addr.add; split <;> simp_all

/-! ### slicing -/
theorem bound_none (d most : Nat) : bound none d most = some d := rfl

theorem bound_some {v : Value} {d most n : Nat} (h : bound (some v) d most = some n) : ∃ k i, v = .int k i ∧ 0 ≤ i ∧ i ≤ (most : Int) ∧ n = i.toNat := by
  unfold bound at h
  split at h
  · rename_i hh; simp at hh
  · rename_i k i hh
    injection hh with hh
    split at h
    · rename_i hc; injection h with h; exact ⟨k, i, hh, hc.1, hc.2, h.symm⟩
    · simp at h
  · simp at h

theorem sliceBound_run {v v' : Value} {d most most' n : Nat} (h : bound (some v) d most = some n) (hv : VRel σ v v') (hm : most ≤ most') (code : BoundsCode) (w : World) :
    (Instr.sliceBound v' most' code).run P w = .ok n w ∧ n ≤ most := by
  obtain ⟨k, i, rfl, h0, h1, rfl⟩ := bound_some h
  obtain rfl := hv.int_inv
  have h2 : i ≤ (most' : Int) := by omega
  exact ⟨by simp [Instr.sliceBound, asIntOf, h0, h2], by omega⟩

/-- Values that may be missing. -/
def ORel (σ : Sg) : Option Value → Option Value → Prop
  | none, none => True
  | some x, some y => VRel σ x y
  | _, _ => False

theorem ev_opt {tm : List Value} {a : Act} (h : TRel σ tm a.tmps) (x : Option Operand) : ORel σ (x.map (ev tm)) (x.map a.eval) := by
  cases x with
  | none => trivial
  | some x => exact ev_rel h x

theorem sliceBounds_run {len c c' : Nat} {lo hi mx lo' hi' mx' : Option Value} {l h m : Nat} (hb : bounds len c lo hi mx = some (l, h, m)) (hlen : len ≤ c) (hc : c ≤ c')
    (hlo : ORel σ lo lo') (hhi : ORel σ hi hi') (hmx : ORel σ mx mx') (isSlice : Bool) (w : World) :
    (Instr.sliceBounds isSlice len c' lo' hi' mx').run P w = .ok (l, h, if mx.isSome then m else c') w ∧ l ≤ h ∧ h ≤ m ∧ m ≤ c ∧ (mx = none → m = c) := by
  unfold bounds at hb
  cases mx with
  | none =>
    cases mx' with
    | some _ => exact hmx.elim
    | none =>
      simp only [bound_none, Option.isSome_none, Bool.false_eq_true, if_false] at hb
      cases hi with
      | none =>
        cases hi' with
        | some _ => exact hhi.elim
        | none =>
          simp only [bound_none] at hb
          cases lo with
          | none =>
            cases lo' with
            | some _ => exact hlo.elim
            | none =>
              simp only [bound_none] at hb
              simp at hb
              obtain ⟨rfl, rfl, rfl⟩ := hb
              exact ⟨by simp [Instr.sliceBounds], by omega, hlen, Nat.le_refl _, fun _ => rfl⟩
          | some lv =>
            cases lo' with
            | none => exact hlo.elim
            | some lv' =>
              cases hl : bound (some lv) 0 len with
              | none => simp [hl] at hb
              | some n =>
                simp [hl] at hb
                obtain ⟨rfl, rfl, rfl⟩ := hb
                obtain ⟨r, hr⟩ := sliceBound_run (P := P) hl hlo (Nat.le_refl _) .sliceB w
                exact ⟨by simp [Instr.sliceBounds, r], hr, hlen, Nat.le_refl _, fun _ => rfl⟩
      | some hv =>
        cases hi' with
        | none => exact hhi.elim
        | some hv' =>
          cases hh : bound (some hv) len c with
          | none => simp [hh] at hb
          | some hn =>
            simp only [hh] at hb
            obtain ⟨rh, hhr⟩ := sliceBound_run (P := P) hh hhi hc (if isSlice then .sliceAcap else .sliceAlen) w
            cases lo with
            | none =>
              cases lo' with
              | some _ => exact hlo.elim
              | none =>
                simp [bound_none] at hb
                obtain ⟨rfl, rfl, rfl⟩ := hb
                exact ⟨by simp [Instr.sliceBounds, rh], by omega, hhr, Nat.le_refl _, fun _ => rfl⟩
            | some lv =>
              cases lo' with
              | none => exact hlo.elim
              | some lv' =>
                cases hl : bound (some lv) 0 hn with
                | none => simp [hl] at hb
                | some n =>
                  simp [hl] at hb
                  obtain ⟨rfl, rfl, rfl⟩ := hb
                  obtain ⟨r, hr⟩ := sliceBound_run (P := P) hl hlo (Nat.le_refl _) .sliceB w
                  exact ⟨by simp [Instr.sliceBounds, rh, r], hr, hhr, Nat.le_refl _, fun _ => rfl⟩
  | some mv =>
    cases mx' with
    | none => exact hmx.elim
    | some mv' =>
      cases hmm : bound (some mv) c c with
      | none => simp [hmm] at hb
      | some mn =>
        simp only [hmm, Option.isSome_some, if_true] at hb
        obtain ⟨rm, hmr⟩ := sliceBound_run (P := P) hmm hmx hc (if isSlice then .slice3Acap else .slice3Alen) w
        cases hi with
        | none => simp at hb
        | some hv =>
          cases hi' with
          | none => exact hhi.elim
          | some hv' =>
            simp only at hb
            cases hh : bound (some hv) len mn with
            | none => simp [hh] at hb
            | some hn =>
              simp only [hh] at hb
              obtain ⟨rh, hhr⟩ := sliceBound_run (P := P) hh hhi (Nat.le_refl _) .slice3B w
              cases lo with
              | none =>
                cases lo' with
                | some _ => exact hlo.elim
                | none =>
                  simp [bound_none] at hb
                  obtain ⟨rfl, rfl, rfl⟩ := hb
                  exact ⟨by simp [Instr.sliceBounds, rm, rh], by omega, hhr, hmr, by simp⟩
              | some lv =>
                cases lo' with
                | none => exact hlo.elim
                | some lv' =>
                  cases hl : bound (some lv) 0 hn with
                  | none => simp [hl] at hb
                  | some n =>
                    simp [hl] at hb
                    obtain ⟨rfl, rfl, rfl⟩ := hb
                    obtain ⟨r, hr⟩ := sliceBound_run (P := P) hl hlo (Nat.le_refl _) .slice3C w
                    exact ⟨by simp [Instr.sliceBounds, rm, rh, r], hr, hhr, hmr, by simp⟩

theorem cslice_run {t : TypeId} {x x' : Value} {lo hi mx lo' hi' mx' : Option Value} {v : Value} (h : cslice P t x lo hi mx = some v) (hx : VRel σ x x')
    (hlo : ORel σ lo lo') (hhi : ORel σ hi hi') (hmx : ORel σ mx mx') (w : World) : ∃ v', (Instr.sliceAt t x' lo' hi' mx').run P w = .ok v' w ∧ VRel σ v v' := by
  unfold cslice at h
  split at h
  · rename_i s hu
    obtain rfl := hx.string_inv
    cases mx with
    | some _ => simp at h
    | none =>
      cases mx' with
      | some _ => exact hmx.elim
      | none =>
        simp only at h
        split at h
        · rename_i l hh m hb
          simp at h; subst h
          obtain ⟨r, _⟩ := sliceBounds_run (P := P) hb (Nat.le_refl _) (Nat.le_refl _) hlo hhi (show ORel σ none none from trivial) false w
          exact ⟨_, by simp [Instr.sliceAt, Instr.slice, run_underlying hu, r], .string _⟩
        · simp at h
  · rename_i el len c hu
    obtain ⟨rfl, rfl, rfl⟩ := hx.snil_inv
    split at h
    · rename_i l hh m n hb hs
      simp at h; subst h
      obtain ⟨r, h1, h2, h3, h4⟩ := sliceBounds_run (P := P) hb (Nat.le_refl _) (Nat.le_refl _) hlo hhi hmx true w
      have e1 : m = 0 := by omega
      have e2 : hh = 0 := by omega
      have e3 : l = 0 := by omega
      subst e1; subst e2; subst e3
      refine ⟨.slice none 0 0, ?_, .snil⟩
      simp [Instr.sliceAt, Instr.slice, run_underlying hu, r, run_size hs]
    · simp at h
  · rename_i el b o sp len c hu
    obtain ⟨a', c', e, rfl, he, hl, hc, ha, hx'⟩ := hx.slice_inv
    simp only at he ha hx'
    split at h
    · rename_i l hh m n hb hs
      obtain ⟨r, h1, h2, h3, h4⟩ := sliceBounds_run (P := P) hb hl hc hlo hhi hmx true w
      have hadd : c' ≠ 0 → a'.add (l * n) = ⟨e.rb, e.ro + (o + l * n), none⟩ := by
        intro h0
        rcases ha with h0' | rfl
        · exact absurd h0' h0
        · rw [add_plain]; simp [Nat.add_assoc]
      by_cases hm : mx.isSome = true
      · simp only [hm, if_true] at h r
        simp at h; subst h
        refine ⟨.slice (some (if m = l then a' else a'.add (l * n))) (hh - l) (m - l), ?_, .sexact b (o + l * n) (hh - l) (m - l) e _ he (by omega) ?_⟩
        · by_cases hml : m = l <;> simp [Instr.sliceAt, Instr.slice, run_underlying hu, r, run_size hs, hml]
        · by_cases hml : m = l
          · left; omega
          · right; rw [if_neg hml]; exact hadd (by omega)
      · simp only [hm, if_false, Bool.false_eq_true] at h r
        have hmn : m = c := h4 (by cases mx <;> simp_all)
        subst hmn
        split at h
        · rename_i hsp
          simp at h; subst h
          refine ⟨.slice (some (if c' = l then a' else a'.add (l * n))) (hh - l) (c' - l), ?_, ?_⟩
          · by_cases hml : c' = l
            · subst hml; simp [Instr.sliceAt, Instr.slice, run_underlying hu, r, run_size hs]
            · simp [Instr.sliceAt, Instr.slice, run_underlying hu, r, run_size hs, hml]
          · rcases hx' with ⟨hs1, hcc⟩ | ⟨k, hs1, hk⟩
            · subst hcc
              rw [hs1]
              refine .sexact b (o + l * n) (hh - l) (m - l) e _ he (by omega) ?_
              by_cases hml : m = l
              · left; omega
              · right; rw [if_neg hml]; exact hadd (by omega)
            · rcases hsp with hsp | hsp
              · rw [hs1] at hsp; simp at hsp
              · rw [hs1] at hsp; simp at hsp; subst hsp
                rw [hs1]
                refine .sopen b (o + l * k) k (hh - l) (m - l) (c' - l) e _ he (by omega) (by omega) ?_
                by_cases hml : c' = l
                · left; omega
                · right; rw [if_neg hml]
                  refine ⟨hadd (by omega), ?_⟩
                  have hb : e.ro + o + c' * k ≤ e.rs := by rcases hk with hk | hk <;> first | omega | exact hk
                  have : l * k + (c' - l) * k = c' * k := by rw [← Nat.add_mul]; congr 1; omega
                  omega
        · simp at h
    · simp at h
  · rename_i len el b o hu
    obtain ⟨_, e, he, rfl⟩ := hx.ptr_inv
    split at h
    · rename_i l hh m n hb hs
      simp at h; subst h
      obtain ⟨r, h1, h2, h3, h4⟩ := sliceBounds_run (P := P) hb (Nat.le_refl _) (Nat.le_refl _) hlo hhi hmx false w
      have hr : (if mx.isSome = true then m else len) = m := by
        cases mx with
        | none => simp [h4 rfl]
        | some _ => simp
      rw [hr] at r
      refine ⟨.slice (some (if m = l then ⟨e.rb, e.ro + o, none⟩ else (⟨e.rb, e.ro + o, none⟩ : Addr).add (l * n))) (hh - l) (m - l), ?_, .sexact b (o + l * n) (hh - l) (m - l) e _ he (by omega) ?_⟩
      · simp [Instr.sliceAt, run_underlying hu, r, run_size hs, Instr.sureAddr]
      · by_cases hml : m = l
        · left; omega
        · right; rw [if_neg hml, add_plain]; simp [Nat.add_assoc]
    · simp at h
  · simp at h

/-! ### places -/
theorem fieldPlace_run {e : En} {o n : Nat} {f : Field} (hs : size? P f.type = some n) (hn : n ≠ 0) (w : World) :
    (fieldPlace ⟨e.rb, e.ro + o, none⟩ f).run P w = .ok ⟨e.rb, e.ro + (o + f.offset), none⟩ w := by
  simp [fieldPlace, run_size hs, hn, add_plain, Nat.add_assoc]

theorem cfieldAddr_run {s : TypeId} {x x' : Value} {f : Nat} {v : Value} (h : cfieldAddr P s x f = some v) (hx : VRel σ x x') (w : World) :
    ∃ v', (Instr.fieldAt s x' f).run P w = .ok v' w ∧ VRel σ v v' := by
  unfold cfieldAddr at h
  split at h
  · rename_i fs b o hu
    obtain ⟨_, e, he, rfl⟩ := hx.ptr_inv
    cases hf : fs[f]? with
    | none => simp [hf] at h
    | some fd =>
      simp only [hf] at h
      cases hs : size? P fd.type with
      | none => simp [hs] at h
      | some n =>
        simp only [hs] at h
        by_cases hn : n = 0
        · simp [hn] at h
        · simp [hn, ptr] at h; subst h
          exact ⟨_, by simp [Instr.fieldAt, run_underlying hu, hf, Instr.sureAddr, fieldPlace_run hs hn], .ptr b (o + fd.offset) e he⟩
  · simp at h

theorem cindexAddr_run {t : TypeId} {x x' ix ix' : Value} {v : Value} (h : cindexAddr P t x ix = some v) (hx : VRel σ x x') (hi : VRel σ ix ix') (w : World) :
    ∃ v', (Instr.indexAt t x' ix').run P w = .ok v' w ∧ VRel σ v v' := by
  unfold cindexAddr at h
  split at h
  · rename_i k i
    obtain rfl := hi.int_inv
    split at h
    · rename_i len el b o hu
      obtain ⟨_, e, he, rfl⟩ := hx.ptr_inv
      by_cases hc : 0 ≤ i ∧ i < (len : Int)
      · rw [if_pos hc] at h
        cases hs : size? P el with
        | none => simp [hs] at h
        | some n =>
          simp [hs, ptr] at h; subst h
          refine ⟨.pointer (some ⟨e.rb, e.ro + (o + i.toNat * n), none⟩), ?_, .ptr b (o + i.toNat * n) e he⟩
          simp [Instr.indexAt, asIntOf, run_underlying hu, Instr.sureAddr, hc, run_size hs, add_plain, Nat.add_assoc]
      · simp [hc] at h
    · rename_i el b o sp len c hu
      obtain ⟨a', c', e, rfl, he, hl, hcc, ha, _⟩ := hx.slice_inv
      simp only at he ha
      by_cases hc : 0 ≤ i ∧ i < (len : Int)
      · rw [if_pos hc] at h
        cases hs : size? P el with
        | none => simp [hs] at h
        | some n =>
          simp [hs, ptr] at h; subst h
          have ha' : a' = ⟨e.rb, e.ro + o, none⟩ := by rcases ha with h0 | h0 <;> first | omega | exact h0
          subst ha'
          refine ⟨.pointer (some ⟨e.rb, e.ro + (o + i.toNat * n), none⟩), ?_, .ptr b (o + i.toNat * n) e he⟩
          simp [Instr.indexAt, asIntOf, run_underlying hu, hc, run_size hs, add_plain, Nat.add_assoc]
      · simp [hc] at h
    · simp at h
  · simp at h

/-! ### parts -/
theorem cfield_run {t : TypeId} {x x' : Value} {f : Nat} {v : Value} (h : cfield P t x f = some v) (hx : VRel σ x x') (w : World) :
    ∃ v', (Instr.field t x' f).run P w = .ok v' w ∧ VRel σ v v' := by
  unfold cfield at h
  split at h
  · rename_i fs cs hu
    obtain ⟨cs', rfl, ha⟩ := hx.agg_inv
    cases hf : fs[f]? with
    | none => simp [hf] at h
    | some fd =>
      simp only [hf] at h
      obtain ⟨v', hr, hv⟩ := part_rel h ha w
      exact ⟨v', by simp [Instr.field, run_underlying hu, hf, asAgg, hr], hv⟩
  · simp at h

theorem cindex_run {t : TypeId} {x x' ix ix' : Value} {v : Value} (h : cindex P t x ix = some v) (hx : VRel σ x x') (hi : VRel σ ix ix') (w : World) :
    ∃ v', (Instr.index t x' ix').run P w = .ok v' w ∧ VRel σ v v' := by
  unfold cindex at h
  split at h
  · rename_i k i
    obtain rfl := hi.int_inv
    split at h
    · rename_i len el cs hu
      obtain ⟨cs', rfl, ha⟩ := hx.agg_inv
      by_cases hc : 0 ≤ i ∧ i < (len : Int)
      · rw [if_pos hc] at h
        cases hs : size? P el with
        | none => simp [hs] at h
        | some n =>
          simp only [hs] at h
          obtain ⟨v', hr, hv⟩ := part_rel h ha w
          exact ⟨v', by simp [Instr.index, asIntOf, run_underlying hu, hc, run_size hs, hr], hv⟩
      · simp [hc] at h
    · rename_i s hu
      obtain rfl := hx.string_inv
      by_cases hc : 0 ≤ i
      · rw [if_pos hc] at h
        cases hs : s[i.toNat]? with
        | none => simp [hs] at h
        | some b =>
          simp [hs] at h; subst h
          exact ⟨_, by simp [Instr.index, asIntOf, run_underlying hu, hc, hs], .int _ _⟩
      · simp [hc] at h
    · simp at h
  · simp at h

/-! ### lengths, conversions -/
theorem clen_run {t : TypeId} {x x' v : Value} (h : clen P t x = some v) (hx : VRel σ x x') {ts : Array TypeId} {as : Array Value} {ty : TypeId} (ht : ts[0]? = some t) (ha : as[0]? = some x') (w : World) :
    (Builtin.len_ ts ty as).run P w = .ok v w := by
  have e1 : (ts[0]?, as[0]?) = (some t, some x') := by rw [ht, ha]
  unfold clen at h
  split at h
  · rename_i s hu; obtain rfl := hx.string_inv; simp at h; subst h; simp [Builtin.len_, ht, ha, run_underlying hu, goInt]
  · rename_i n el hu; simp at h; subst h; simp [Builtin.len_, ht, ha, run_underlying hu, goInt]
  · rename_i el a n c hu
    simp at h; subst h
    cases a with
    | none => obtain ⟨rfl, rfl, rfl⟩ := hx.snil_inv; simp [Builtin.len_, ht, ha, run_underlying hu, goInt]
    | some a => obtain ⟨a', c', e, rfl, _⟩ := hx.slice_inv; simp [Builtin.len_, ht, ha, run_underlying hu, goInt]
  · rename_i k el hu; obtain rfl := hx.mnil_inv; simp at h; subst h; simp [Builtin.len_, ht, ha, run_underlying hu, goInt]
  · rename_i arr hu
    split at h
    · rename_i n el hu2; simp at h; subst h; simp [Builtin.len_, ht, ha, run_underlying hu, run_underlying hu2, goInt]
    · simp at h
  · simp at h

theorem cconv_run {src dst : TypeId} {x x' v : Value} (h : cconv P src dst x = some v) (hx : VRel σ x x') (w : World) : (convert src dst x').run P w = .ok v w := by
  unfold cconv at h
  split at h
  · rename_i d k k' n hu1 hu2
    obtain rfl := hx.int_inv
    simp at h; subst h
    simp [convert, run_underlying hu1, run_underlying hu2, Conv.intToInt]
  · rename_i d s hu1 hu2
    obtain rfl := hx.string_inv
    simp at h; subst h
    simp [convert, run_underlying hu1, run_underlying hu2]
  · simp at h

theorem cmax_run {x y x' y' v : Value} (h : cmax x y = some v) (hx : VRel σ x x') (hy : VRel σ y y') (w : World) : (Builtin.max2 x' y').run P w = .ok v w := by
  unfold cmax at h
  split at h
  · obtain rfl := hx.int_inv; obtain rfl := hy.int_inv
    split at h
    · rename_i k a k' b hk
      subst hk
      simp at h; subst h
      simp only [Builtin.max2, Sem.run_pure]
      by_cases hab : a ≥ b
      · rw [if_pos hab, if_neg (by omega)]
      · rw [if_neg hab, if_pos (by omega)]
    · simp at h
  · simp at h

theorem cmin_run {x y x' y' v : Value} (h : cmin x y = some v) (hx : VRel σ x x') (hy : VRel σ y y') (w : World) : (Builtin.min2 x' y').run P w = .ok v w := by
  unfold cmin at h
  split at h
  · obtain rfl := hx.int_inv; obtain rfl := hy.int_inv
    split at h
    · rename_i k a k' b hk
      subst hk
      simp at h; subst h
      simp only [Builtin.min2, Sem.run_pure]
      by_cases hab : a ≤ b
      · rw [if_pos hab]; first | rw [if_neg (by omega)] | rw [if_pos (by omega)] | skip
      · rw [if_neg hab]; first | rw [if_pos (by omega)] | rw [if_neg (by omega)] | skip
    · simp at h
  · simp at h
end
end Go.Cn
