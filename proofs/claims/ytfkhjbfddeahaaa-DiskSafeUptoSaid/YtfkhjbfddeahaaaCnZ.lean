/- The symbolic run of a region is sound: the law. -/
import Derived.Test.YtfkhjbfddeahaaaCnY
set_option linter.unusedVariables false
set_option linter.unusedSimpArgs false
namespace Go.Cn
section
variable {P : Program} {L : List Oper}

theorem exCell_inv {t : TypeId} {f : Value → Prop} (h : exCell P t f) : ∃ v, f v := by
  unfold exCell at h
  split at h
  · obtain ⟨b, h⟩ := h; exact ⟨_, h⟩
  · obtain ⟨b, h⟩ := h; exact ⟨_, h⟩
  · obtain ⟨b, h⟩ := h; exact ⟨_, h⟩
  · obtain ⟨a, l, c, h⟩ := h; exact ⟨_, h⟩
  · obtain ⟨a, h⟩ := h; exact ⟨_, h⟩
  · exact h

theorem exCells_inv : ∀ {ts : List TypeId} {f : List Value → Prop}, exCells P ts f → ∃ vs, f vs
  | [], f, h => ⟨[], h⟩
  | t :: ts, f, h => by
    obtain ⟨v, h⟩ := exCell_inv h
    obtain ⟨vs, h⟩ := exCells_inv h
    exact ⟨_, h⟩

theorem exVal_inv {t : TypeId} {f : Value → List Value → Prop} (h : exVal P t f) : ∃ v cs, f v cs ∧ (agg? P t = some true ∧ v = .agg cs.toArray ∨ agg? P t = some false ∧ cs = [v]) := by
  unfold exVal at h
  split at h
  · rename_i ha
    split at h
    · obtain ⟨vs, h⟩ := exCells_inv h
      exact ⟨_, vs, h, .inl ⟨ha, rfl⟩⟩
    · exact h.elim
  · rename_i ha
    obtain ⟨v, h⟩ := exCell_inv h
    exact ⟨v, _, h, .inr ⟨ha, rfl⟩⟩
  · exact h.elim

theorem exResGo_inv : ∀ {ts : List TypeId} {g : List Value → Prop}, exRes.go P ts g → ∃ vs, g vs
  | [], g, h => ⟨[], h⟩
  | t :: ts, g, h => by
    obtain ⟨v, _, h, _⟩ := exVal_inv h
    obtain ⟨vs, h⟩ := exResGo_inv h
    exact ⟨_, h⟩

theorem exRes_inv {ts : List TypeId} {f : Value → Prop} (h : exRes P ts f) : ∃ v, f v := by
  unfold exRes at h
  split at h
  · obtain ⟨v, _, h, _⟩ := exVal_inv h; exact ⟨v, h⟩
  · obtain ⟨vs, h⟩ := exResGo_inv h; exact ⟨_, h⟩

theorem exCell_all {t : TypeId} {f g : Value → Prop} (h : exCell P t f) (k : allCell P t g) : ∃ v, f v ∧ g v := by
  unfold exCell at h
  unfold allCell at k
  split at h
  · rename_i e; rw [e] at k; obtain ⟨b, h⟩ := h; exact ⟨_, h, k b⟩
  · rename_i e; rw [e] at k; obtain ⟨b, h⟩ := h; exact ⟨_, h, k b⟩
  · rename_i e; rw [e] at k; obtain ⟨b, h⟩ := h; exact ⟨_, h, k b⟩
  · rename_i e; rw [e] at k; obtain ⟨a, l, c, h⟩ := h; exact ⟨_, h, k a l c⟩
  · rename_i e; rw [e] at k; obtain ⟨a, h⟩ := h; exact ⟨_, h, k a⟩
  · rename_i h1 h2 h3 h4 h5
    obtain ⟨v, h⟩ := h
    split at k
    · rename_i e; exact absurd e h1
    · rename_i e; exact absurd e (h2 _)
    · rename_i e; exact absurd e h3
    · rename_i e; exact absurd e (h4 _)
    · rename_i e; exact absurd e (h5 _)
    · exact ⟨v, h, k v⟩

theorem exCells_all : ∀ {ts : List TypeId} {f g : List Value → Prop}, exCells P ts f → allCells P ts g → ∃ vs, f vs ∧ g vs
  | [], f, g, h, k => ⟨[], h, k⟩
  | t :: ts, f, g, h, k => by
    obtain ⟨v, h, k⟩ := exCell_all h k
    obtain ⟨vs, h, k⟩ := exCells_all h k
    exact ⟨_, h, k⟩

theorem exVal_all {t : TypeId} {f : Value → List Value → Prop} {g : Value → Prop} (h : exVal P t f) (k : allVal P t g) : ∃ v cs, f v cs ∧ g v := by
  unfold exVal at h
  unfold allVal at k
  split at h
  · rename_i ha
    rw [ha] at k
    simp only at k
    split at h
    · rename_i ts hc
      rw [hc] at k
      obtain ⟨vs, h, k⟩ := exCells_all h k
      exact ⟨_, vs, h, k⟩
    · exact h.elim
  · rename_i ha
    rw [ha] at k
    obtain ⟨v, h, k⟩ := exCell_all h k
    exact ⟨v, _, h, k⟩
  · exact h.elim

theorem exResGo_all : ∀ {ts : List TypeId} {f g : List Value → Prop}, exRes.go P ts f → allRes.go P ts g → ∃ vs, f vs ∧ g vs
  | [], f, g, h, k => ⟨[], h, k⟩
  | t :: ts, f, g, h, k => by
    obtain ⟨v, _, h, k⟩ := exVal_all h k
    obtain ⟨vs, h, k⟩ := exResGo_all h k
    exact ⟨_, h, k⟩

theorem exRes_all {ts : List TypeId} {f g : Value → Prop} (h : exRes P ts f) (k : allRes P ts g) : ∃ v, f v ∧ g v := by
  unfold exRes at h
  unfold allRes at k
  split at h
  · obtain ⟨v, _, h, k⟩ := exVal_all h k; exact ⟨v, h, k⟩
  · rename_i hne
    split at k
    · rename_i t; exact absurd rfl (hne t)
    · obtain ⟨vs, h, k⟩ := exResGo_all h k; exact ⟨_, h, k⟩

theorem vread_sound {tm : List Value} {op : Op} {h : Hp} {S : SS} {ci : Ch} {k : Value → (Hp → Prop) → Prop} (hk : kind P op = .read) (hx : vread P tm op h (under L S ci) k) :
    ∃ v p, (wOf L S ci = true → rop P tm op h = some v) ∧ k v p ∧ (wOf L S ci = true → ∀ h', p h' → rop P tm op h' = some v) := by
  unfold vread at hx
  split at hx
  · rename_i t x
    split at hx
    · rename_i a n he hs
      obtain ⟨v, cs, hx, h3⟩ := exVal_inv hx
      split at hx
      case isFalse => exact hx.elim
      rename_i hl
      obtain ⟨h1, h2⟩ := hx
      have main : ∀ h', plainA a = true ∧ h'.cellsAt (blk a) (off a) n = some cs → rop P tm (.load t x) h' = some v := by
        rintro h' ⟨hp, hc⟩
        unfold rop
        simp only [cload]
        rw [he, plainA_inv hp]
        rcases h3 with ⟨ha, rfl⟩ | ⟨ha, rfl⟩
        · simp only [ha, hs]
          simp [hc]
        · simp only [ha, hs]
          simp at hl; subst hl
          simp [hc]
      exact ⟨v, _, fun hw => main h (under_iff.1 h1 hw), h2, fun hw h' hp => main h' (under_iff.1 hp hw)⟩
    · exact hx.elim
  · rename_i src dst x
    split at hx
    · rename_i e a l c hu hd he
      split at hx
      · rename_i hu8
        obtain ⟨s, h1, h2⟩ := hx
        have main : ∀ h', readStr a l h' s → rop P tm (.convert src dst x) h' = some (.string s) := by
          intro h' hr
          unfold rop
          simp only
          rw [hu, hd, he]
          rcases hr with ⟨rfl, rfl⟩ | ⟨hs, cs, hc, hb⟩
          · simp only [hu8]
          · cases a with
            | none => simp at hs
            | some a =>
              obtain ⟨b, o, sp⟩ := a
              simp only [blk, off] at hc
              simp only [hu8, hc, hb, Option.map_some]
        exact ⟨.string s, _, fun hw => main h (under_iff.1 h1 hw), h2, fun hw h' hp => main h' (under_iff.1 hp hw)⟩
      · exact hx.elim
    · exact hx.elim
  · obtain ⟨s, h1, h2⟩ := hx
    exact ⟨_, _, fun hw => under_iff.1 h1 hw, h2, fun hw h' hp => under_iff.1 hp hw⟩

theorem payV_inv {am : Nat} {h : Hp} {X : Prop} : ∀ {rd : Rd}, payV am rd h X → X ∧ ∀ i p, (i, p) ∈ rd → am.testBit i = false → p h
  | [], hx => ⟨hx, by simp⟩
  | (i, p) :: rest, hx => by
    unfold payV at hx
    split at hx
    · rename_i ht
      obtain ⟨h1, h2⟩ := payV_inv hx
      refine ⟨h1, fun j q hj hf => ?_⟩
      rcases List.mem_cons.1 hj with e | hj
      · cases e; rw [ht] at hf; simp at hf
      · exact h2 j q hj hf
    · obtain ⟨h1, h2⟩ := payV_inv hx.2
      refine ⟨h1, fun j q hj hf => ?_⟩
      rcases List.mem_cons.1 hj with e | hj
      · cases e; exact hx.1
      · exact h2 j q hj hf

theorem veff_sound {tm : List Value} {op : Op} {h : Hp} {k : Value → Hp → Prop} (hx : veff P tm op h k) : ∃ v h', eop P tm op h = some (v, h') ∧ k v h' := by
  unfold veff at hx
  split at hx
  · rename_i t a x
    unfold eop
    simp only
    split at hx
    · rename_i a n he hs
      split at hx
      · rename_i hsz
        obtain ⟨hp, h', hst, hx⟩ := hx
        refine ⟨undef, h', ?_, hx⟩
        rw [he, plainA_inv hp]
        simp only [hs, hsz, if_true]
        simp only [blk, off] at hst ⊢
        rw [hst]; rfl
      · exact hx.elim
    · exact hx.elim
  · rename_i t len parts
    unfold eop
    simp only
    split at hx
    · rename_i e hu
      simp only [hu]
      split at hx
      · rename_i n z hs hz
        split at hx
        · exact hx.elim
        · rename_i hg
          cases hi : P.info? e with
          | none => simp [size?, hi] at hs
          | some i =>
            simp only [size?, hi, Option.map_some, Option.some.injEq] at hs
            simp only [zero?, hi, Option.bind_some] at hz
            subst hs
            simp only [hz]
            rw [if_neg hg]
            cases hf : fillL (fun j => some (j * i.size, i.size)) (zeroCells z.cells.toList len) (parts.toList.map fun (j, x) => (j, ev tm x)) with
            | none => simp [hf, opt] at hx
            | some cs =>
              simp only [hf, opt] at hx
              exact ⟨_, _, rfl, hx _ rfl⟩
      · exact hx.elim
    · exact hx.elim
  · obtain ⟨a, m, n, h', h1, h2⟩ := hx; exact ⟨_, _, h1, h2⟩
  · rename_i args argTypes
    unfold eop
    simp only
    split at hx
    · rename_i t xt s x e1 e2
      obtain ⟨a, m, n, h', h1, h2⟩ := hx; exact ⟨_, _, by rw [e1, e2]; exact h1, h2⟩
    · exact hx.elim
  · rename_i args argTypes
    unfold eop
    simp only
    split at hx
    · rename_i t ts d x e1 e2
      obtain ⟨n, h', h1, h2⟩ := hx; exact ⟨_, _, by rw [e1, e2]; exact h1, h2⟩
    · exact hx.elim
  · rename_i args argTypes
    unfold eop
    simp only
    split at hx
    · rename_i t ts x e1 e2
      obtain ⟨h', h1, h2⟩ := hx; exact ⟨_, _, by rw [e1, e2]; exact h1, h2⟩
    · exact hx.elim
  · rename_i src dst x
    unfold eop
    simp only
    split at hx
    · rename_i e s hu hd he
      split at hx
      · rename_i hu8
        rw [hu, hd, he]
        simp only [hu8]
        exact ⟨_, _, rfl, hx _ rfl⟩
      · exact hx.elim
    · exact hx.elim
  · cases he : eop P tm op h with
    | none => simp [he, opt] at hx
    | some r => simp only [he, opt] at hx; exact ⟨r.1, r.2, rfl, hx _ rfl⟩

theorem mergeV_eq {b : Bool} {x y v : Value} (h : mergeV b x y = some v) : v = if b = true then x else y := by
  unfold mergeV at h
  cases b with
  | true => split at h <;> first | (simp at h; done) | (simp [sel] at h; simp_all; done) | (split at h <;> simp [sel] at h; simp_all)
  | false => split at h <;> first | (simp at h; done) | (simp [sel] at h; simp_all; done) | (split at h <;> simp [sel] at h; simp_all)

theorem vOps_sound {pf : FuncId → Bool} {fs : List Inf} {pre : List (Option Value)} : ∀ (order : List Nat) {done : List Nat} {rd : Rd} {S : SS} {h : Hp} {owed : List Owed} {K : List Value → Hp → Prop}, InvS L S done → (∀ d ∈ owed, ∃ p, (d.idx, p) ∈ rd ∧ ∀ h', p h' → rop P d.tm d.op h' = some d.v) →
    vOps P (SCalls P) pf L fs pre order done rd S h K → xDraw P alP (SCalls P) L fs pre order (real L S) owed h K
  | [], done, rd, S, h, owed, K, hi, ho, hx => hx
  | i :: rest, done, rd, S, h, owed, K, hi, ho, hx => by
    have pay : ∀ {am : Nat} {h : Hp} {X r : Prop}, payV am rd h X → (X → r) → payAll P alP am h owed r := by
      intro am h X r hb hr
      obtain ⟨h1, h2⟩ := payV_inv hb
      have h1 := hr h1
      unfold payAll
      clear hb hr
      revert ho
      induction owed with
      | nil => intro _; exact h1
      | cons d l ih =>
        intro ho
        simp only [List.foldr_cons]
        have hr := ih fun d hd => ho d (by simp [hd])
        split
        · exact hr
        · rename_i hb
          obtain ⟨p, h3, h4⟩ := ho d (by simp)
          exact ⟨h4 _ (h2 _ _ h3 (by simpa using hb)), hr⟩
    simp only [vOps] at hx
    simp only [xDraw]
    split at hx
    · rename_i o f e1 e2
      rw [e1, e2]
      simp only
      split at hx
      · rename_i ci hci hnd
        have hwf := chainOf_spec hi hci
        rw [wants_real hi hci]
        simp only
        have next : ∀ {v : Value} {rd' : Rd} {h' : Hp} {owed' : List Owed}, (∀ d ∈ owed', ∃ p, (d.idx, p) ∈ rd' ∧ ∀ h', p h' → rop P d.tm d.op h' = some d.v) → vOps P (SCalls P) pf L fs pre rest (i :: done) rd' (S.put o.dst (ci, v)) h' K →
            xDraw P alP (SCalls P) L fs pre rest (put (real L S) o.dst (if wOf L S ci = true then v else undef)) owed' h' K := by
          intro v rd' h' owed' ho' hv
          rw [← real_put hi hnd hwf]
          exact vOps_sound rest (hi.put hnd hwf) ho' hv
        have agr : ∀ {op : Op}, op.operands.toList.all (okSlot S ci) = true → wOf L S ci = true → Agree (real L S) S.vals op := fun hop hw x hx => okSlot_ev hw (List.all_eq_true.1 hop x hx)
        split at hx
        · rename_i v hv
          rw [hv]
          exact next ho hx
        · rename_i hnone
          rw [hnone]
          simp only
          split at hx
          · rename_i hkd
            rw [hkd]
            simp only
            have pure : ∀ {v : Value}, (wOf L S ci = true → pop P (real L S) o.op = some v) → vOps P (SCalls P) pf L fs pre rest (i :: done) rd (S.put o.dst (ci, v)) h K →
                opt alP.bot (if wOf L S ci = true then pop P (real L S) o.op else some undef) fun v => xDraw P alP (SCalls P) L fs pre rest (put (real L S) o.dst v) owed h K := by
              intro v hp hv
              have := next ho hv
              by_cases hw : wOf L S ci = true
              · rw [if_pos hw] at this ⊢; rw [hp hw]; exact this
              · rw [if_neg hw] at this ⊢; exact this
            split at hx
            · rename_i c a b hop
              split at hx
              · rename_i t hc hok
                simp only [Bool.and_eq_true] at hok
                cases hm : mergeV t (ev S.vals a) (ev S.vals b) with
                | none => simp [hm, opt] at hx
                | some v =>
                  simp only [hm, opt] at hx
                  refine pure (fun hw => ?_) hx
                  rw [hop]
                  unfold pop
                  simp only
                  rw [okSlot_ev hw hok.1.1, hc]
                  rw [mergeV_eq hm]
                  cases t with
                  | true => simp only [if_true]; rw [okArm_ev hw hc hok.1.2]
                  | false => simp only [Bool.false_eq_true, if_false]; rw [okArm_ev hw hc hok.2]
              · exact hx.elim
            · split at hx
              · rename_i v hv hok
                refine pure (fun hw => ?_) hx
                rw [pop_congr (agr hok hw)]
                exact vpop_sound hv trivial
              · rename_i v c hv hok
                obtain ⟨h1, h2⟩ := hx
                refine pure (fun hw => ?_) h2
                rw [pop_congr (agr hok hw)]
                exact vpop_sound hv (under_iff.1 h1 hw)
              · exact hx.elim
          · rename_i hkd
            rw [hkd]
            simp only
            split at hx
            · rename_i hok
              obtain ⟨v, p, h1, h2, h3⟩ := vread_sound hkd hx
              have := next (owed' := if wOf L S ci = true then ⟨i, o.op, real L S, v⟩ :: owed else owed) (by
                intro d hd
                have old : d ∈ owed → ∃ q, (d.idx, q) ∈ (i, p) :: rd ∧ ∀ h', q h' → rop P d.tm d.op h' = some d.v := fun hd => by
                  obtain ⟨q, h4, h5⟩ := ho d hd
                  exact ⟨q, List.mem_cons_of_mem _ h4, h5⟩
                split at hd
                · rename_i hw
                  rcases List.mem_cons.1 hd with rfl | hd
                  · exact ⟨p, by simp, fun h' hp => by rw [rop_congr (agr hok hw)]; exact h3 hw h' hp⟩
                  · exact old hd
                · exact old hd) h2
              by_cases hw : wOf L S ci = true
              · rw [if_pos hw, if_pos hw] at this
                rw [if_pos hw, rop_congr (agr hok hw), h1 hw]
                simp only [hw, if_true]
                exact this
              · rw [if_neg hw, if_neg hw] at this
                rw [if_neg hw]
                simp only [hw]
                exact this
            · exact hx.elim
          · rename_i hkd
            rw [hkd]
            simp only
            split at hx
            · rename_i hok
              obtain ⟨v, h', h1, h2⟩ := veff_sound hx
              have hw : wOf L S [] = true := rfl
              rw [if_pos hw, eop_congr (agr hok hw), h1]
              refine pay h2 fun h2 => ?_
              have := next ho h2
              rw [if_pos hw] at this
              exact this
            · rename_i c0 cr hok
              split at hx
              · rename_i ty hty
                obtain ⟨Q, hx1, hx2, hx3⟩ := hx
                by_cases hw : wOf L S (c0 :: cr) = true
                · rw [if_pos hw, eop_congr (agr hok hw)]
                  obtain ⟨v, h', h1, h2⟩ := veff_sound (hx1 hw)
                  rw [h1]
                  obtain ⟨v', ⟨rfl, h3⟩, h4⟩ := exRes_all h2 hx3
                  refine pay (h4 _ h3) fun h5 => ?_
                  have := next ho h5
                  rw [if_pos hw] at this
                  exact this
                · rw [if_neg hw]
                  obtain ⟨v', h3, h4⟩ := exRes_all (hx2 (by simpa using hw)) hx3
                  refine pay (h4 _ h3) fun h5 => ?_
                  have := next ho h5
                  rw [if_neg hw] at this
                  exact this
              · exact hx.elim
            · exact hx.elim
          · rename_i hkd
            rw [hkd]
            simp only
            split at hx
            · rename_i fa hca hok
              split at hx
              · have hw : wOf L S [] = true := rfl
                rw [if_pos hw, callee_congr (agr hok hw), hca]
                refine hx.mono fun v h' hv => ?_
                obtain ⟨v', rfl, h2⟩ := exRes_inv hv
                refine pay h2 fun h2 => ?_
                have := next ho h2
                rw [if_pos hw] at this
                exact this
              · split at hx
                · obtain ⟨v', h1, h2⟩ := exRes_inv hx
                  by_cases hw : wOf L S ci = true
                  · rw [if_pos hw]
                    rw [callee_congr (agr hok hw), hca]
                    refine (h1 hw).mono fun v h' hv => ?_
                    obtain ⟨rfl, rfl⟩ := hv
                    refine pay h2 fun h2 => ?_
                    have := next ho h2
                    rw [if_pos hw] at this
                    exact this
                  · rw [if_neg hw]
                    refine pay h2 fun h2 => ?_
                    have := next ho h2
                    rw [if_neg hw] at this
                    exact this
                · obtain ⟨Q, hx1, hx2, hx3⟩ := hx
                  by_cases hw : wOf L S ci = true
                  · rw [if_pos hw, callee_congr (agr hok hw), hca]
                    refine (hx1 hw).mono fun v h' hv => ?_
                    obtain ⟨v', ⟨rfl, h1⟩, h2⟩ := exRes_all hv hx3
                    refine pay (h2 _ h1) fun h2 => ?_
                    have := next ho h2
                    rw [if_pos hw] at this
                    exact this
                  · rw [if_neg hw]
                    obtain ⟨v', h1, h2⟩ := exRes_all (hx2 (by simpa using hw)) hx3
                    refine pay (h2 _ h1) fun h2 => ?_
                    have := next ho h2
                    rw [if_neg hw] at this
                    exact this
            · exact hx.elim
      · exact hx.elim
    · exact hx.elim
end
end Go.Cn
