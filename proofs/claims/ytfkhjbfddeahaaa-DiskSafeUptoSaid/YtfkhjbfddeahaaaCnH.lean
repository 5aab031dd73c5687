/- The canonical semantics: an append makes a new block of the old one's group. -/
import Derived.Test.YtfkhjbfddeahaaaCnG
set_option linter.unusedVariables false
set_option linter.unusedSimpArgs false
namespace Go.Cn

structure Extended (h h' : Hp) (b o e : Nat) (new cs : List Value) (t : TypeId) (g : Nat) (rest : List Nat) : Prop where
  old : h.ob b = some (.cells cs t (some g))
  live : h.live b (some g) = true
  o_le : o ≤ e
  e_le : e ≤ cs.length
  ob : ∀ x, h'.ob x = if x = h.next then some (.cells ((cs.drop o).take (e - o) ++ new) t (some g)) else if x = b then some (.cells (cs.take e) t (some g)) else h.ob x
  gs : ∀ x, h'.gs.get x = if x = g then some (h.next :: rest) else h.gs.get x
  next : h'.next = h.next + 1
  rest : (e = cs.length ∧ rest = h.below b g) ∨ rest = [b]
  cell : new.all isCell = true

theorem Hp.extend_spec {h h' : Hp} {b o e : Nat} {new : List Value} (hx : h.extend b o e new = some h') (hlt : b ≠ h.next) : ∃ cs t g rest, Extended h h' b o e new cs t g rest := by
  unfold Hp.extend at hx
  split at hx
  · rename_i cs t g hob
    split at hx
    · rename_i hc
      simp only [Bool.and_eq_true, decide_eq_true_eq] at hc
      by_cases hf : e = cs.length
      · simp only [hf, if_true] at hx
        simp at hx; subst hx
        refine ⟨cs, t, g, h.below b g, hob, hc.1.1.1, hc.1.1.2, hc.1.2, ?_, ?_, rfl, .inl ⟨hf, rfl⟩, by simpa using hc.2⟩
        · intro x
          simp only [Hp.ob]
          rw [Tr.get_set _ _ _ _ _ (by omega)]
          split
          · rename_i e1; rw [hf]
          · split
            · rename_i e2; subst e2; rw [hf, List.take_length]; exact hob
            · rfl
        · intro x
          have := Hp.gs_setGs h g (h.next :: h.below b g) x
          exact this
      · simp only [hf, if_false] at hx
        simp at hx; subst hx
        refine ⟨cs, t, g, [b], hob, hc.1.1.1, hc.1.1.2, hc.1.2, ?_, ?_, rfl, .inr rfl, by simpa using hc.2⟩
        · intro x
          simp only [Hp.ob]
          rw [Tr.get_set _ _ _ _ _ (by omega)]
          split
          · rfl
          · have := Hp.ob_setOb (h.setGs g [h.next, b]) b (.cells (cs.take e) t (some g)) x
            simp only [Hp.ob] at this
            rw [this]; rfl
        · intro x
          have := Hp.gs_setGs h g [h.next, b] x
          exact this
    · simp at hx
  · simp at hx

theorem dropWhile_head (b : Nat) : ∀ (l : List Nat), b ∈ l → ∃ r, l.dropWhile (· != b) = b :: r
  | [], h => by simp at h
  | x :: l, h => by
    by_cases hx : x = b
    · subst hx; exact ⟨l, by simp⟩
    · have : b ∈ l := by simp at h; rcases h with h | h; exact absurd h.symm hx; exact h
      obtain ⟨r, hr⟩ := dropWhile_head b l this
      exact ⟨r, by simp [List.dropWhile_cons, hx, hr]⟩

/-- What stays of the group: alive, of the group, none reaches further than b. -/
theorem HR.below_spec {base : Nat} {σ : Sg} {h : Hp} {w : World} (hr : HR base σ h w) {b g : Nat} {cs : List Value} {t : TypeId} (hob : h.ob b = some (.cells cs t (some g))) (hl : h.live b (some g) = true) :
    ∃ r, h.below b g = b :: r ∧ (∀ x ∈ b :: r, h.live x (some g) = true ∧ ∃ csx tx, h.ob x = some (.cells csx tx (some g))) ∧
      (b :: r).Pairwise fun b1 b2 => ∀ e1 e2 cs1 cs2 t1 t2 g1 g2, σ b1 = some e1 → σ b2 = some e2 →
        h.ob b1 = some (.cells cs1 t1 g1) → h.ob b2 = some (.cells cs2 t2 g2) → e1.rb = e2.rb → e2.ro + cs2.length ≤ e1.ro + cs1.length := by
  unfold Hp.below
  cases hg : h.gs.get g with
  | none =>
    refine ⟨[], rfl, ?_, by simp⟩
    intro x hx
    simp at hx; subst hx
    exact ⟨hl, cs, t, hob⟩
  | some l =>
    have hb : b ∈ l := by simpa [Hp.live, hg] using hl
    obtain ⟨r, hr'⟩ := dropWhile_head b l hb
    refine ⟨r, hr', ?_, ?_⟩
    · intro x hx
      have hxl : x ∈ l := (List.dropWhile_suffix (· != b)).subset (hr' ▸ hx)
      exact ⟨by simpa [Hp.live, hg] using hxl, hr.stack g l hg x hxl⟩
    · have := hr.nest g l hg
      exact (this.sublist (List.dropWhile_suffix (· != b)).sublist) |> fun p => hr' ▸ p

theorem Hp.live_iff (h : Hp) (b g : Nat) : h.live b (some g) = true ↔ match h.gs.get g with
    | none => b = g
    | some l => b ∈ l := by
  cases hg : h.gs.get g <;> simp [Hp.live, hg]

/-- The canonical side of an append, whatever becomes of the model's memory. -/
theorem HR.extended {base : Nat} {σ : Sg} {h h' : Hp} {w w' : World} (hr : HR base σ h w) {b o e : Nat} {new cs : List Value} {t : TypeId} {g : Nat} {rest : List Nat}
    (hx : Extended h h' b o e new cs t g rest) {eb en : En} (hb : σ b = some eb) (hsz : w.heap.size ≤ w'.heap.size) (hen : en.rb < w'.heap.size)
    (hnew : Lies base (σ.put h.next en) w' en ((cs.drop o).take (e - o) ++ new) (some g))
    (hcut : Lies base (σ.put h.next en) w' eb (cs.take e) (some g))
    (hold : ∀ x ex csx tx gx, σ x = some ex → h.ob x = some (.cells csx tx gx) → x ≠ b → (gx = some g → x ∈ rest ∧ e = cs.length) → h.live x gx = true → Lies base σ w ex csx gx → Lies base (σ.put h.next en) w' ex csx gx)
    (hrb : en.rb = eb.rb ∨ ∀ x ex, σ x = some ex → ex.rb ≠ en.rb) (hro : en.rb = eb.rb → en.ro = eb.ro + o) :
    HR base (σ.put h.next en) h' w' := by
  have hσ : σ h.next = none := hr.none_next (Nat.le_refl _)
  have hle : σ.le (σ.put h.next en) := Sg.put_le hσ
  have hbn : b ≠ h.next := by have := (hr.dom _ _ hb).1; omega
  have hput : ∀ x ex, (σ.put h.next en) x = some ex → (x = h.next ∧ ex = en) ∨ (x ≠ h.next ∧ σ x = some ex) := by
    intro x ex hxx
    unfold Sg.put at hxx
    split at hxx
    · rename_i hh; left; exact ⟨hh, by simpa using hxx.symm⟩
    · rename_i hh; right; exact ⟨hh, hxx⟩
  have hgn : g ≠ h.next := by have := hr.grp b cs t g hx.old; omega
  obtain ⟨r, hbel, hmem, hpair⟩ := hr.below_spec hx.old hx.live
  have hrest : ∀ x ∈ rest, h.live x (some g) = true ∧ (∃ csx tx, h.ob x = some (.cells csx tx (some g))) ∧ (x ≠ b → e = cs.length) := by
    intro x hxr
    rcases hx.rest with ⟨hf, hreq⟩ | hreq
    · rw [hreq, hbel] at hxr
      exact ⟨(hmem x hxr).1, (hmem x hxr).2, fun _ => hf⟩
    · rw [hreq] at hxr; simp at hxr; subst hxr
      exact ⟨hx.live, ⟨cs, t, hx.old⟩, fun hne => absurd rfl hne⟩
  have hlive' : ∀ x gx, h'.live x gx = true → (x = h.next ∧ gx = some g) ∨ (h.live x gx = true ∧ (gx = some g → x ∈ rest)) := by
    intro x gx hl
    cases gx with
    | none => right; exact ⟨rfl, by simp⟩
    | some gx =>
      rw [Hp.live_iff, hx.gs] at hl
      by_cases hgx : gx = g
      · subst hgx
        simp at hl
        rcases hl with hl | hl
        · left; exact ⟨hl, rfl⟩
        · right; exact ⟨(hrest x hl).1, fun _ => hl⟩
      · rw [if_neg hgx] at hl
        right; exact ⟨by rw [Hp.live_iff]; exact hl, fun e' => absurd (by simpa using e') hgx⟩
  have hob' : ∀ x, x ≠ h.next → x ≠ b → h'.ob x = h.ob x := by
    intro x h1 h2; rw [hx.ob, if_neg h1, if_neg h2]
  have hobb : h'.ob b = some (.cells (cs.take e) t (some g)) := by rw [hx.ob, if_neg hbn, if_pos rfl]
  have hobn : h'.ob h.next = some (.cells ((cs.drop o).take (e - o) ++ new) t (some g)) := by rw [hx.ob, if_pos rfl]
  have holen : ((cs.drop o).take (e - o)).length = e - o := by have := hx.e_le; simp; omega
  -- what a block of the new heap was in the old one
  have was : ∀ x csx tx gx, x ≠ h.next → h'.ob x = some (.cells csx tx gx) → ∃ cs0, h.ob x = some (.cells cs0 tx gx) ∧ (x ≠ b → cs0 = csx) ∧ (x = b → csx = cs.take e ∧ cs0 = cs) := by
    intro x csx tx gx hne hobx
    by_cases hxb : x = b
    · subst hxb
      rw [hobb] at hobx; cases hobx
      exact ⟨cs, hx.old, fun h => absurd rfl h, fun _ => ⟨rfl, rfl⟩⟩
    · rw [hob' x hne hxb] at hobx
      exact ⟨csx, hobx, fun _ => rfl, fun h => absurd h hxb⟩
  refine ⟨Nat.le_trans hr.base_le hsz, ?_, ?_, ?_, ?_, ?_, ?_, ?_, ?_⟩
  · intro x ex hxx
    rw [hx.next]
    rcases hput x ex hxx with ⟨rfl, rfl⟩ | ⟨_, h2⟩
    · exact ⟨by omega, hen⟩
    · have := hr.dom _ _ h2; omega
  · intro x hxx
    rw [hx.next] at hxx
    have hf := hr.fresh x (by omega)
    have hxb : x ≠ b := by have := (hr.dom _ _ hb).1; omega
    rw [hob' x (by omega) hxb, hx.gs]
    have := hr.grp b cs t g hx.old
    rw [if_neg (by omega)]
    exact hf
  · intro x ex csx tx gx hxx hobx hlx
    rcases hput x ex hxx with ⟨rfl, rfl⟩ | ⟨hne, h2⟩
    · rw [hobn] at hobx; cases hobx; exact hnew
    · rcases hlive' x gx hlx with ⟨e1, _⟩ | ⟨hl0, hmemr⟩
      · exact absurd e1 hne
      · by_cases hxb : x = b
        · subst hxb
          rw [hobb] at hobx; cases hobx
          rw [hb] at h2; cases h2
          exact hcut
        · rw [hob' x hne hxb] at hobx
          exact hold x ex csx tx gx h2 hobx hxb (fun hg => ⟨hmemr hg, (hrest x (hmemr hg)).2.2 hxb⟩) hl0 (hr.cell x ex csx tx gx h2 hobx hl0)
  · intro x csx tx gx hobx
    rw [hx.next]
    by_cases hne : x = h.next
    · subst hne; rw [hobn] at hobx; cases hobx; have := hr.grp b cs t g hx.old; omega
    · obtain ⟨cs0, h0, _⟩ := was x csx tx _ hne hobx
      have := hr.grp x cs0 tx gx h0; omega
  · intro x ex csx tx gx hxx hobx
    rcases hput x ex hxx with ⟨rfl, rfl⟩ | ⟨hne, h2⟩
    · rw [hobn] at hobx; cases hobx
      obtain ⟨e', he'⟩ := hr.gdom b eb cs t g hb hx.old
      exact ⟨e', hle _ _ he'⟩
    · obtain ⟨cs0, h0, _⟩ := was x csx tx _ hne hobx
      obtain ⟨e', he'⟩ := hr.gdom x ex cs0 tx gx h2 h0
      exact ⟨e', hle _ _ he'⟩
  · intro gx l hgx x hxl
    rw [hx.gs] at hgx
    have key : x = h.next ∧ gx = g ∨ ∃ csx tx, h.ob x = some (.cells csx tx (some gx)) := by
      split at hgx
      · rename_i e1; subst e1
        simp at hgx; subst hgx
        simp at hxl
        rcases hxl with hxl | hxl
        · left; exact ⟨hxl, rfl⟩
        · right; exact (hrest x hxl).2.1
      · right; exact hr.stack gx l hgx x hxl
    rcases key with ⟨rfl, rfl⟩ | ⟨csx, tx, h0⟩
    · exact ⟨_, _, hobn⟩
    · by_cases hne : x = h.next
      · subst hne; rw [(hr.fresh _ (Nat.le_refl _)).1] at h0; simp at h0
      · by_cases hxb : x = b
        · subst hxb; rw [hx.old] at h0; cases h0; exact ⟨_, _, hobb⟩
        · exact ⟨csx, tx, by rw [hob' x hne hxb]; exact h0⟩
  · intro gx l hgx
    rw [hx.gs] at hgx
    split at hgx
    · rename_i e1; subst e1
      simp at hgx; subst hgx
      refine List.pairwise_cons.2 ⟨?_, ?_⟩
      · intro x hxr e1 e2 cs1 cs2 t1 t2 g1 g2 s1 s2 o1 o2 hrbe
        rw [hobn] at o1; cases o1
        have hxn : x ≠ h.next := by
          rintro rfl
          obtain ⟨_, _, hh⟩ := (hrest _ hxr).2.1
          rw [(hr.fresh _ (Nat.le_refl _)).1] at hh; simp at hh
        rcases hput _ _ s1 with ⟨_, rfl⟩ | ⟨hn, _⟩
        · rcases hput x e2 s2 with ⟨hn, _⟩ | ⟨_, s2'⟩
          · exact absurd hn hxn
          · rcases hrb with hrb | hrb
            · have hro' := hro hrb
              by_cases hxb : x = b
              · subst hxb
                rw [hobb] at o2; cases o2
                rw [hb] at s2'; cases s2'
                have h1 := hx.o_le; have h2 := hx.e_le
                simp; omega
              · rw [hob' x hxn hxb] at o2
                have hfull := (hrest x hxr).2.2 hxb
                rcases hx.rest with ⟨_, hreq⟩ | hreq
                · rw [hreq, hbel] at hxr
                  have hxr' : x ∈ r := by simp at hxr; rcases hxr with h | h; exact absurd h hxb; exact h
                  have := (List.pairwise_cons.1 hpair).1 x hxr' eb e2 cs cs2 t t2 _ _ hb s2' hx.old o2 (hrb ▸ hrbe)
                  have h1 := hx.o_le
                  simp [holen]; omega
                · rw [hreq] at hxr; simp at hxr; exact absurd hxr hxb
            · exact absurd hrbe.symm (hrb x e2 s2')
        · exact absurd rfl hn
      · rcases hx.rest with ⟨hf, hreq⟩ | hreq
        · rw [hreq, hbel]
          refine hpair.imp_of_mem fun {b1 b2} m1 m2 hp => ?_
          intro e1 e2 cs1 cs2 t1 t2 g1 g2 s1 s2 o1 o2
          have n1 : b1 ≠ h.next := by rintro rfl; obtain ⟨_, _, hh⟩ := (hmem _ m1).2; rw [(hr.fresh _ (Nat.le_refl _)).1] at hh; simp at hh
          have n2 : b2 ≠ h.next := by rintro rfl; obtain ⟨_, _, hh⟩ := (hmem _ m2).2; rw [(hr.fresh _ (Nat.le_refl _)).1] at hh; simp at hh
          rcases hput b1 e1 s1 with ⟨hh, _⟩ | ⟨_, s1'⟩
          · exact absurd hh n1
          · rcases hput b2 e2 s2 with ⟨hh, _⟩ | ⟨_, s2'⟩
            · exact absurd hh n2
            · obtain ⟨c1, w1, q1, p1⟩ := was b1 cs1 t1 g1 n1 o1
              obtain ⟨c2, w2, q2, p2⟩ := was b2 cs2 t2 g2 n2 o2
              have hlen1 : c1.length = cs1.length := by
                by_cases hbb : b1 = b
                · obtain ⟨x1, x2⟩ := p1 hbb; rw [x1, x2, hf, List.take_length]
                · rw [q1 hbb]
              have hlen2 : c2.length = cs2.length := by
                by_cases hbb : b2 = b
                · obtain ⟨x1, x2⟩ := p2 hbb; rw [x1, x2, hf, List.take_length]
                · rw [q2 hbb]
              intro hrbe
              have := hp e1 e2 c1 c2 t1 t2 g1 g2 s1' s2' w1 w2 hrbe
              omega
        · rw [hreq]; simp
    · rename_i hgne
      refine (hr.nest gx l hgx).imp_of_mem fun {b1 b2} m1 m2 hp => ?_
      intro e1 e2 cs1 cs2 t1 t2 g1 g2 s1 s2 o1 o2
      have n1 : b1 ≠ h.next := by rintro rfl; obtain ⟨_, _, hh⟩ := hr.stack gx l hgx _ m1; rw [(hr.fresh _ (Nat.le_refl _)).1] at hh; simp at hh
      have n2 : b2 ≠ h.next := by rintro rfl; obtain ⟨_, _, hh⟩ := hr.stack gx l hgx _ m2; rw [(hr.fresh _ (Nat.le_refl _)).1] at hh; simp at hh
      have k1 : b1 ≠ b := by rintro rfl; obtain ⟨_, _, hh⟩ := hr.stack gx l hgx _ m1; rw [hx.old] at hh; cases hh; exact hgne rfl
      have k2 : b2 ≠ b := by rintro rfl; obtain ⟨_, _, hh⟩ := hr.stack gx l hgx _ m2; rw [hx.old] at hh; cases hh; exact hgne rfl
      rw [hob' b1 n1 k1] at o1
      rw [hob' b2 n2 k2] at o2
      rcases hput b1 e1 s1 with ⟨hh, _⟩ | ⟨_, s1'⟩
      · exact absurd hh n1
      · rcases hput b2 e2 s2 with ⟨hh, _⟩ | ⟨_, s2'⟩
        · exact absurd hh n2
        · exact hp e1 e2 cs1 cs2 t1 t2 g1 g2 s1' s2' o1 o2
  · intro b1 b2 e1 e2 cs1 cs2 t1 t2 g1 g2 s1 s2 o1 o2 l1 l2 hrbe
    -- a block that shares the new block's memory is of its group
    have one : ∀ x ex csx tx gx, x ≠ h.next → σ x = some ex → h'.ob x = some (.cells csx tx (some gx)) → h'.live x (some gx) = true → en.rb = ex.rb → gx = g := by
      intro x ex csx tx gx hne s hobx hlx hrb'
      rcases hrb with hrb | hrb
      · obtain ⟨cs0, w0, _⟩ := was x csx tx _ hne hobx
        rcases hlive' x _ hlx with ⟨hh, _⟩ | ⟨hl0, _⟩
        · exact absurd hh hne
        · exact hr.apart x b ex eb cs0 cs tx t gx g s hb w0 hx.old hl0 hx.live (hrb'.symm.trans hrb)
      · exact absurd hrb'.symm (hrb x ex s)
    by_cases hn1 : b1 = h.next
    · subst hn1
      rw [hobn] at o1; cases o1
      by_cases hn2 : b2 = h.next
      · subst hn2; rw [hobn] at o2; cases o2; rfl
      · rcases hput _ _ s1 with ⟨_, rfl⟩ | ⟨hh, _⟩
        · rcases hput b2 e2 s2 with ⟨hh, _⟩ | ⟨_, s2'⟩
          · exact absurd hh hn2
          · exact (one b2 e2 cs2 t2 g2 hn2 s2' o2 l2 hrbe).symm
        · exact absurd rfl hh
    · rcases hput b1 e1 s1 with ⟨hh, _⟩ | ⟨_, s1'⟩
      · exact absurd hh hn1
      · by_cases hn2 : b2 = h.next
        · subst hn2
          rw [hobn] at o2; cases o2
          rcases hput _ _ s2 with ⟨_, rfl⟩ | ⟨hh, _⟩
          · exact one b1 e1 cs1 t1 g1 hn1 s1' o1 l1 hrbe.symm
          · exact absurd rfl hh
        · rcases hput b2 e2 s2 with ⟨hh, _⟩ | ⟨_, s2'⟩
          · exact absurd hh hn2
          · obtain ⟨c1, w1, _⟩ := was b1 cs1 t1 _ hn1 o1
            obtain ⟨c2, w2, _⟩ := was b2 cs2 t2 _ hn2 o2
            rcases hlive' b1 _ l1 with ⟨hh, _⟩ | ⟨k1, _⟩
            · exact absurd hh hn1
            · rcases hlive' b2 _ l2 with ⟨hh, _⟩ | ⟨k2, _⟩
              · exact absurd hh hn2
              · exact hr.apart b1 b2 e1 e2 c1 c2 t1 t2 g1 g2 s1' s2' w1 w2 k1 k2 hrbe

theorem Extended.untouched {base : Nat} {σ : Sg} {h h' : Hp} {w : World} (hr : HR base σ h w) {b o e : Nat} {new cs : List Value} {t : TypeId} {g : Nat} {rest : List Nat}
    (hx : Extended h h' b o e new cs t g rest) {eb en : En} (hb : σ b = some eb) : ∀ x, x < h.next → σ x = none → h'.ob x = h.ob x ∧ h'.gs.get x = h.gs.get x ∧ (σ.put h.next en) x = none := by
  intro x hxl hs
  have hxb : x ≠ b := by rintro rfl; rw [hb] at hs; simp at hs
  have hxg : x ≠ g := by
    rintro rfl
    obtain ⟨e', he'⟩ := hr.gdom b eb cs t x hb hx.old
    rw [he'] at hs; simp at hs
  refine ⟨by rw [hx.ob, if_neg (by omega), if_neg hxb], by rw [hx.gs, if_neg hxg], ?_⟩
  unfold Sg.put; rw [if_neg (by omega)]; exact hs

/-- The model made a new array. -/
theorem HR.extend_new {base : Nat} {σ : Sg} {h h' : Hp} {w w' : World} (hr : HR base σ h w) {b o e : Nat} {new new' : List Value} (hx : h.extend b o e new = some h') {eb : En} (hb : σ b = some eb)
    (hv : LRel σ new new') {c : Array Value} {el : TypeId} {fr : Nat × Nat} (hw : WNew w w' (.cells c el fr)) (hfr : ∀ j, j < c.size → ¬ (fr.1 ≤ j ∧ j < fr.2))
    (hold : ∀ j, j < e - o → ∀ v, w.cell? ⟨eb.rb, eb.ro + o + j, none⟩ = some v → c[j]? = some v) (hnew : ∀ (j : Nat) v, new'[j]? = some v → c[e - o + j]? = some v) (hsz : e - o + new.length ≤ c.size) :
    ∃ en, HR base (σ.put h.next en) h' w' ∧ Ext base σ h w (σ.put h.next en) h' w' ∧ en = ⟨w.heap.size, 0, c.size⟩ := by
  have hbn : b ≠ h.next := by have := (hr.dom _ _ hb).1; omega
  obtain ⟨cs, t, g, rest, hx⟩ := Hp.extend_spec hx hbn
  have hσ : σ h.next = none := hr.none_next (Nat.le_refl _)
  have hle : σ.le (σ.put h.next ⟨w.heap.size, 0, c.size⟩) := Sg.put_le hσ
  have hkeep : ∀ k, k < w.heap.size → w'.heap[k]? = w.heap[k]? := by
    intro k hk; rw [hw.heap, Array.getElem?_push, if_neg (by omega)]
  obtain ⟨⟨c0, el0, fr0, h1, h2, h3, h4, h5⟩, h6⟩ := hr.cell b eb cs t (some g) hb hx.old hx.live
  have ho := hx.o_le; have he := hx.e_le
  have hlen : ((cs.drop o).take (e - o)).length = e - o := by simp; omega
  refine ⟨_, hr.extended hx hb (by rw [hw.heap]; simp) (by rw [hw.heap]; simp) ?_ ?_ ?_ (.inr ?_) ?_, ⟨hle, hw.os, hw.tape, hw.output, by rw [hw.heap]; simp, ?_, ?_, ?_, by rw [hx.next]; omega, hx.untouched hr hb⟩, rfl⟩
  · refine ⟨⟨c, el, fr, by rw [hw.heap]; simp, rfl, by simp; omega, ?_, fun _ => hfr⟩, hr.base_le⟩
    intro i v hv'
    rw [List.getElem?_append] at hv'
    split at hv'
    · rename_i hi
      rw [hlen] at hi
      rw [List.getElem?_take, if_pos hi, List.getElem?_drop] at hv'
      obtain ⟨v', k1, k2⟩ := h4 _ _ hv'
      refine ⟨v', ?_, k2.mono hle⟩
      simp only [Nat.zero_add]
      refine hold i hi v' ?_
      simp only [World.cell?, h1]
      rw [show eb.ro + o + i = eb.ro + (o + i) by omega]; simpa using k1
    · rename_i hi
      rw [hlen] at hi hv'
      obtain ⟨v', k1, k2⟩ := hv.get hv'
      refine ⟨v', ?_, k2.mono hle⟩
      have := hnew _ _ k1
      rw [show e - o + (i - (e - o)) = i by omega] at this
      simpa using this
  · refine ⟨⟨c0, el0, fr0, by rw [hkeep _ (hr.dom _ _ hb).2]; exact h1, h2, by simp; omega, ?_, h5⟩, h6⟩
    intro i v hv'
    rw [List.getElem?_take] at hv'
    split at hv'
    · obtain ⟨v', k1, k2⟩ := h4 _ _ hv'; exact ⟨v', k1, k2.mono hle⟩
    · simp at hv'
  · intro x ex csx tx gx s _ _ _ _ hl
    obtain ⟨⟨c1, el1, fr1, q1, q2, q3, q4, q5⟩, q6⟩ := hl
    refine ⟨⟨c1, el1, fr1, by rw [hkeep _ (hr.dom _ _ s).2]; exact q1, q2, q3, ?_, q5⟩, q6⟩
    intro i v hv'
    obtain ⟨v', k1, k2⟩ := q4 i v hv'; exact ⟨v', k1, k2.mono hle⟩
  · intro x ex s
    have := (hr.dom _ _ s).2
    simp; omega
  · intro hh
    have := (hr.dom _ _ hb).2
    simp at hh; omega
  · intro k hk; exact hkeep k (by have := hr.base_le; omega)
  · intro k hk _; exact hkeep k hk
  · intro x ex s hxx
    unfold Sg.put at hxx
    split at hxx
    · right; simp at hxx; subst hxx; simp
    · rw [s] at hxx; simp at hxx

/-- The model wrote behind the old cells. -/
theorem HR.extend_in {base : Nat} {σ : Sg} {h h' : Hp} {w : World} (hr : HR base σ h w) {b o e : Nat} {new new' : List Value} (hx : h.extend b o e new = some h') {eb : En} (hb : σ b = some eb)
    (hv : LRel σ new new') (hroom : eb.ro + e + new'.length ≤ eb.rs) :
    (∃ en, HR base (σ.put h.next en) h' (w.setCells eb.rb (eb.ro + e) new') ∧ Ext base σ h w (σ.put h.next en) h' (w.setCells eb.rb (eb.ro + e) new') ∧ en = ⟨eb.rb, eb.ro + o, eb.rs⟩) ∧
    (∀ j, j < new'.length → (w.cell? ⟨eb.rb, eb.ro + e + j, none⟩).isSome = true) ∧ (∀ j, j < new'.length → w.frozen? ⟨eb.rb, eb.ro + e + j, none⟩ = false) := by
  have hbn : b ≠ h.next := by have := (hr.dom _ _ hb).1; omega
  obtain ⟨cs, t, g, rest, hx⟩ := Hp.extend_spec hx hbn
  have hσ : σ h.next = none := hr.none_next (Nat.le_refl _)
  have hle : σ.le (σ.put h.next ⟨eb.rb, eb.ro + o, eb.rs⟩) := Sg.put_le hσ
  obtain ⟨⟨c0, el0, fr0, h1, h2, h3, h4, h5⟩, h6⟩ := hr.cell b eb cs t (some g) hb hx.old hx.live
  have h6 : base ≤ eb.rb := h6
  have ho := hx.o_le; have he := hx.e_le
  have hlen : ((cs.drop o).take (e - o)).length = e - o := by simp; omega
  have hnl := hv.1
  obtain ⟨c', hset, hc'⟩ := WSet.setCells eb.rb new' (eb.ro + e) w c0 el0 fr0 h1 (by omega)
  have hcs : c'.size = c0.size := by
    have := congrArg List.length hc'
    rw [splice_length (by simp; omega)] at this
    simpa using this
  have hget : ∀ i, c'[i]? = if eb.ro + e ≤ i ∧ i < eb.ro + e + new'.length then new'[i - (eb.ro + e)]? else c0[i]? := by
    intro i
    have : c'.toList[i]? = (splice c0.toList (eb.ro + e) new')[i]? := by rw [hc']
    rw [splice_get (by simp; omega)] at this
    simpa using this
  have hrbl := (hr.dom _ _ hb).2
  refine ⟨⟨⟨eb.rb, eb.ro + o, eb.rs⟩, hr.extended hx hb (by rw [hset.size]; exact Nat.le_refl _) (by rw [hset.size]; exact hrbl) ?_ ?_ ?_ (.inl rfl) (fun _ => rfl), ⟨hle, hset.os, hset.tape, hset.output, by rw [hset.size]; exact Nat.le_refl _, ?_, ?_, ?_, by rw [hx.next]; omega, hx.untouched hr hb⟩, rfl⟩, ?_, ?_⟩
  · refine ⟨⟨c', el0, fr0, hset.at_, by rw [hcs]; exact h2, by simp; omega, ?_, h5⟩, h6⟩
    intro i v hv'
    rw [List.getElem?_append] at hv'
    rw [hget]
    split at hv'
    · rename_i hi
      rw [hlen] at hi
      rw [List.getElem?_take, if_pos hi, List.getElem?_drop] at hv'
      obtain ⟨v', k1, k2⟩ := h4 _ _ hv'
      simp only
      rw [if_neg (by omega), show eb.ro + o + i = eb.ro + (o + i) by omega]
      exact ⟨v', k1, k2.mono hle⟩
    · rename_i hi
      rw [hlen] at hi hv'
      obtain ⟨v', k1, k2⟩ := hv.get hv'
      have hil : i - (e - o) < new'.length := (List.getElem?_eq_some_iff.1 k1).1
      simp only
      rw [if_pos (by omega), show eb.ro + o + i - (eb.ro + e) = i - (e - o) by omega]
      exact ⟨v', k1, k2.mono hle⟩
  · refine ⟨⟨c', el0, fr0, hset.at_, by rw [hcs]; exact h2, by simp; omega, ?_, h5⟩, h6⟩
    intro i v hv'
    rw [List.getElem?_take] at hv'
    split at hv'
    · obtain ⟨v', k1, k2⟩ := h4 _ _ hv'
      rw [hget, if_neg (by omega)]; exact ⟨v', k1, k2.mono hle⟩
    · simp at hv'
  · intro x ex csx tx gx s hobx hxb hgx hlx hl
    obtain ⟨⟨c1, el1, fr1, q1, q2, q3, q4, q5⟩, q6⟩ := hl
    by_cases hrbe : ex.rb = eb.rb
    · -- it shares the memory: it is older, of the same group, and reaches no further
      cases gx with
      | none => have q6 : ex.rb < base := q6; omega
      | some gx =>
        have hgg := hr.apart x b ex eb csx cs tx t gx g s hb hobx hx.old hlx hx.live hrbe
        subst hgg
        obtain ⟨hmr, hf⟩ := hgx rfl
        obtain ⟨r, hbel, hmem, hpair⟩ := hr.below_spec hx.old hx.live
        have hxr : x ∈ r := by
          rcases hx.rest with ⟨_, hreq⟩ | hreq
          · rw [hreq, hbel] at hmr; simp at hmr; rcases hmr with h | h; exact absurd h hxb; exact h
          · rw [hreq] at hmr; simp at hmr; exact absurd hmr hxb
        have hle' := (List.pairwise_cons.1 hpair).1 x hxr eb ex cs csx t tx _ _ hb s hx.old hobx hrbe.symm
        rw [hrbe, h1] at q1; cases q1
        refine ⟨⟨c', el0, fr0, by rw [hrbe]; exact hset.at_, by rw [hcs]; exact q2, q3, ?_, q5⟩, q6⟩
        intro i v hv'
        have hil := (List.getElem?_eq_some_iff.1 hv').1
        obtain ⟨v', k1, k2⟩ := q4 i v hv'
        rw [hget, if_neg (by omega)]; exact ⟨v', k1, k2.mono hle⟩
    · refine ⟨⟨c1, el1, fr1, by rw [hset.ne _ hrbe]; exact q1, q2, q3, ?_, q5⟩, q6⟩
      intro i v hv'
      obtain ⟨v', k1, k2⟩ := q4 i v hv'; exact ⟨v', k1, k2.mono hle⟩
  · intro k hk; exact hset.ne k (by omega)
  · intro k _ hno; exact hset.ne k (fun e' => hno _ _ hb e'.symm)
  · intro x ex s hxx
    unfold Sg.put at hxx
    split at hxx
    · left; simp at hxx; subst hxx; exact ⟨b, eb, hb, rfl⟩
    · rw [s] at hxx; simp at hxx
  · intro j hj
    have : eb.ro + e + j < c0.size := by omega
    simp [World.cell?, h1, this]
  · intro j hj
    have := h5 rfl (eb.ro + e + j) (by omega)
    simp only [World.frozen?, h1]
    simpa using this
end Go.Cn
