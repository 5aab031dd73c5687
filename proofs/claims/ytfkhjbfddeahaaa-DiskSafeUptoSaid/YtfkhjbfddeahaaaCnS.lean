/- The canonical semantics: THE LAW: what the canonical run comes to, the model's run comes to. -/
import Derived.Test.YtfkhjbfddeahaaaCnR
set_option linter.unusedVariables false
set_option linter.unusedSimpArgs false
namespace Go.Cn
section
variable {P : Program}

/-- What stands behind code. -/
def AfterC (base : Nat) (σ : Sg) (h : Hp) (w : World) (ws : List Tmp) (tm : List Value) (a : Act) (K : Exit → List Value → Hp → Prop) (Q : Exit → Act → World → Prop) : Prop :=
  ∀ e σ' tm' h' a' w', Ext base σ h w σ' h' w' → HR base σ' h' w' → TRel σ' tm' a'.tmps → a'.defers = a.defers → Same ws tm tm' → K e tm' h' → Q e a' w'

theorem xC_sound (hm : P.follows .mixedOrders = true) {ann : Nat → List Tmp} : ∀ (c : Code) {K : Exit → List Value → Hp → Prop} {base : Nat} {σ : Sg} {h : Hp} {w : World} {tm : List Value} {a : Act} {Q : Exit → Act → World → Prop},
    xC P alP (SCalls P) ann c K tm h → HR base σ h w → TRel σ tm a.tmps → AfterC base σ h w (wr c) tm a K Q → c.wp P Q a w
  | .skip, K, base, σ, h, w, tm, a, Q, hx, hr, ht, hQ => wp_skip (hQ .normal σ tm h a w (Ext.refl _ _ _ _) hr ht rfl (Same.refl _ _) hx)
  | .exit id, K, base, σ, h, w, tm, a, Q, hx, hr, ht, hQ => wp_exit (hQ (.exit id) σ tm h a w (Ext.refl _ _ _ _) hr ht rfl (Same.refl _ _) hx)
  | .ret, K, base, σ, h, w, tm, a, Q, hx, hr, ht, hQ => wp_ret (hQ .ret σ tm h a w (Ext.refl _ _ _ _) hr ht rfl (Same.refl _ _) hx)
  | .label l, K, base, σ, h, w, tm, a, Q, hx, hr, ht, hQ => wp_label (hQ .normal σ tm h a w (Ext.refl _ _ _ _) hr ht rfl (Same.refl _ _) hx)
  | .region id ops false, K, base, σ, h, w, tm, a, Q, hx, hr, ht, hQ => by
    refine wp_region ?_
    rw [List.range_eq_range']
    have hx' := xOps_same (ws := wr (.region id ops false)) (fun o ho t hd => List.mem_filterMap.2 ⟨o, ho, hd⟩) hx
    have := xOps_sound (Q := Q) ops.toList 0 (by simp) hr ht hx' fun σ' tm' h' a' w' he hr' ht' hd hk => hQ .normal σ' tm' h' a' w' he hr' ht' hd hk.2 hk.1
    simpa using this
  | .region id ops true, K, base, σ, h, w, tm, a, Q, hx, hr, ht, hQ => by
    have hx' := xRegion_same (ws := wr (.region id ops true)) (fun o ho t hd => List.mem_filterMap.2 ⟨o, ho, hd⟩) hx
    exact xRegion_sound hm hr ht hx' fun σ' tm' h' a' w' he hr' ht' hd hk => hQ .normal σ' tm' h' a' w' he hr' ht' hd hk.2 hk.1
  | .seq x y, K, base, σ, h, w, tm, a, Q, hx, hr, ht, hQ => by
    refine wp_seq (xC_sound hm x hx hr ht ?_)
    intro e σ' tm' h' a' w' he hr' ht' hd hsame hk
    have s1 : Same (wr (.seq x y)) tm tm' := hsame.mono fun t h => List.mem_append.2 (.inl h)
    cases e with
    | normal =>
      have hj : TRel σ' (joinT (ann (joinId y)) x tm tm') a'.tmps ∧ Same (wr x) tm (joinT (ann (joinId y)) x tm tm') := by
        unfold joinT
        split
        · exact ⟨ht', hsame⟩
        · exact ⟨head_rel ht' (fun t ht _ => hsame.2 t ht) hsame.1, head_same hsame⟩
      refine xC_sound hm y hk hr' hj.1 ?_
      intro e2 σ2 tm2 h2 a2 w2 he2 hr2 ht2 hd2 hs2 hk2
      exact hQ e2 σ2 tm2 h2 a2 w2 (he.trans he2) hr2 ht2 (hd2.trans hd) ((hj.2.mono fun t h => List.mem_append.2 (.inl h)).trans (hs2.mono fun t h => List.mem_append.2 (.inr h))) hk2
    | exit id => exact hQ _ σ' tm' h' a' w' he hr' ht' hd s1 hk
    | goto l => exact hQ _ σ' tm' h' a' w' he hr' ht' hd s1 hk
    | ret => exact hQ _ σ' tm' h' a' w' he hr' ht' hd s1 hk
    | panic c => exact hQ _ σ' tm' h' a' w' he hr' ht' hd s1 hk
    | outgrown => exact hQ _ σ' tm' h' a' w' he hr' ht' hd s1 hk
  | .cond c x y, K, base, σ, h, w, tm, a, Q, hx, hr, ht, hQ => by
    simp only [xC] at hx
    have hc := ev_rel ht c
    split at hx
    · rename_i t he
      rw [he] at hc
      cases t with
      | true =>
        simp only [if_true] at hx
        refine wp_cond_true hc.bool_inv (xC_sound hm x hx hr ht ?_)
        exact fun e σ' tm' h' a' w' h1 h2 h3 h4 h5 h6 => hQ e σ' tm' h' a' w' h1 h2 h3 h4 (h5.mono fun t h => List.mem_append.2 (.inl h)) h6
      | false =>
        simp only [Bool.false_eq_true, if_false] at hx
        refine wp_cond_false hc.bool_inv (xC_sound hm y hx hr ht ?_)
        exact fun e σ' tm' h' a' w' h1 h2 h3 h4 h5 h6 => hQ e σ' tm' h' a' w' h1 h2 h3 h4 (h5.mono fun t h => List.mem_append.2 (.inr h)) h6
    · exact hx.elim
  | .block id c, K, base, σ, h, w, tm, a, Q, hx, hr, ht, hQ => by
    refine wp_block (xC_sound hm c hx hr ht ?_)
    intro e σ' tm' h' a' w' he hr' ht' hd hs hk
    cases e with
    | exit i =>
      simp only [Exit.inBlock]
      simp only at hk
      split
      · rename_i hi; rw [if_pos hi] at hk; exact hQ _ σ' tm' h' a' w' he hr' ht' hd hs hk
      · rename_i hi; rw [if_neg hi] at hk; exact hQ _ σ' tm' h' a' w' he hr' ht' hd hs hk
    | normal => exact hQ _ σ' tm' h' a' w' he hr' ht' hd hs hk
    | goto l => exact hQ _ σ' tm' h' a' w' he hr' ht' hd hs hk
    | ret => exact hQ _ σ' tm' h' a' w' he hr' ht' hd hs hk
    | panic c => exact hQ _ σ' tm' h' a' w' he hr' ht' hd hs hk
    | outgrown => exact hQ _ σ' tm' h' a' w' he hr' ht' hd hs hk
  | .loop c, K, base, σ, h, w, tm, a, Q, hx, hr, ht, hQ => by
    simp only [xC] at hx
    obtain ⟨n, hx⟩ := hx
    refine wp_loop_rounds n ?_
    have key : ∀ (n : Nat) (vals : List Value) (σ1 : Sg) (h1 : Hp) (w1 : World) (a1 : Act), Ext base σ h w σ1 h1 w1 → HR base σ1 h1 w1 → a1.defers = a.defers →
        TRel σ1 (setKeep (ann ((firstRegion c).getD 0)) vals 0 (forget (wr c) (ann ((firstRegion c).getD 0)) tm)) a1.tmps →
        Same (wr c) tm (setKeep (ann ((firstRegion c).getD 0)) vals 0 (forget (wr c) (ann ((firstRegion c).getD 0)) tm)) →
        loopX False (fun k vals h => xC P alP (SCalls P) ann c k (setKeep (ann ((firstRegion c).getD 0)) vals 0 (forget (wr c) (ann ((firstRegion c).getD 0)) tm)) h) (ann ((firstRegion c).getD 0)) K n vals h1 → Code.rounds P c Q n a1 w1 := by
      intro n
      induction n with
      | zero => intro vals σ1 h1 w1 a1 _ _ _ _ _ hx; exact hx.elim
      | succ n ih =>
        intro vals σ1 h1 w1 a1 he1 hr1 hd1 ht1 hs1 hx
        show c.wp P (Exit.then (Code.rounds P c Q n) Q) a1 w1
        unfold loopX at hx
        refine xC_sound hm c hx hr1 ht1 ?_
        intro e σ2 tm2 h2 a2 w2 he2 hr2 ht2 hd2 hs2 hk2
        have hs := hs1.trans hs2
        cases e with
        | normal => exact ih _ σ2 h2 w2 a2 (he1.trans he2) hr2 (hd2.trans hd1) (head_rel ht2 (fun t ht _ => hs.2 t ht) hs.1) (head_same hs) hk2
        | exit id => exact hQ _ σ2 tm2 h2 a2 w2 (he1.trans he2) hr2 ht2 (hd2.trans hd1) hs hk2
        | goto l => exact hQ _ σ2 tm2 h2 a2 w2 (he1.trans he2) hr2 ht2 (hd2.trans hd1) hs hk2
        | ret => exact hQ _ σ2 tm2 h2 a2 w2 (he1.trans he2) hr2 ht2 (hd2.trans hd1) hs hk2
        | panic x => exact hQ _ σ2 tm2 h2 a2 w2 (he1.trans he2) hr2 ht2 (hd2.trans hd1) hs hk2
        | outgrown => exact hQ _ σ2 tm2 h2 a2 w2 (he1.trans he2) hr2 ht2 (hd2.trans hd1) hs hk2
    exact key n _ σ h w a (Ext.refl _ _ _ _) hr rfl (head_rel ht (fun _ _ _ => rfl) rfl) (head_same (Same.refl _ _)) hx
  | .rangeFunc f ps x y, K, base, σ, h, w, tm, a, Q, hx, hr, ht, hQ => hx.elim
  | .scope c, K, base, σ, h, w, tm, a, Q, hx, hr, ht, hQ => hx.elim
  | .goto l, K, base, σ, h, w, tm, a, Q, hx, hr, ht, hQ => hx.elim
  | .refuse s, K, base, σ, h, w, tm, a, Q, hx, hr, ht, hQ => hx.elim
end
end Go.Cn
