/- The canonical semantics: the operations that look at their operands alone. -/
import Derived.Test.YtfkhjbfddeahaaaCnB
set_option linter.unusedVariables false
set_option linter.unusedSimpArgs false
namespace Go.Cn
section
variable {P : Program} {σ : Sg}

theorem run_size {t : TypeId} {n : Nat} (h : size? P t = some n) (w : World) : (sizeOf t).run P w = .ok n w := by
  unfold size? at h
  cases hi : P.info? t with
  | none => simp [hi] at h
  | some i => simp [hi] at h; simp [sizeOf, run_typeInfo w hi, h]

theorem run_zero {t : TypeId} {z : Value} (h : zero? P t = some z) (w : World) : (zeroValue t).run P w = .ok z w := by
  unfold zero? at h
  cases hi : P.info? t with
  | none => simp [hi] at h
  | some i => simp [hi] at h; simp [zeroValue, run_typeInfo w hi, h]

theorem run_agg {t : TypeId} {b : Bool} (h : agg? P t = some b) (w : World) : (isAgg t).run P w = .ok b w := by
  unfold agg? at h
  cases hu : P.underlying t with
  | none => simp [hu] at h
  | some d => cases d <;> simp [hu] at h <;> subst h <;> simp [isAgg, run_underlying hu]

theorem und_of_agg {t : TypeId} {b : Bool} (h : agg? P t = some b) : ∃ d, P.underlying t = some d := by
  unfold agg? at h
  cases hu : P.underlying t with
  | none => simp [hu] at h
  | some d => exact ⟨d, rfl⟩

def ARel (σ : Sg) (a a' : Array Value) : Prop := a.size = a'.size ∧ ∀ (i : Nat) x y, a[i]? = some x → a'[i]? = some y → VRel σ x y

theorem ARel.get {a a' : Array Value} (h : ARel σ a a') {i : Nat} {x : Value} (hx : a[i]? = some x) : ∃ y, a'[i]? = some y ∧ VRel σ x y := by
  have hi : i < a'.size := by rw [← h.1]; exact (Array.getElem?_eq_some_iff.1 hx).1
  exact ⟨a'[i], Array.getElem?_eq_getElem hi, h.2 i x _ hx (Array.getElem?_eq_getElem hi)⟩

theorem ARel.extract {a a' : Array Value} (h : ARel σ a a') (i j : Nat) : ARel σ (a.extract i j) (a'.extract i j) := by
  refine ⟨by simp [h.1], fun k x y hx hy => ?_⟩
  rw [Array.getElem?_extract] at hx hy
  split at hx
  · rename_i hk
    rw [if_pos (by simpa [h.1] using hk)] at hy
    exact h.2 _ x y hx hy
  · simp at hx

theorem part_rel {t : TypeId} {a a' : Array Value} {off : Nat} {v : Value} (h : part? P t a off = some v) (ha : ARel σ a a') (w : World) :
    ∃ v', (part t a' off).run P w = .ok v' w ∧ VRel σ v v' := by
  unfold part? at h
  cases hg : agg? P t with
  | none => simp [hg] at h
  | some b =>
    simp only [hg] at h
    cases b with
    | true =>
      cases hs : size? P t with
      | none => simp [hs] at h
      | some n =>
        simp [hs] at h
        subst h
        have := ha.extract (i := off) (j := off + n)
        exact ⟨_, by simp [part, run_agg hg, run_size hs], .agg _ _ this.1 this.2⟩
    | false =>
      simp at h
      obtain ⟨y, hy, hv⟩ := ha.get h
      exact ⟨y, by simp [part, run_agg hg, hy], hv⟩

theorem VRel.agg_inv {a : Array Value} {y : Value} (h : VRel σ (.agg a) y) : ∃ a', y = .agg a' ∧ ARel σ a a' := by
  cases h with
  | agg a a' h1 h2 => exact ⟨a', rfl, h1, h2⟩

theorem VRel.bool_inv {b : Bool} {y : Value} (h : VRel σ (.bool b) y) : y = .bool b := by cases h; rfl
theorem VRel.int_inv {k : IntKind} {n : Int} {y : Value} (h : VRel σ (.int k n) y) : y = .int k n := by cases h; rfl
theorem VRel.string_inv {s : ByteArray} {y : Value} (h : VRel σ (.string s) y) : y = .string s := by cases h; rfl
theorem VRel.pnil_inv {y : Value} (h : VRel σ (.pointer none) y) : y = .pointer none := by cases h; rfl
theorem VRel.ptr_inv {b o : Nat} {s : Option Nat} {y : Value} (h : VRel σ (.pointer (some ⟨b, o, s⟩)) y) : s = none ∧ ∃ e, σ b = some e ∧ y = .pointer (some ⟨e.rb, e.ro + o, none⟩) := by
  cases h with
  | ptr b o e hb => exact ⟨rfl, e, hb, rfl⟩
theorem VRel.nilIface_inv {y : Value} (h : VRel σ .nilIface y) : y = .nilIface := by cases h; rfl
theorem VRel.nilFunc_inv {y : Value} (h : VRel σ .nilFunc y) : y = .nilFunc := by cases h; rfl
theorem VRel.mnil_inv {y : Value} (h : VRel σ (.map none) y) : y = .map none := by cases h; rfl
theorem VRel.iface_inv {t : TypeId} {v : Value} {y : Value} (h : VRel σ (.iface t v) y) : ∃ v', y = .iface t v' ∧ VRel σ v v' := by
  cases h with
  | iface t v v' hv => exact ⟨v', rfl, hv⟩
theorem VRel.func_inv {fn : Fn} {a b : Array Value} {y : Value} (h : VRel σ (.func fn a b) y) : ∃ a' b', y = .func fn a' b' ∧ ARel σ a a' ∧ ARel σ b b' := by
  cases h with
  | func fn a b a' b' h1 h2 h3 h4 => exact ⟨a', b', rfl, ⟨h1, h3⟩, h2, h4⟩
theorem VRel.snil_inv {l c : Nat} {y : Value} (h : VRel σ (.slice none l c) y) : l = 0 ∧ c = 0 ∧ y = .slice none 0 0 := by cases h; exact ⟨rfl, rfl, rfl⟩
/-- The shape of a slice. -/
theorem VRel.slice_inv {a : Addr} {l c : Nat} {y : Value} (h : VRel σ (.slice (some a) l c) y) :
    ∃ a' c' e, y = .slice (some a') l c' ∧ σ a.block = some e ∧ l ≤ c ∧ c ≤ c' ∧ (c' = 0 ∨ a' = ⟨e.rb, e.ro + a.off, none⟩) ∧
      ((a.spot = none ∧ c = c') ∨ ∃ n, a.spot = some n ∧ (c' = 0 ∨ e.ro + a.off + c' * n ≤ e.rs)) := by
  cases h with
  | sexact b o l c e a hb hl ha => exact ⟨a, c, e, rfl, hb, hl, Nat.le_refl _, ha, .inl ⟨rfl, rfl⟩⟩
  | sopen b o n l c c' e a hb hl hc ha => exact ⟨a, c', e, rfl, hb, hl, hc, ha.imp id (·.1), .inr ⟨n, rfl, ha.imp id (·.2)⟩⟩
theorem VRel.map_inv {b : Nat} {y : Value} (h : VRel σ (.map (some b)) y) : ∃ e, σ b = some e ∧ y = .map (some e.rb) := by
  cases h with
  | map b e hb => exact ⟨e, hb, rfl⟩
theorem VRel.tuple_inv {a : Array Value} {y : Value} (h : VRel σ (.tuple a) y) (h1 : a.size ≠ 1) : ∃ a', y = .tuple a' ∧ ARel σ a a' := by
  cases h with
  | unk v => simp [Cn.unk] at h1
  | tuple a a' h1 h2 h3 => exact ⟨a', rfl, h1, h3⟩
theorem VRel.undef_inv {y : Value} (h : VRel σ (.tuple #[]) y) : y = .tuple #[] := by
  obtain ⟨a', rfl, h1, _⟩ := h.tuple_inv (by simp)
  have : a' = #[] := Array.eq_empty_of_size_eq_zero (by simpa using h1.symm)
  rw [this]

/-- Elementwise relation of what operands say. -/
theorem ev_map {tm : List Value} {a : Act} (h : TRel σ tm a.tmps) (xs : Array Operand) : ARel σ (xs.map (ev tm)) (xs.map a.eval) := by
  refine ⟨by simp, fun i x y hx hy => ?_⟩
  simp only [Array.getElem?_map, Option.map_eq_some_iff] at hx hy
  obtain ⟨p, hp, rfl⟩ := hx
  obtain ⟨q, hq, rfl⟩ := hy
  rw [hp] at hq; cases hq
  exact ev_rel h p

/-! ### == -/
theorem eqFields_run {d : Nat} {xs ys xs' ys' : Array Value} (hx : ARel σ xs xs') (hy : ARel σ ys ys') (w : World)
    (ih : ∀ (t : TypeId) (x y x' y' : Value) (r : Bool), ceq P d t x y = some r → VRel σ x x' → VRel σ y y' → (Op.equalIn d t x' y').run P w = .ok r w) :
    ∀ (fs : List Field) (r : Bool), fs.foldr (fun f acc =>
        if f.name ≠ "_" then
          match part? P f.type xs f.offset, part? P f.type ys f.offset with
          | some a, some b => match ceq P d f.type a b with
            | some true => acc
            | some false => some false
            | none => none
          | _, _ => none
        else acc) (some true) = some r → (Op.eqFields d xs' ys' fs).run P w = .ok r w
  | [], r, h => by
    simp at h; subst h
    simp [Op.eqFields]
  | f :: fs, r, h => by
    simp only [List.foldr_cons] at h
    by_cases hn : f.name ≠ "_"
    · simp only [hn, if_true, ne_eq, not_false_eq_true] at h
      cases hp : part? P f.type xs f.offset with
      | none => simp [hp] at h
      | some a => cases hq : part? P f.type ys f.offset with
        | none => simp [hp, hq] at h
        | some b =>
          obtain ⟨a', ha, hav⟩ := part_rel hp hx w
          obtain ⟨b', hb, hbv⟩ := part_rel hq hy w
          cases hc : ceq P d f.type a b with
          | none => simp [hp, hq, hc] at h
          | some t =>
            have hrun := ih _ _ _ _ _ _ hc hav hbv
            cases t with
            | true =>
              simp only [hp, hq, hc] at h
              have := eqFields_run hx hy w ih fs r h
              simpa [Op.eqFields, hn, ha, hb, hrun] using this
            | false =>
              simp only [hp, hq, hc] at h
              cases h
              simp [Op.eqFields, hn, ha, hb, hrun]
    · simp only [hn, if_false] at h
      have := eqFields_run hx hy w ih fs r h
      simpa [Op.eqFields, hn] using this

theorem eqItems_run {d : Nat} {elem : TypeId} {n : Nat} {xs ys xs' ys' : Array Value} (hx : ARel σ xs xs') (hy : ARel σ ys ys') (w : World)
    (ih : ∀ (t : TypeId) (x y x' y' : Value) (r : Bool), ceq P d t x y = some r → VRel σ x x' → VRel σ y y' → (Op.equalIn d t x' y').run P w = .ok r w) :
    ∀ (is : List Nat) (r : Bool), is.foldr (fun i acc =>
          match part? P elem xs (i * n), part? P elem ys (i * n) with
          | some a, some b => match ceq P d elem a b with
            | some true => acc
            | some false => some false
            | none => none
          | _, _ => none) (some true) = some r → (Op.eqItems d elem n xs' ys' is).run P w = .ok r w
  | [], r, h => by
    simp at h; subst h
    simp [Op.eqItems]
  | f :: fs, r, h => by
    simp only [List.foldr_cons] at h
    cases hp : part? P elem xs (f * n) with
      | none => simp [hp] at h
      | some a => cases hq : part? P elem ys (f * n) with
        | none => simp [hp, hq] at h
        | some b =>
          obtain ⟨a', ha, hav⟩ := part_rel hp hx w
          obtain ⟨b', hb, hbv⟩ := part_rel hq hy w
          cases hc : ceq P d elem a b with
          | none => simp [hp, hq, hc] at h
          | some t =>
            have hrun := ih _ _ _ _ _ _ hc hav hbv
            cases t with
            | true =>
              simp only [hp, hq, hc] at h
              have := eqItems_run hx hy w ih fs r h
              simpa [Op.eqItems, ha, hb, hrun] using this
            | false =>
              simp only [hp, hq, hc] at h
              cases h
              simp [Op.eqItems, ha, hb, hrun]

theorem ceq_run (w : World) : ∀ (d : Nat) (t : TypeId) (x y x' y' : Value) (r : Bool), ceq P d t x y = some r → VRel σ x x' → VRel σ y y' → (Op.equalIn d t x' y').run P w = .ok r w
  | 0, _, _, _, _, _, _, h, _, _ => by simp [ceq] at h
  | d + 1, t, x, y, x', y', r, h, hx, hy => by
    have ih := ceq_run w d
    unfold ceq at h
    split at h
    case h_1 a b hu => obtain rfl := hx.bool_inv; obtain rfl := hy.bool_inv; simp at h; subst h; simp [Op.equalIn, run_underlying hu]
    case h_2 k0 k a k' b hu =>
      obtain rfl := hx.int_inv; obtain rfl := hy.int_inv
      by_cases hk : k = k'
      · simp [hk] at h; subst h; simp [Op.equalIn, run_underlying hu, hk]
      · simp [hk] at h
    case h_3 a b hu => obtain rfl := hx.string_inv; obtain rfl := hy.string_inv; simp at h; subst h; simp [Op.equalIn, run_underlying hu]
    case h_4 el b hu =>
      obtain rfl := hx.pnil_inv
      cases b with
      | none => obtain rfl := hy.pnil_inv; simp at h; subst h; simp [Op.equalIn, run_underlying hu]
      | some a =>
        obtain ⟨bb, o, s⟩ := a
        obtain ⟨rfl, e, he, rfl⟩ := hy.ptr_inv; simp at h; subst h; simp [Op.equalIn, run_underlying hu]
    case h_5 el a hu =>
      obtain ⟨bb, o, s⟩ := a
      obtain ⟨rfl, e, he, rfl⟩ := hx.ptr_inv
      obtain rfl := hy.pnil_inv
      simp at h; subst h; simp [Op.equalIn, run_underlying hu]
    case h_6 ms hu => obtain rfl := hx.nilIface_inv; obtain rfl := hy.nilIface_inv; simp at h; subst h; simp [Op.equalIn, run_underlying hu]
    case h_7 ms u v hu => obtain rfl := hx.nilIface_inv; obtain ⟨v', rfl, _⟩ := hy.iface_inv; simp at h; subst h; simp [Op.equalIn, run_underlying hu]
    case h_8 ms u v hu => obtain rfl := hy.nilIface_inv; obtain ⟨v', rfl, _⟩ := hx.iface_inv; simp at h; subst h; simp [Op.equalIn, run_underlying hu]
    case h_9 fs xs ys hu =>
      obtain ⟨xs', rfl, hxa⟩ := hx.agg_inv
      obtain ⟨ys', rfl, hya⟩ := hy.agg_inv
      by_cases hs : P.stoodInHeld t = true
      · simp [hs] at h
      · simp only [hs, if_false, Bool.false_eq_true] at h
        have hf : P.fieldsOf t = fs := by simp [Program.fieldsOf, hu]
        rw [run_equalIn_struct w d t xs' ys' (by rw [hf]; exact hu) (by simpa using hs), hf]
        exact eqFields_run hxa hya w ih _ _ h
    case h_10 len el xs ys hu =>
      obtain ⟨xs', rfl, hxa⟩ := hx.agg_inv
      obtain ⟨ys', rfl, hya⟩ := hy.agg_inv
      cases hs : size? P el with
      | none => simp [hs] at h
      | some n =>
        simp only [hs] at h
        unfold size? at hs
        cases hi : P.info? el with
        | none => simp [hi] at hs
        | some i =>
          simp [hi] at hs
          rw [run_equalIn_array w d _ _ hu hi]
          have hc : P.cellsOf el = n := by simp [Program.cellsOf, hi, hs]
          rw [hc]
          exact eqItems_run hxa hya w ih _ _ h
    case h_11 el l c b m k hu =>
      obtain ⟨rfl, rfl, rfl⟩ := hx.snil_inv
      cases b with
      | none => obtain ⟨rfl, rfl, rfl⟩ := hy.snil_inv; simp at h; subst h; simp [Op.equalIn, run_underlying hu]
      | some a => obtain ⟨a', c', e, rfl, _⟩ := hy.slice_inv; simp at h; subst h; simp [Op.equalIn, run_underlying hu]
    case h_12 el a l c m k hu =>
      obtain ⟨a', c', e, rfl, _⟩ := hx.slice_inv
      obtain ⟨rfl, rfl, rfl⟩ := hy.snil_inv; simp at h; subst h; simp [Op.equalIn, run_underlying hu]
    case h_13 k el b hu =>
      obtain rfl := hx.mnil_inv
      cases b with
      | none => obtain rfl := hy.mnil_inv; simp at h; subst h; simp [Op.equalIn, run_underlying hu]
      | some a => obtain ⟨e, he, rfl⟩ := hy.map_inv; simp at h; subst h; simp [Op.equalIn, run_underlying hu]
    case h_14 k el b hu =>
      obtain rfl := hy.mnil_inv
      obtain ⟨e, he, rfl⟩ := hx.map_inv; simp at h; subst h; simp [Op.equalIn, run_underlying hu]
    case h_15 p1 p2 p3 hu => obtain rfl := hx.nilFunc_inv; obtain rfl := hy.nilFunc_inv; simp at h; subst h; simp [Op.equalIn, run_underlying hu]
    case h_16 p1 p2 p3 fn f1 f2 hu => obtain rfl := hx.nilFunc_inv; obtain ⟨_, _, rfl, _⟩ := hy.func_inv; simp at h; subst h; simp [Op.equalIn, run_underlying hu]
    case h_17 p1 p2 p3 fn f1 f2 hu => obtain rfl := hy.nilFunc_inv; obtain ⟨_, _, rfl, _⟩ := hx.func_inv; simp at h; subst h; simp [Op.equalIn, run_underlying hu]
    case h_18 => simp at h
end
end Go.Cn
