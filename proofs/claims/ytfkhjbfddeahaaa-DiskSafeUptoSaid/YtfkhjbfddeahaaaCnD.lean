/- The canonical semantics: the operations that look at their operands alone: each answers in the model as here. -/
import Derived.Test.YtfkhjbfddeahaaaCnC
set_option linter.unusedVariables false
set_option linter.unusedSimpArgs false
namespace Go.Cn
section
variable {P : Program} {σ : Sg}

theorem VRel.to_nilIface {a : Value} (h : VRel σ a .nilIface) (hu : isUnk a = false) : a = .nilIface := by
  generalize hb : Value.nilIface = b at h
  cases h <;> first | rfl | (simp at hb; done) | (simp [isUnk, Cn.unk] at hu; done)
theorem VRel.to_agg {a : Value} {c : Array Value} (h : VRel σ a (.agg c)) (hu : isUnk a = false) : ∃ d, a = .agg d := by
  generalize hb : Value.agg c = b at h
  cases h <;> first | exact ⟨_, rfl⟩ | (simp at hb; done) | (simp [isUnk, Cn.unk] at hu; done)
theorem VRel.to_int {a : Value} {k : IntKind} {m : Int} (h : VRel σ a (.int k m)) (hu : isUnk a = false) : a = .int k m := by
  generalize hb : Value.int k m = b at h
  cases h <;> first | rfl | exact hb.symm | (simp at hb; done) | (simp [isUnk, Cn.unk] at hu; done)
theorem VRel.to_string {a : Value} {s : ByteArray} (h : VRel σ a (.string s)) (hu : isUnk a = false) : a = .string s := by
  generalize hb : Value.string s = b at h
  cases h <;> first | rfl | exact hb.symm | (simp at hb; done) | (simp [isUnk, Cn.unk] at hu; done)
theorem VRel.to_float {a : Value} {k : FloatKind} {m : Nat} (h : VRel σ a (.float k m)) (hu : isUnk a = false) : a = .float k m := by
  generalize hb : Value.float k m = b at h
  cases h <;> first | rfl | exact hb.symm | (simp at hb; done) | (simp [isUnk, Cn.unk] at hu; done)
theorem VRel.to_complex {a : Value} {k : FloatKind} {m n : Nat} (h : VRel σ a (.complex k m n)) (hu : isUnk a = false) : a = .complex k m n := by
  generalize hb : Value.complex k m n = b at h
  cases h <;> first | rfl | exact hb.symm | (simp at hb; done) | (simp [isUnk, Cn.unk] at hu; done)

theorem eqGuard_run {op : BinOp} {t : TypeId} {x y : Operand} {a b a' b' : Value} (ha : VRel σ a a') (hb : VRel σ b b') (hua : isUnk a = false) (hub : isUnk b = false)
    (h : eqPlain P t x y a b = true) (w : World) : (eqGuard op t x y a' b').run P w = .ok () w := by
  have body : (match (generalizing := false) a', b' with
      | .nilIface, .nilIface =>
        if (match (generalizing := false) x with | .const _ => true | _ => false) || (match (generalizing := false) y with | .const _ => true | _ => false) then pure ()
        else do if ← Op.eqGuardIn Op.maxDepth t a' b' then unsupported (.noEntry "binop/eql: two nil values of an interface type with methods, neither of them the literal nil") else pure ()
      | .agg _, .agg _ => do
        if !(← program).eqGuardType (← program).depth t then pure ()
        else if ← Op.eqGuardIn Op.maxDepth t a' b' then unsupported (.noEntry "binop/eql: two nil values of an interface type with methods, in a part of a struct or an array") else pure ()
      | _, _ => pure () : Sem Unit).run P w = .ok () w := by
    split
    · obtain rfl := ha.to_nilIface hua
      obtain rfl := hb.to_nilIface hub
      simp only [eqPlain, Bool.or_eq_true] at h
      rw [if_pos (by
        rw [Bool.or_eq_true]
        rcases h with h | h
        · left; cases x <;> simp_all
        · right; cases y <;> simp_all)]
      rfl
    · obtain ⟨c, rfl⟩ := ha.to_agg hua
      obtain ⟨d, rfl⟩ := hb.to_agg hub
      simp only [eqPlain, eqFree, Bool.not_eq_true'] at h
      simp [h]
    · rfl
  cases op <;> first | rfl | exact body

theorem ceq_known {d : Nat} {t : TypeId} {x y : Value} {r : Bool} (h : ceq P d t x y = some r) : isUnk x = false ∧ isUnk y = false := by
  cases d with
  | zero => simp [ceq] at h
  | succ d =>
    unfold ceq at h
    split at h <;> first | exact ⟨rfl, rfl⟩ | (simp at h; done)

theorem intOp_run {op : BinOp} {t : TypeId} {k : IntKind} {m n : Int} {v : Value} (h : intOp op k m n = some v) (hs : op ≠ .shl ∧ op ≠ .shr) (w : World) :
    (Go.binOp op t (.int k m) (.int k n)).run P w = .ok v w := by
  cases op <;> simp [intOp] at h <;> first
    | (subst h; simp [Go.binOp, Op.intArith, Op.intBits, Op.intCmp]; done)
    | (obtain ⟨h0, rfl⟩ := h; simp [Go.binOp, Op.intDiv, h0]; done)
    | (simp at hs; done)

theorem strOp_run {op : BinOp} {t : TypeId} {s u : ByteArray} {v : Value} (h : strOp op s u = some v) (w : World) :
    (Go.binOp op t (.string s) (.string u)).run P w = .ok v w := by
  cases op <;> simp [strOp] at h <;> first
    | (subst h; simp [Go.binOp, Op.stringOp]; done)
    | (obtain ⟨h0, rfl⟩ := h; simp [Go.binOp, Op.stringOp]; omega)

theorem shift_run {op : BinOp} {t : TypeId} {k k' : IntKind} {m n : Int} {v : Value} (h : shift op k m n = some v) (w : World) :
    (Go.binOp op t (.int k m) (.int k' n)).run P w = .ok v w := by
  unfold shift at h
  split at h
  · simp at h
  · rename_i hn
    cases op <;> simp at h <;> subst h <;> simp [Go.binOp, Op.shift, hn]

theorem cbin_run {op : BinOp} {t : TypeId} {x y : Operand} {a b a' b' : Value} {v : Value} (h : cbin P op t x y a b = some v) (ha : VRel σ a a') (hb : VRel σ b b') (w : World) :
    (do eqGuard op t x y a' b'; Go.binOp op t a' b' : Sem Value).run P w = .ok v w := by
  have plain : ∀ (r : Bool), ceq P Op.maxDepth t a b = some r → eqPlain P t x y a b = true → (op = .eql ∧ v = .bool r ∨ op = .neq ∧ v = .bool !r) →
      (∀ k m k' n, ¬ (a' = .int k m ∧ b' = .int k' n)) → (∀ s u, ¬ (a' = .string s ∧ b' = .string u)) → (∀ k m, a' ≠ .float k m) → (∀ k m n, a' ≠ .complex k m n) →
      (do eqGuard op t x y a' b'; Go.binOp op t a' b' : Sem Value).run P w = .ok v w := by
    intro r hr hp ho h1 h2 h3 h4
    obtain ⟨u1, u2⟩ := ceq_known hr
    have hg := eqGuard_run (op := op) ha hb u1 u2 hp w
    have he : (Op.equal t a' b').run P w = .ok r w := ceq_run w _ _ _ _ _ _ _ hr ha hb
    have hbin : (Go.binOp op t a' b').run P w = .ok v w := by
      rcases ho with ⟨rfl, rfl⟩ | ⟨rfl, rfl⟩
      · unfold Go.binOp
        split <;> first | (exfalso; first | exact h1 _ _ _ _ ⟨rfl, rfl⟩ | exact h2 _ _ ⟨rfl, rfl⟩ | exact h3 _ _ rfl | exact h4 _ _ _ rfl | (simp_all; done)) | (simp [he]; done) | simp_all
      · unfold Go.binOp
        split <;> first | (exfalso; first | exact h1 _ _ _ _ ⟨rfl, rfl⟩ | exact h2 _ _ ⟨rfl, rfl⟩ | exact h3 _ _ rfl | exact h4 _ _ _ rfl | (simp_all; done)) | (simp [he]; done) | simp_all
    simp [hg, hbin]
  unfold cbin at h
  split at h
  · rename_i k m k' n
    obtain rfl := ha.int_inv
    obtain rfl := hb.int_inv
    have hg := eqGuard_run (P := P) (t := t) (x := x) (y := y) (op := op) ha hb rfl rfl (by simp [eqPlain]) w
    split at h
    · simp [hg, shift_run h]
    · simp [hg, shift_run h]
    · rename_i h1 h2
      by_cases hk : k = k'
      · subst hk
        simp at h
        simp [hg, intOp_run h ⟨h1, h2⟩]
      · simp [hk] at h
  · obtain rfl := ha.string_inv
    obtain rfl := hb.string_inv
    have hg := eqGuard_run (P := P) (t := t) (x := x) (y := y) (op := op) ha hb rfl rfl (by simp [eqPlain]) w
    simp [hg, strOp_run h]
  · simp at h
  · simp at h
  · rename_i n3 n4 n1 n2
    have key : ∃ r, ceq P Op.maxDepth t a b = some r ∧ eqPlain P t x y a b = true ∧ (op = .eql ∧ v = .bool r ∨ op = .neq ∧ v = .bool !r) := by
      split at h
      · split at h
        · rename_i hp
          simp only [Option.map_eq_some_iff] at h
          obtain ⟨r, hr, rfl⟩ := h
          exact ⟨r, hr, hp, .inl ⟨rfl, rfl⟩⟩
        · simp at h
      · split at h
        · rename_i hp
          simp only [Option.map_eq_some_iff] at h
          obtain ⟨r, hr, rfl⟩ := h
          exact ⟨r, hr, hp, .inr ⟨rfl, rfl⟩⟩
        · simp at h
      · simp at h
    obtain ⟨r, hr, hp, ho⟩ := key
    obtain ⟨u1, u2⟩ := ceq_known hr
    refine plain r hr hp ho ?_ ?_ ?_ ?_
    · rintro k m k' n ⟨rfl, rfl⟩
      have e1 := ha.to_int u1
      have e2 := hb.to_int u2
      first | exact n1 _ _ _ _ e1 e2 | exact n2 _ _ _ _ e1 e2 | exact n3 _ _ _ _ e1 e2 | exact n4 _ _ _ _ e1 e2
    · rintro s u ⟨rfl, rfl⟩
      have e1 := ha.to_string u1
      have e2 := hb.to_string u2
      first | exact n1 _ _ e1 e2 | exact n2 _ _ e1 e2 | exact n3 _ _ e1 e2 | exact n4 _ _ e1 e2
    · rintro k m rfl
      have e1 := ha.to_float u1
      first | exact n1 _ _ e1 | exact n2 _ _ e1 | exact n3 _ _ e1 | exact n4 _ _ e1
    · rintro k m n rfl
      have e1 := ha.to_complex u1
      first | exact n1 _ _ _ e1 | exact n2 _ _ _ e1 | exact n3 _ _ _ e1 | exact n4 _ _ _ e1

theorem cun_run {op : UnOp} {a a' v : Value} (h : cun op a = some v) (ha : VRel σ a a') (w : World) : (Op.unary op a').run P w = .ok v w := by
  unfold cun at h
  split at h <;> first | (simp at h; done) | skip
  · obtain rfl := ha.int_inv; simp at h; subst h; simp [Op.unary, Op.intArith]
  · obtain rfl := ha.int_inv; simp at h; subst h; simp [Op.unary, Op.intBits]
  · obtain rfl := ha.bool_inv; simp at h; subst h; simp [Op.unary]
end
end Go.Cn
